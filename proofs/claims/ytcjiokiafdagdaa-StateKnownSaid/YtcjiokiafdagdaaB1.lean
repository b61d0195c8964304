/- The State laws: contracts of the small functions. -/
import Derived.Test.YtcjiokiafdagdaaB0
namespace Go.Proofs.Ytcjiokiafdagdaa
open Go.Sx Go.RowKit
set_option linter.unusedVariables false
set_option linter.unusedSimpArgs false
set_option maxRecDepth 100000
set_option maxHeartbeats 1000000
def mn (x y : Int) : Int := if y < x then y else x
def mx (x y : Int) : Int := if x < y then y else x
def top : Int := 18446744073709551615
def spCheck (a b : Int) : Int := if a > b then 150 else 0
def vEq (a b : Vl) : Bool := (a.k == b.k) && ((a.lo == b.lo) && ((a.hi == b.hi) && ((a.id == b.id) && ((a.off == b.off) && true))))
theorem vEq_iff {a b : Vl} : vEq a b = true ↔ a = b := by
  cases a; cases b
  simp [vEq]
def vZero : Vl := ⟨0, 0, 0, 0, 0⟩
def commonF (a b : Vl) : Vl := if vEq a b = true then a else if a.k = 1 ∧ b.k = 1 then ⟨1, mn a.lo b.lo, mx a.hi b.hi, 0, 0⟩ else vZero
def commonR (a b : Vl) : Vl := if a.k = 1 ∧ b.k = 1 then ⟨1, mn a.lo b.lo, mx a.hi b.hi, 0, 0⟩ else if vEq a b = true then a else vZero
def saysR (a b : Vl) : Bool := if b.k = 0 then true else if a.k = 1 ∧ b.k = 1 then decide (a.lo ≥ b.lo) && decide (a.hi ≤ b.hi) else vEq a b
def pointerF (v : Vl) : Bool := v.k == 2 && v.lo == 0 && v.hi == 0 && decide (0 ≤ v.id) && decide (v.id ≤ 256) && decide (0 ≤ v.off) && decide (v.off ≤ 2048)
def endF (v : Vl) : Bool := v.k == 3 && v.lo == 0 && v.hi == 0 && v.id == 0 && v.off == 0
def bringF (n m : Int) : Int := if n.tmod m < 0 then IntKind.i64.wrap (n.tmod m + m) else n.tmod m
def pickF (a b n : Int) : Int := if a = 0 ∧ b = top then n else IntKind.u64.wrap (a + n.tmod (IntKind.u64.wrap (IntKind.u64.wrap (b - a) + 1)))
def mayR (v : Vl) : Bool := if v.k = 0 then vEq v vZero else if v.k = 1 then (spCheck v.lo v.hi == 0) && v.id == 0 && v.off == 0 else if v.k = 2 then pointerF v else endF v
def check38T : List (AV G) → Option (Bool × AT G)
  | [.a [.v (.int .u64 a), .v (.int .u64 b)]] => some (true, erA (spCheck a b))
  | _ => none
theorem check38_ok : ∀ a r, check38T a = some (true, r) → AOK G P 38 a r := by
  intro args r h
  unfold check38T at h
  split at h
  · rename_i a b
    cases h
    refine aok_exec (T := _) aTabOK_nil mixed eqs_ok 0 [] [] Try.func38 rfl rfl rfl rfl rfl rfl rfl rfl rfl rfl ?_
    repeat' ((conv => whnf); first | with_reducible refine br_pre rfl ?_ | with_reducible refine br_true ?_ | with_reducible refine br_false ?_ | with_reducible refine br_true' (by assumption) ?_ | with_reducible refine br_false' (by assumption) ?_ | (with_reducible refine br_intro (fun h => ?_) (fun h => ?_) <;> try exact absurd h (by decide)) | ((with_reducible apply drw_intro); · kernel_rfl))
    all_goals try (conv => whnf)
    all_goals first | refine doneA_plain rfl rfl rfl (show (_ : Int) = _ from ?_) | (exfalso; simp_all [top]; done)
    all_goals simp_all [spCheck]
  · cases h
def check41T : List (AV G) → Option (Bool × AT G)
  | [.a [.v (.int .u64 a), .v (.int .u64 b)]] => some (true, erA (spCheck a b))
  | _ => none
theorem check41_ok : ∀ a r, check41T a = some (true, r) → AOK G P 41 a r := by
  intro args r h
  unfold check41T at h
  split at h
  · rename_i a b
    cases h
    refine aok_exec (T := _) aTabOK_nil mixed eqs_ok 0 [] [] Try.func41 rfl rfl rfl rfl rfl rfl rfl rfl rfl rfl ?_
    repeat' ((conv => whnf); first | with_reducible refine br_pre rfl ?_ | with_reducible refine br_true ?_ | with_reducible refine br_false ?_ | with_reducible refine br_true' (by assumption) ?_ | with_reducible refine br_false' (by assumption) ?_ | (with_reducible refine br_intro (fun h => ?_) (fun h => ?_) <;> try exact absurd h (by decide)) | ((with_reducible apply drw_intro); · kernel_rfl))
    all_goals try (conv => whnf)
    all_goals first | refine doneA_plain rfl rfl rfl (show (_ : Int) = _ from ?_) | (exfalso; simp_all [top]; done)
    all_goals simp_all [spCheck]
  · cases h
def under45T : List (AV G) → Option (Bool × AT G)
  | [.a [.v (.int .u64 a), .v (.int .u64 b)], .a [.v (.int .u64 c), .v (.int .u64 d)]] => some (true, boA (decide (a ≥ c) && decide (b ≤ d)))
  | _ => none
theorem under45_ok : ∀ a r, under45T a = some (true, r) → AOK G P 45 a r := by
  intro args r h
  unfold under45T at h
  split at h
  · rename_i a b c d
    cases h
    refine aok_exec (T := _) aTabOK_nil mixed eqs_ok 0 [] [] Try.func45 rfl rfl rfl rfl rfl rfl rfl rfl rfl rfl ?_
    repeat' ((conv => whnf); first | with_reducible refine br_pre rfl ?_ | with_reducible refine br_true ?_ | with_reducible refine br_false ?_ | with_reducible refine br_true' (by assumption) ?_ | with_reducible refine br_false' (by assumption) ?_ | (with_reducible refine br_intro (fun h => ?_) (fun h => ?_) <;> try exact absurd h (by decide)) | ((with_reducible apply drw_intro); · kernel_rfl))
    all_goals try (conv => whnf)
    all_goals first | refine doneA_plain rfl rfl rfl (show (_ : Bool) = _ from ?_) | (exfalso; simp_all [top]; done)
    all_goals (simp_all <;> omega)
  · cases h
def under48T : List (AV G) → Option (Bool × AT G)
  | [.a [.v (.int .u64 a), .v (.int .u64 b)], .a [.v (.int .u64 c), .v (.int .u64 d)]] => some (true, boA (decide (a ≥ c) && decide (b ≤ d)))
  | _ => none
theorem under48_ok : ∀ a r, under48T a = some (true, r) → AOK G P 48 a r := by
  intro args r h
  unfold under48T at h
  split at h
  · rename_i a b c d
    cases h
    refine aok_exec (T := _) aTabOK_nil mixed eqs_ok 0 [] [] Try.func48 rfl rfl rfl rfl rfl rfl rfl rfl rfl rfl ?_
    repeat' ((conv => whnf); first | with_reducible refine br_pre rfl ?_ | with_reducible refine br_true ?_ | with_reducible refine br_false ?_ | with_reducible refine br_true' (by assumption) ?_ | with_reducible refine br_false' (by assumption) ?_ | (with_reducible refine br_intro (fun h => ?_) (fun h => ?_) <;> try exact absurd h (by decide)) | ((with_reducible apply drw_intro); · kernel_rfl))
    all_goals try (conv => whnf)
    all_goals first | refine doneA_plain rfl rfl rfl (show (_ : Bool) = _ from ?_) | (exfalso; simp_all [top]; done)
    all_goals (simp_all <;> omega)
  · cases h
def join51T : List (AV G) → Option (Bool × AT G)
  | [.a [.v (.int .u64 a), .v (.int .u64 b)], .a [.v (.int .u64 c), .v (.int .u64 d)]] => some (true, .v (spV (mn a c) (mx b d)))
  | _ => none
theorem join51_ok : ∀ a r, join51T a = some (true, r) → AOK G P 51 a r := by
  intro args r h
  unfold join51T at h
  split at h
  · rename_i a b c d
    cases h
    refine aok_exec (T := _) aTabOK_nil mixed eqs_ok 0 [] [] Try.func51 rfl rfl rfl rfl rfl rfl rfl rfl rfl rfl ?_
    repeat' ((conv => whnf); first | with_reducible refine br_pre rfl ?_ | with_reducible refine br_true ?_ | with_reducible refine br_false ?_ | with_reducible refine br_true' (by assumption) ?_ | with_reducible refine br_false' (by assumption) ?_ | (with_reducible refine br_intro (fun h => ?_) (fun h => ?_) <;> try exact absurd h (by decide)) | ((with_reducible apply drw_intro); · kernel_rfl))
    all_goals try (conv => whnf)
    all_goals first | refine doneA_plain rfl rfl rfl ⟨?_, ?_, trivial⟩ | (exfalso; simp_all [top]; done)
    all_goals (show (_ : Int) = _; simp [mn, mx])
  · cases h
def join54T : List (AV G) → Option (Bool × AT G)
  | [.a [.v (.int .u64 a), .v (.int .u64 b)], .a [.v (.int .u64 c), .v (.int .u64 d)]] => some (true, .v (spV (mn a c) (mx b d)))
  | _ => none
theorem join54_ok : ∀ a r, join54T a = some (true, r) → AOK G P 54 a r := by
  intro args r h
  unfold join54T at h
  split at h
  · rename_i a b c d
    cases h
    refine aok_exec (T := _) aTabOK_nil mixed eqs_ok 0 [] [] Try.func54 rfl rfl rfl rfl rfl rfl rfl rfl rfl rfl ?_
    repeat' ((conv => whnf); first | with_reducible refine br_pre rfl ?_ | with_reducible refine br_true ?_ | with_reducible refine br_false ?_ | with_reducible refine br_true' (by assumption) ?_ | with_reducible refine br_false' (by assumption) ?_ | (with_reducible refine br_intro (fun h => ?_) (fun h => ?_) <;> try exact absurd h (by decide)) | ((with_reducible apply drw_intro); · kernel_rfl))
    all_goals try (conv => whnf)
    all_goals first | refine doneA_plain rfl rfl rfl ⟨?_, ?_, trivial⟩ | (exfalso; simp_all [top]; done)
    all_goals (show (_ : Int) = _; simp [mn, mx])
  · cases h
def all57T : List (AV G) → Option (Bool × AT G)
  | [] => some (true, .v (spV 0 top))
  | _ => none
theorem all57_ok : ∀ a r, all57T a = some (true, r) → AOK G P 57 a r := by
  intro args r h
  unfold all57T at h
  split at h
  · skip
    cases h
    refine aok_exec (T := _) aTabOK_nil mixed eqs_ok 0 [] [] Try.func57 rfl rfl rfl rfl rfl rfl rfl rfl rfl rfl ?_
    repeat' ((conv => whnf); first | with_reducible refine br_pre rfl ?_ | with_reducible refine br_true ?_ | with_reducible refine br_false ?_ | with_reducible refine br_true' (by assumption) ?_ | with_reducible refine br_false' (by assumption) ?_ | (with_reducible refine br_intro (fun h => ?_) (fun h => ?_) <;> try exact absurd h (by decide)) | ((with_reducible apply drw_intro); · kernel_rfl))
    all_goals try (conv => whnf)
    all_goals first | refine doneA_plain rfl rfl rfl ⟨?_, ?_, trivial⟩ | (exfalso; simp_all [top]; done)
    all_goals (show (_ : Int) = _; rfl)
  · cases h
def all58T : List (AV G) → Option (Bool × AT G)
  | [] => some (true, .v (spV 0 top))
  | _ => none
theorem all58_ok : ∀ a r, all58T a = some (true, r) → AOK G P 58 a r := by
  intro args r h
  unfold all58T at h
  split at h
  · skip
    cases h
    refine aok_exec (T := _) aTabOK_nil mixed eqs_ok 0 [] [] Try.func58 rfl rfl rfl rfl rfl rfl rfl rfl rfl rfl ?_
    repeat' ((conv => whnf); first | with_reducible refine br_pre rfl ?_ | with_reducible refine br_true ?_ | with_reducible refine br_false ?_ | with_reducible refine br_true' (by assumption) ?_ | with_reducible refine br_false' (by assumption) ?_ | (with_reducible refine br_intro (fun h => ?_) (fun h => ?_) <;> try exact absurd h (by decide)) | ((with_reducible apply drw_intro); · kernel_rfl))
    all_goals try (conv => whnf)
    all_goals first | refine doneA_plain rfl rfl rfl ⟨?_, ?_, trivial⟩ | (exfalso; simp_all [top]; done)
    all_goals (show (_ : Int) = _; rfl)
  · cases h
def one61T : List (AV G) → Option (Bool × AT G)
  | [.c (.v (.int .u64 n))] => some (true, .v (spV n n))
  | _ => none
theorem one61_ok : ∀ a r, one61T a = some (true, r) → AOK G P 61 a r := by
  intro args r h
  unfold one61T at h
  split at h
  · rename_i n
    cases h
    refine aok_exec (T := _) aTabOK_nil mixed eqs_ok 0 [] [] Try.func61 rfl rfl rfl rfl rfl rfl rfl rfl rfl rfl ?_
    repeat' ((conv => whnf); first | with_reducible refine br_pre rfl ?_ | with_reducible refine br_true ?_ | with_reducible refine br_false ?_ | with_reducible refine br_true' (by assumption) ?_ | with_reducible refine br_false' (by assumption) ?_ | (with_reducible refine br_intro (fun h => ?_) (fun h => ?_) <;> try exact absurd h (by decide)) | ((with_reducible apply drw_intro); · kernel_rfl))
    all_goals try (conv => whnf)
    all_goals first | refine doneA_plain rfl rfl rfl ⟨?_, ?_, trivial⟩ | (exfalso; simp_all [top]; done)
    all_goals (show (_ : Int) = _; rfl)
  · cases h
def has63T : List (AV G) → Option (Bool × AT G)
  | [.a [.v (.int .u64 a), .v (.int .u64 b)], .c (.v (.int .u64 n))] => some (true, boA (decide (a ≤ n) && decide (n ≤ b)))
  | _ => none
theorem has63_ok : ∀ a r, has63T a = some (true, r) → AOK G P 63 a r := by
  intro args r h
  unfold has63T at h
  split at h
  · rename_i a b n
    cases h
    refine aok_exec (T := _) aTabOK_nil mixed eqs_ok 0 [] [] Try.func63 rfl rfl rfl rfl rfl rfl rfl rfl rfl rfl ?_
    repeat' ((conv => whnf); first | with_reducible refine br_pre rfl ?_ | with_reducible refine br_true ?_ | with_reducible refine br_false ?_ | with_reducible refine br_true' (by assumption) ?_ | with_reducible refine br_false' (by assumption) ?_ | (with_reducible refine br_intro (fun h => ?_) (fun h => ?_) <;> try exact absurd h (by decide)) | ((with_reducible apply drw_intro); · kernel_rfl))
    all_goals try (conv => whnf)
    all_goals first | refine doneA_plain rfl rfl rfl (show (_ : Bool) = _ from ?_) | (exfalso; simp_all [top]; done)
    all_goals (simp_all <;> omega)
  · cases h
def idMay65T : List (AV G) → Option (Bool × AT G)
  | [.c (.v (.int .i64 n))] => some (true, boA (decide (0 ≤ n) && decide (n ≤ 256)))
  | _ => none
theorem idMay65_ok : ∀ a r, idMay65T a = some (true, r) → AOK G P 65 a r := by
  intro args r h
  unfold idMay65T at h
  split at h
  · rename_i n
    cases h
    refine aok_exec (T := _) aTabOK_nil mixed eqs_ok 0 [] [] Try.func65 rfl rfl rfl rfl rfl rfl rfl rfl rfl rfl ?_
    repeat' ((conv => whnf); first | with_reducible refine br_pre rfl ?_ | with_reducible refine br_true ?_ | with_reducible refine br_false ?_ | with_reducible refine br_true' (by assumption) ?_ | with_reducible refine br_false' (by assumption) ?_ | (with_reducible refine br_intro (fun h => ?_) (fun h => ?_) <;> try exact absurd h (by decide)) | ((with_reducible apply drw_intro); · kernel_rfl))
    all_goals try (conv => whnf)
    all_goals first | refine doneA_plain rfl rfl rfl (show (_ : Bool) = _ from ?_) | (exfalso; simp_all [top]; done)
    all_goals (simp_all <;> omega)
  · cases h
def within69T : List (AV G) → Option (Bool × AT G)
  | [.c (.v (.int .i64 n)), .c (.v (.int .i64 lo)), .c (.v (.int .i64 hi))] => some (true, boA (decide (lo ≤ n) && decide (n ≤ hi)))
  | _ => none
theorem within69_ok : ∀ a r, within69T a = some (true, r) → AOK G P 69 a r := by
  intro args r h
  unfold within69T at h
  split at h
  · rename_i n lo hi
    cases h
    refine aok_exec (T := _) aTabOK_nil mixed eqs_ok 0 [] [] Try.func69 rfl rfl rfl rfl rfl rfl rfl rfl rfl rfl ?_
    repeat' ((conv => whnf); first | with_reducible refine br_pre rfl ?_ | with_reducible refine br_true ?_ | with_reducible refine br_false ?_ | with_reducible refine br_true' (by assumption) ?_ | with_reducible refine br_false' (by assumption) ?_ | (with_reducible refine br_intro (fun h => ?_) (fun h => ?_) <;> try exact absurd h (by decide)) | ((with_reducible apply drw_intro); · kernel_rfl))
    all_goals try (conv => whnf)
    all_goals first | refine doneA_plain rfl rfl rfl (show (_ : Bool) = _ from ?_) | (exfalso; simp_all [top]; done)
    all_goals (simp_all <;> omega)
  · cases h
def id68T : List (AV G) → Option (Bool × AT G)
  | [.c (.v (.int .i64 n))] => some (true, boA (decide (0 ≤ n) && decide (n ≤ 256)))
  | _ => none
theorem id68_ok : ∀ a r, id68T a = some (true, r) → AOK G P 68 a r := by
  intro args r h
  unfold id68T at h
  split at h
  · rename_i n
    cases h
    refine aok_exec (T := _) (aTabOK_cons aTabOK_nil within69_ok) mixed eqs_ok 0 [] [] Try.func68 rfl rfl rfl rfl rfl rfl rfl rfl rfl rfl ?_
    repeat' ((conv => whnf); first | with_reducible refine br_pre rfl ?_ | with_reducible refine br_true ?_ | with_reducible refine br_false ?_ | with_reducible refine br_true' (by assumption) ?_ | with_reducible refine br_false' (by assumption) ?_ | (with_reducible refine br_intro (fun h => ?_) (fun h => ?_) <;> try exact absurd h (by decide)) | ((with_reducible apply drw_intro); · kernel_rfl))
    all_goals try (conv => whnf)
    all_goals first | refine doneA_plain rfl rfl rfl (show (_ : Bool) = _ from ?_) | (exfalso; simp_all [top]; done)
    all_goals (simp_all <;> omega)
  · cases h
def bring28T : List (AV G) → Option (Bool × AT G)
  | [.c (.v (.int .i64 n)), .c (.v (.int .i64 m))] => some ((m != 0), erA (bringF n m))
  | _ => none
theorem bring28_ok : ∀ a r, bring28T a = some (true, r) → AOK G P 28 a r := by
  intro args r h
  unfold bring28T at h
  split at h
  · rename_i n m
    injection h with h
    injection h with hpre h2
    subst h2
    refine aok_exec (T := _) aTabOK_nil mixed eqs_ok 0 [] [] Try.func28 rfl rfl rfl rfl rfl rfl rfl rfl rfl rfl ?_
    repeat' ((conv => whnf); first | with_reducible refine br_pre rfl ?_ | with_reducible refine br_true ?_ | with_reducible refine br_false ?_ | with_reducible refine br_true' (by assumption) ?_ | with_reducible refine br_false' (by assumption) ?_ | (with_reducible refine br_intro (fun h => ?_) (fun h => ?_) <;> try exact absurd h (by decide)) | ((with_reducible apply drw_intro); · kernel_rfl))
    all_goals try (conv => whnf)
    all_goals first | refine doneA_plain rfl rfl rfl (show (_ : Int) = _ from ?_) | (exfalso; simp_all [top]; done)
    all_goals (simp_all [bringF] <;> intro <;> omega)
  · cases h
def num29T : List (AV G) → Option (Bool × AT G)
  | [.c (.v (.int .u64 n)), .c (.v (.int .u64 m))] => some (true, .v (vlV ⟨1, n, m, 0, 0⟩))
  | _ => none
theorem num29_ok : ∀ a r, num29T a = some (true, r) → AOK G P 29 a r := by
  intro args r h
  unfold num29T at h
  split at h
  · rename_i n m
    cases h
    refine aok_exec (T := _) aTabOK_nil mixed eqs_ok 0 [] [] Try.func29 rfl rfl rfl rfl rfl rfl rfl rfl rfl rfl ?_
    repeat' ((conv => whnf); first | with_reducible refine br_pre rfl ?_ | with_reducible refine br_true ?_ | with_reducible refine br_false ?_ | with_reducible refine br_true' (by assumption) ?_ | with_reducible refine br_false' (by assumption) ?_ | (with_reducible refine br_intro (fun h => ?_) (fun h => ?_) <;> try exact absurd h (by decide)) | ((with_reducible apply drw_intro); · kernel_rfl))
    all_goals try (conv => whnf)
    all_goals first | refine doneA_plain rfl rfl rfl ⟨?_, ?_, ?_, ?_, ?_, trivial⟩ | (exfalso; simp_all [top]; done)
    all_goals (show (_ : Int) = _; rfl)
  · cases h
def pkt30T : List (AV G) → Option (Bool × AT G)
  | [.c (.v (.int .i64 n)), .c (.v (.int .i64 m))] => some (true, .v (vlV ⟨2, 0, 0, n, m⟩))
  | _ => none
theorem pkt30_ok : ∀ a r, pkt30T a = some (true, r) → AOK G P 30 a r := by
  intro args r h
  unfold pkt30T at h
  split at h
  · rename_i n m
    cases h
    refine aok_exec (T := _) aTabOK_nil mixed eqs_ok 0 [] [] Try.func30 rfl rfl rfl rfl rfl rfl rfl rfl rfl rfl ?_
    repeat' ((conv => whnf); first | with_reducible refine br_pre rfl ?_ | with_reducible refine br_true ?_ | with_reducible refine br_false ?_ | with_reducible refine br_true' (by assumption) ?_ | with_reducible refine br_false' (by assumption) ?_ | (with_reducible refine br_intro (fun h => ?_) (fun h => ?_) <;> try exact absurd h (by decide)) | ((with_reducible apply drw_intro); · kernel_rfl))
    all_goals try (conv => whnf)
    all_goals first | refine doneA_plain rfl rfl rfl ⟨?_, ?_, ?_, ?_, ?_, trivial⟩ | (exfalso; simp_all [top]; done)
    all_goals (show (_ : Int) = _; rfl)
  · cases h
def end33T : List (AV G) → Option (Bool × AT G)
  | [] => some (true, .v (vlV ⟨3, 0, 0, 0, 0⟩))
  | _ => none
theorem end33_ok : ∀ a r, end33T a = some (true, r) → AOK G P 33 a r := by
  intro args r h
  unfold end33T at h
  split at h
  · skip
    cases h
    refine aok_exec (T := _) aTabOK_nil mixed eqs_ok 0 [] [] Try.func33 rfl rfl rfl rfl rfl rfl rfl rfl rfl rfl ?_
    repeat' ((conv => whnf); first | with_reducible refine br_pre rfl ?_ | with_reducible refine br_true ?_ | with_reducible refine br_false ?_ | with_reducible refine br_true' (by assumption) ?_ | with_reducible refine br_false' (by assumption) ?_ | (with_reducible refine br_intro (fun h => ?_) (fun h => ?_) <;> try exact absurd h (by decide)) | ((with_reducible apply drw_intro); · kernel_rfl))
    all_goals try (conv => whnf)
    all_goals first | refine doneA_plain rfl rfl rfl ⟨?_, ?_, ?_, ?_, ?_, trivial⟩ | (exfalso; simp_all [top]; done)
    all_goals (show (_ : Int) = _; rfl)
  · cases h
def end67T : List (AV G) → Option (Bool × AT G)
  | [.a [.v (.int .u8 vk), .v (.int .u64 vl), .v (.int .u64 vh), .v (.int .i64 vi), .v (.int .i64 vo)]] => some (true, boA (endF ⟨vk, vl, vh, vi, vo⟩))
  | _ => none
theorem end67_ok : ∀ a r, end67T a = some (true, r) → AOK G P 67 a r := by
  intro args r h
  unfold end67T at h
  split at h
  · rename_i vk vl vh vi vo
    cases h
    refine aok_exec (T := _) aTabOK_nil mixed eqs_ok 0 [] [] Try.func67 rfl rfl rfl rfl rfl rfl rfl rfl rfl rfl ?_
    repeat' ((conv => whnf); first | with_reducible refine br_pre rfl ?_ | with_reducible refine br_true ?_ | with_reducible refine br_false ?_ | with_reducible refine br_true' (by assumption) ?_ | with_reducible refine br_false' (by assumption) ?_ | (with_reducible refine br_intro (fun h => ?_) (fun h => ?_) <;> try exact absurd h (by decide)) | ((with_reducible apply drw_intro); · kernel_rfl))
    all_goals try (conv => whnf)
    all_goals first | refine doneA_plain rfl rfl rfl (show (_ : Bool) = _ from ?_) | (exfalso; simp_all [top]; done)
    all_goals (simp_all [endF, Bool.and_assoc] <;> rfl)
  · cases h
def pointer66T : List (AV G) → Option (Bool × AT G)
  | [.a [.v (.int .u8 vk), .v (.int .u64 vl), .v (.int .u64 vh), .v (.int .i64 vi), .v (.int .i64 vo)]] => some (true, boA (pointerF ⟨vk, vl, vh, vi, vo⟩))
  | _ => none
theorem pointer66_ok : ∀ a r, pointer66T a = some (true, r) → AOK G P 66 a r := by
  intro args r h
  unfold pointer66T at h
  split at h
  · rename_i vk vl vh vi vo
    cases h
    refine aok_exec (T := _) (aTabOK_cons (aTabOK_cons aTabOK_nil within69_ok) id68_ok) mixed eqs_ok 0 [] [] Try.func66 rfl rfl rfl rfl rfl rfl rfl rfl rfl rfl ?_
    repeat' ((conv => whnf); first | with_reducible refine br_pre rfl ?_ | with_reducible refine br_true ?_ | with_reducible refine br_false ?_ | with_reducible refine br_true' (by assumption) ?_ | with_reducible refine br_false' (by assumption) ?_ | (with_reducible refine br_intro (fun h => ?_) (fun h => ?_) <;> try exact absurd h (by decide)) | ((with_reducible apply drw_intro); · kernel_rfl))
    all_goals try (conv => whnf)
    all_goals first | refine doneA_plain rfl rfl rfl (show (_ : Bool) = _ from ?_) | (exfalso; simp_all [top]; done)
    all_goals (simp_all [pointerF, Bool.and_assoc] <;> omega)
  · cases h
def pointer76T : List (AV G) → Option (Bool × AT G)
  | [.a [.v (.int .u8 vk), .v (.int .u64 vl), .v (.int .u64 vh), .v (.int .i64 vi), .v (.int .i64 vo)]] => some (true, boA (pointerF ⟨vk, vl, vh, vi, vo⟩))
  | _ => none
theorem pointer76_ok : ∀ a r, pointer76T a = some (true, r) → AOK G P 76 a r := by
  intro args r h
  unfold pointer76T at h
  split at h
  · rename_i vk vl vh vi vo
    cases h
    refine aok_exec (T := _) (aTabOK_cons aTabOK_nil idMay65_ok) mixed eqs_ok 0 [] [] Try.func76 rfl rfl rfl rfl rfl rfl rfl rfl rfl rfl ?_
    repeat' ((conv => whnf); first | with_reducible refine br_pre rfl ?_ | with_reducible refine br_true ?_ | with_reducible refine br_false ?_ | with_reducible refine br_true' (by assumption) ?_ | with_reducible refine br_false' (by assumption) ?_ | (with_reducible refine br_intro (fun h => ?_) (fun h => ?_) <;> try exact absurd h (by decide)) | ((with_reducible apply drw_intro); · kernel_rfl))
    all_goals try (conv => whnf)
    all_goals first | refine doneA_plain rfl rfl rfl (show (_ : Bool) = _ from ?_) | (exfalso; simp_all [top]; done)
    all_goals (simp_all [pointerF, Bool.and_assoc] <;> omega)
  · cases h
def may40T : List (AV G) → Option (Bool × AT G)
  | [.a [.v (.int .u8 vk), .v (.int .u64 vl), .v (.int .u64 vh), .v (.int .i64 vi), .v (.int .i64 vo)]] => some (true, boA (mayR ⟨vk, vl, vh, vi, vo⟩))
  | _ => none
theorem may40_ok : ∀ a r, may40T a = some (true, r) → AOK G P 40 a r := by
  intro args r h
  unfold may40T at h
  split at h
  · rename_i vk vl vh vi vo
    cases h
    refine aok_exec (T := _) (aTabOK_cons (aTabOK_cons (aTabOK_cons aTabOK_nil end67_ok) pointer66_ok) check41_ok) mixed eqs_ok 0 [] [] Try.func40 rfl rfl rfl rfl rfl rfl rfl rfl rfl rfl ?_
    repeat' ((conv => whnf); first | with_reducible refine br_pre rfl ?_ | with_reducible refine br_true ?_ | with_reducible refine br_false ?_ | with_reducible refine br_true' (by assumption) ?_ | with_reducible refine br_false' (by assumption) ?_ | (with_reducible refine br_intro (fun h => ?_) (fun h => ?_) <;> try exact absurd h (by decide)) | ((with_reducible apply drw_intro); · kernel_rfl))
    all_goals try (conv => whnf)
    all_goals first | refine doneA_plain rfl rfl rfl (show (_ : Bool) = _ from ?_) | (exfalso; simp_all [top]; done)
    all_goals (simp_all [mayR, vEq, vZero])
  · cases h
def common50T : List (AV G) → Option (Bool × AT G)
  | [.a [.v (.int .u8 ak), .v (.int .u64 al), .v (.int .u64 ah), .v (.int .i64 ai), .v (.int .i64 ao)], .a [.v (.int .u8 bk), .v (.int .u64 bl), .v (.int .u64 bh), .v (.int .i64 bi), .v (.int .i64 bo)]] => some (true, .v (vlV (commonF ⟨ak, al, ah, ai, ao⟩ ⟨bk, bl, bh, bi, bo⟩)))
  | _ => none
theorem common50_ok : ∀ a r, common50T a = some (true, r) → AOK G P 50 a r := by
  intro args r h
  unfold common50T at h
  split at h
  · rename_i ak al ah ai ao bk bl bh bi bo
    cases h
    refine aok_exec (T := _) (aTabOK_cons aTabOK_nil join51_ok) mixed eqs_ok 0 [] [] Try.func50 rfl rfl rfl rfl rfl rfl rfl rfl rfl rfl ?_
    repeat' ((conv => whnf); first | with_reducible refine br_pre rfl ?_ | with_reducible refine br_true ?_ | with_reducible refine br_false ?_ | with_reducible refine br_true' (by assumption) ?_ | with_reducible refine br_false' (by assumption) ?_ | (with_reducible refine br_intro (fun h => ?_) (fun h => ?_) <;> try exact absurd h (by decide)) | ((with_reducible apply drw_intro); · kernel_rfl))
    all_goals try (conv => whnf)
    all_goals first | refine doneA_plain rfl rfl rfl ⟨?_, ?_, ?_, ?_, ?_, trivial⟩ | (exfalso; simp_all [top]; done)
    all_goals (show (_ : Int) = _; (unfold commonF; (repeat' split) <;> simp_all [vEq, vZero]))
  · cases h
def common53T : List (AV G) → Option (Bool × AT G)
  | [.a [.v (.int .u8 ak), .v (.int .u64 al), .v (.int .u64 ah), .v (.int .i64 ai), .v (.int .i64 ao)], .a [.v (.int .u8 bk), .v (.int .u64 bl), .v (.int .u64 bh), .v (.int .i64 bi), .v (.int .i64 bo)]] => some (true, .v (vlV (commonR ⟨ak, al, ah, ai, ao⟩ ⟨bk, bl, bh, bi, bo⟩)))
  | _ => none
theorem common53_ok : ∀ a r, common53T a = some (true, r) → AOK G P 53 a r := by
  intro args r h
  unfold common53T at h
  split at h
  · rename_i ak al ah ai ao bk bl bh bi bo
    cases h
    refine aok_exec (T := _) (aTabOK_cons aTabOK_nil join54_ok) mixed eqs_ok 0 [] [] Try.func53 rfl rfl rfl rfl rfl rfl rfl rfl rfl rfl ?_
    repeat' ((conv => whnf); first | with_reducible refine br_pre rfl ?_ | with_reducible refine br_true ?_ | with_reducible refine br_false ?_ | with_reducible refine br_true' (by assumption) ?_ | with_reducible refine br_false' (by assumption) ?_ | (with_reducible refine br_intro (fun h => ?_) (fun h => ?_) <;> try exact absurd h (by decide)) | ((with_reducible apply drw_intro); · kernel_rfl))
    all_goals try (conv => whnf)
    all_goals first | refine doneA_plain rfl rfl rfl ⟨?_, ?_, ?_, ?_, ?_, trivial⟩ | (exfalso; simp_all [top]; done)
    all_goals (show (_ : Int) = _; (unfold commonR; (repeat' split) <;> simp_all [vEq, vZero]))
  · cases h
def says47T : List (AV G) → Option (Bool × AT G)
  | [.a [.v (.int .u8 ak), .v (.int .u64 al), .v (.int .u64 ah), .v (.int .i64 ai), .v (.int .i64 ao)], .a [.v (.int .u8 bk), .v (.int .u64 bl), .v (.int .u64 bh), .v (.int .i64 bi), .v (.int .i64 bo)]] => some (true, boA (saysR ⟨ak, al, ah, ai, ao⟩ ⟨bk, bl, bh, bi, bo⟩))
  | _ => none
theorem says47_ok : ∀ a r, says47T a = some (true, r) → AOK G P 47 a r := by
  intro args r h
  unfold says47T at h
  split at h
  · rename_i ak al ah ai ao bk bl bh bi bo
    cases h
    refine aok_exec (T := _) (aTabOK_cons aTabOK_nil under48_ok) mixed eqs_ok 0 [] [] Try.func47 rfl rfl rfl rfl rfl rfl rfl rfl rfl rfl ?_
    repeat' ((conv => whnf); first | with_reducible refine br_pre rfl ?_ | with_reducible refine br_true ?_ | with_reducible refine br_false ?_ | with_reducible refine br_true' (by assumption) ?_ | with_reducible refine br_false' (by assumption) ?_ | (with_reducible refine br_intro (fun h => ?_) (fun h => ?_) <;> try exact absurd h (by decide)) | ((with_reducible apply drw_intro); · kernel_rfl))
    all_goals try (conv => whnf)
    all_goals first | refine doneA_plain rfl rfl rfl (show (_ : Bool) = _ from ?_) | (exfalso; simp_all [top]; done)
    all_goals (unfold saysR; (repeat' split) <;> simp_all [vEq])
  · cases h
def pick62T : List (AV G) → Option (Bool × AT G)
  | [.a [.v (.int .u64 a), .v (.int .u64 b)], .c (.v (.int .u64 n))] => some ((IntKind.u64.wrap (IntKind.u64.wrap (b - a) + 1) != 0 || (a == 0 && b == top)), .v (.c (.v (.int .u64 (pickF a b n)))))
  | _ => none
theorem pick62_ok : ∀ a r, pick62T a = some (true, r) → AOK G P 62 a r := by
  intro args r h
  unfold pick62T at h
  split at h
  · rename_i a b n
    injection h with h
    injection h with hpre h2
    subst h2
    refine aok_exec (T := _) aTabOK_nil mixed eqs_ok 0 [(3, ⟨[(0, true), (1, true), (2, true), (3, true), (4, true), (5, true), (6, true), (7, true), (8, true), (9, true), (10, true), (11, true)], [], []⟩)] [] Try.func62 rfl rfl rfl rfl rfl rfl rfl rfl rfl rfl ?_
    repeat' ((conv => whnf); first | with_reducible refine br_pre rfl ?_ | with_reducible refine br_true ?_ | with_reducible refine br_false ?_ | with_reducible refine br_true' (by assumption) ?_ | with_reducible refine br_false' (by assumption) ?_ | (with_reducible refine br_intro (fun h => ?_) (fun h => ?_) <;> try exact absurd h (by decide)) | ((with_reducible apply drw_intro); · kernel_rfl))
    all_goals try (conv => whnf)
    all_goals first | refine doneA_plain rfl rfl rfl (show (_ : Int) = _ from ?_) | (exfalso; simp_all [top]; done)
    all_goals (simp_all [pickF, top])
  · cases h
end Go.Proofs.Ytcjiokiafdagdaa
