/- SpanLeft: the small functions. -/
import Derived.Test.YtnahgpoafghchaaSxL
import Derived.Test.YtnahgpoafghchaaChecked
namespace Go.Proofs.Ytnahgpoafghchaa
open Go.Sx
set_option linter.unusedVariables false
set_option linter.unusedSimpArgs false
set_option maxRecDepth 100000
inductive G0
instance : Gh G0 := ⟨fun _ => 0, fun _ => 0, fun _ _ => [], fun _ _ => rfl, fun _ _ _ h => by cases h⟩
noncomputable abbrev P := Try.prog
theorem mixed : P.follows .mixedOrders = true := by kernel_rfl
def eqs : TypeId → Bool := fun t => Nat.beq t 24
theorem eqs_ok : EqOK P eqs := by
  refine eqOK_of ?_
  intro t ht
  obtain rfl : t = 24 := Nat.eq_of_beq_eq_true ht
  exact ⟨by kernel_rfl, by kernel_rfl, 2, by kernel_rfl⟩
def bo (b : Bool) : SV := .c (.v (.bool b))
def er (n : Int) : SV := .c (.v (.int .i64 n))
def u8 (n : Int) : SV := .c (.v (.int .u8 n))
def u64 (n : Int) : SV := .c (.v (.int .u64 n))
def sp (a b : Int) : SV := .a [.v (.int .u64 a), .v (.int .u64 b)]
def checkF (a b : Int) : Int := if a > b then 150 else 0
def checkT : List SV → Option (Bool × ST)
  | [.a [.v (.int .u64 a), .v (.int .u64 b)]] => some (true, .v (er (checkF a b)))
  | _ => none
theorem check_ok : ∀ a r, checkT a = some (true, r) → PureOK G0 P 5 a r := by
  intro args r h
  unfold checkT at h
  split at h
  · rename_i a b
    cases h
    refine pure_exec (T := Tab.nil) tabOK_nil mixed eqs_ok 0 [] Try.func5 rfl rfl rfl rfl rfl rfl rfl rfl ?_
    repeat' ((conv => whnf); first | with_reducible refine br_true ?_ | with_reducible refine br_false ?_ | (with_reducible refine br_intro (fun h => ?_) (fun h => ?_) <;> try exact absurd h (by decide)))
    all_goals
      conv => whnf
      refine done_intro rfl rfl rfl ?_
      show (_ : Int) = _
      simp_all [checkF]
  · cases h
def hasT : List SV → Option (Bool × ST)
  | [.a [.v (.int .u64 a), .v (.int .u64 b)], .c (.v (.int .u64 n))] => some (true, .v (bo (decide (a ≤ n) && decide (n ≤ b))))
  | _ => none
theorem has_ok : ∀ a r, hasT a = some (true, r) → PureOK G0 P 9 a r := by
  intro args r h
  unfold hasT at h
  split at h
  · rename_i a b n
    cases h
    refine pure_exec (T := Tab.nil) tabOK_nil mixed eqs_ok 0 [] Try.func9 rfl rfl rfl rfl rfl rfl rfl rfl ?_
    repeat' ((conv => whnf); first | with_reducible refine br_true ?_ | with_reducible refine br_false ?_ | (with_reducible refine br_intro (fun h => ?_) (fun h => ?_) <;> try exact absurd h (by decide)))
    all_goals
      conv => whnf
      refine done_intro rfl rfl rfl ?_
      show (_ : Bool) = _
      simp_all <;> omega
  · cases h
def underT : List SV → Option (Bool × ST)
  | [.a [.v (.int .u64 a), .v (.int .u64 b)], .a [.v (.int .u64 c), .v (.int .u64 d)]] => some (true, .v (bo (decide (c ≤ a) && decide (b ≤ d))))
  | _ => none
theorem under_ok : ∀ a r, underT a = some (true, r) → PureOK G0 P 10 a r := by
  intro args r h
  unfold underT at h
  split at h
  · cases h
    refine pure_exec (T := Tab.nil) tabOK_nil mixed eqs_ok 0 [] Try.func10 rfl rfl rfl rfl rfl rfl rfl rfl ?_
    repeat' ((conv => whnf); first | with_reducible refine br_true ?_ | with_reducible refine br_false ?_ | (with_reducible refine br_intro (fun h => ?_) (fun h => ?_) <;> try exact absurd h (by decide)))
    all_goals
      conv => whnf
      refine done_intro rfl rfl rfl ?_
      show (_ : Bool) = _
      simp_all <;> omega
  · cases h
def oneT : List SV → Option (Bool × ST)
  | [.c (.v (.int .u64 n))] => some (true, .v (sp n n))
  | _ => none
theorem one_ok : ∀ a r, oneT a = some (true, r) → PureOK G0 P 13 a r := by
  intro args r h
  unfold oneT at h
  split at h
  · cases h
    refine pure_exec (T := Tab.nil) tabOK_nil mixed eqs_ok 0 [] Try.func13 rfl rfl rfl rfl rfl rfl rfl rfl ?_
    exact done_intro rfl rfl rfl ⟨rfl, rfl, trivial⟩
  · cases h
def toT : List SV → Option (Bool × ST)
  | [.c (.v (.int .u64 n)), .c (.v (.int .u64 m))] => some (true, .v (sp n m))
  | _ => none
theorem to_ok : ∀ a r, toT a = some (true, r) → PureOK G0 P 12 a r := by
  intro args r h
  unfold toT at h
  split at h
  · cases h
    refine pure_exec (T := Tab.nil) tabOK_nil mixed eqs_ok 0 [] Try.func12 rfl rfl rfl rfl rfl rfl rfl rfl ?_
    exact done_intro rfl rfl rfl ⟨rfl, rfl, trivial⟩
  · cases h
def singleT : List SV → Option (Bool × ST)
  | [.a [.v (.int .u64 a), .v (.int .u64 b)]] => some (true, .v (bo (a == b)))
  | _ => none
theorem single_ok : ∀ a r, singleT a = some (true, r) → PureOK G0 P 16 a r := by
  intro args r h
  unfold singleT at h
  split at h
  · cases h
    refine pure_exec (T := Tab.nil) tabOK_nil mixed eqs_ok 0 [] Try.func16 rfl rfl rfl rfl rfl rfl rfl rfl ?_
    exact done_intro rfl rfl rfl rfl
  · cases h
def up (op : Int) : Int := if op = 23 then 27 else if op = 24 then 28 else if op = 25 then 29 else if op = 26 then 32 else op
def con (op : Int) : Int := if op = 27 then 28 else if op = 28 then 27 else if op = 29 then 32 else if op = 32 then 29 else if op = 30 then 31 else 30
def plainF (op : Int) (y : Bool) : Int := if y = true then up op else con (up op)
def inOp (op : Int) : Bool := decide (23 ≤ op) && decide (op ≤ 32)
theorem inOp_cases {op : Int} (h : inOp op = true) : op = 23 ∨ op = 24 ∨ op = 25 ∨ op = 26 ∨ op = 27 ∨ op = 28 ∨ op = 29 ∨ op = 30 ∨ op = 31 ∨ op = 32 := by
  simp only [inOp, Bool.and_eq_true, decide_eq_true_eq] at h
  omega
theorem plainF_cases {op : Int} {y : Bool} (h : inOp op = true) : plainF op y = 27 ∨ plainF op y = 28 ∨ plainF op y = 29 ∨ plainF op y = 30 ∨ plainF op y = 31 ∨ plainF op y = 32 := by
  rcases inOp_cases h with rfl | rfl | rfl | rfl | rfl | rfl | rfl | rfl | rfl | rfl <;> cases y <;> decide
def plainTT : List SV → Option (Bool × ST)
  | [.c (.v (.int .u8 op)), .c (.v (.bool y))] => some (inOp op, .t [u8 (plainF op y), bo true])
  | _ => none
theorem plain_ok : ∀ a r, plainTT a = some (true, r) → PureOK G0 P 14 a r := by
  intro args r h
  unfold plainTT at h
  split at h
  · rename_i op y
    injection h with h
    injection h with h1 h2
    subst h2
    refine pure_exec (T := Tab.nil) tabOK_nil mixed eqs_ok 0 [] Try.func14 rfl rfl rfl rfl rfl rfl rfl rfl ?_
    rcases inOp_cases h1 with rfl | rfl | rfl | rfl | rfl | rfl | rfl | rfl | rfl | rfl <;> cases y
    all_goals
      repeat' ((conv => whnf); first | with_reducible refine br_true ?_ | with_reducible refine br_false ?_ | (with_reducible refine br_intro (fun h => ?_) (fun h => ?_) <;> try exact absurd h (by decide)))
      conv => whnf
      refine done_intro rfl rfl rfl ⟨?_, rfl, trivial⟩
      show (_ : Int) = _
      decide
  · cases h
end Go.Proofs.Ytnahgpoafghchaa
