/- SpanLeft: what is left of spans. -/
import Derived.Test.YtnahgpoafghchaaA1
namespace Go.Proofs.Ytnahgpoafghchaa
open Go.Sx
set_option linter.unusedVariables false
set_option linter.unusedSimpArgs false
set_option maxRecDepth 100000
set_option maxHeartbeats 2000000
theorem sp_end {a b a' b' : Int} (h1 : a = a') (h2 : b = b') : eqTp (.v (sp a b)) (.v (sp a' b')) := ⟨h1, h2, trivial⟩
theorem cmp_end {a a' : Bool} {b b' : Int} (h1 : a = a') (h2 : b = b') : eqTp (.t [bo a, er b]) (.t [bo a', er b']) := ⟨h1, h2, trivial⟩
theorem cut_end {a b c d a' b' c' d' f f' : Int} {e e' : Bool} (h1 : a = a') (h2 : b = b') (h3 : c = c') (h4 : d = d') (h5 : e = e') (h6 : f = f') :
    eqTp (.t [sp a b, sp c d, bo e, er f]) (.t [sp a' b', sp c' d', bo e', er f']) := ⟨⟨h1, h2, trivial⟩, ⟨h3, h4, trivial⟩, h5, h6, trivial⟩
theorem tab1_ok : TabOK G0 P (Tab.cons 16 singleT (Tab.cons 14 plainTT (Tab.cons 5 checkT Tab.nil))) := tabOK_cons (tabOK_cons (tabOK_cons tabOK_nil check_ok) plain_ok) single_ok
def butL (a0 a1 b0 b1 : Int) : Int := if (b0 == b1) = true ∧ (a0 == a1) = false ∧ (a0 == b0) = true then IntKind.u64.wrap (a0 + 1) else a0
def butH (a0 a1 b0 b1 : Int) : Int := if (b0 == b1) = true ∧ (a0 == a1) = false ∧ (a0 == b0) = false ∧ (a1 == b0) = true then IntKind.u64.wrap (a1 - 1) else a1
def butT : List SV → Option (Bool × ST)
  | [.a [.v (.int .u64 a), .v (.int .u64 b)], .a [.v (.int .u64 c), .v (.int .u64 d)]] => some (true, .v (sp (butL a b c d) (butH a b c d)))
  | _ => none
theorem but_ok : ∀ a r, butT a = some (true, r) → PureOK G0 P 15 a r := by
  intro args r h
  unfold butT at h
  split at h
  · rename_i a b c d
    cases h
    refine pure_exec tab1_ok mixed eqs_ok 0 [] Try.func15 rfl rfl rfl rfl rfl rfl rfl rfl ?_
    repeat' ((conv => whnf); first | with_reducible refine br_true ?_ | with_reducible refine br_false ?_ | (with_reducible refine br_intro (fun h => ?_) (fun h => ?_) <;> try exact absurd h (by decide)) | ((with_reducible apply drw_intro); · kernel_rfl))
    all_goals
      conv => whnf
      refine done_intro rfl rfl rfl (sp_end ?_ ?_)
      all_goals simp_all [butL, butH]
  · cases h
def cmpF (c x y : Int) : Bool := if (c == 27) = true then x == y else if (c == 28) = true then x != y else if (c == 29) = true then decide (x < y) else if (c == 30) = true then decide (x ≤ y) else if (c == 31) = true then decide (x > y) else decide (x ≥ y)
def compareT : List SV → Option (Bool × ST)
  | [.c (.v (.int .u8 op)), .c (.v (.int .u64 x)), .c (.v (.int .u64 y))] => some (inOp op, .t [bo (cmpF (plainF op true) x y), er 0])
  | _ => none
theorem compare_ok : ∀ a r, compareT a = some (true, r) → PureOK G0 P 8 a r := by
  intro args r h
  unfold compareT at h
  split at h
  · rename_i op x y
    injection h with h
    injection h with h1 h2
    subst h2
    refine pure_exec tab1_ok mixed eqs_ok 0 [] Try.func8 rfl rfl rfl rfl rfl rfl rfl rfl ?_
    have hcs := plainF_cases (y := true) h1
    repeat' ((conv => whnf); first | with_reducible refine br_true ?_ | with_reducible refine br_false ?_ | (with_reducible refine br_intro (fun h => ?_) (fun h => ?_) <;> try exact absurd h (by decide)) | ((with_reducible apply drw_intro); · kernel_rfl))
    all_goals try (conv => whnf)
    all_goals try refine done_intro rfl rfl rfl (cmp_end ?_ ?_)
    all_goals first
      | rfl
      | (generalize plainF op true = c at *
         rcases hcs with rfl | rfl | rfl | rfl | rfl | rfl <;> simp_all [cmpF] <;> first | omega | (constructor <;> intro <;> omega))
  · cases h
theorem tab2_ok : TabOK G0 P (Tab.cons 15 butT (Tab.cons 16 singleT (Tab.cons 14 plainTT (Tab.cons 5 checkT Tab.nil)))) := tabOK_cons tab1_ok but_ok
/-- Which spans are left, and whether any are; c: one of the six plain comparisons. -/
def okF (a0 a1 b0 b1 : Int) : Bool := !(checkF a0 a1 != 0) && !(checkF b0 b1 != 0)
def mn (x y : Int) : Int := if y < x then y else x
def mx (x y : Int) : Int := if x < y then y else x
structure Lft where
  a : Int
  b : Int
  c : Int
  d : Int
  is : Bool
def leftF (c a0 a1 b0 b1 : Int) : Lft :=
  if (c == 27) = true then ⟨mx a0 b0, mn a1 b1, mx a0 b0, mn a1 b1, decide ((if a0 < b0 then b0 else a0) ≤ if b1 < a1 then b1 else a1)⟩
  else if (c == 28) = true then ⟨butL a0 a1 b0 b1, butH a0 a1 b0 b1, butL b0 b1 a0 a1, butH b0 b1 a0 a1, !(a0 == a1) || !((a0 == b0) && (a1 == b1))⟩
  else if (c == 29) = true then ⟨a0, mn a1 (IntKind.u64.wrap (b1 - 1)), mx b0 (IntKind.u64.wrap (a0 + 1)), b1, decide (a0 < b1)⟩
  else if (c == 30) = true then ⟨a0, mn a1 b1, mx b0 a0, b1, decide (a0 ≤ b1)⟩
  else if (c == 31) = true then ⟨mx a0 (IntKind.u64.wrap (b0 + 1)), a1, b0, mn b1 (IntKind.u64.wrap (a1 - 1)), decide (a1 > b0)⟩
  else ⟨mx a0 b0, a1, b0, mn b1 a1, decide (a1 ≥ b0)⟩
def cutF (c a0 a1 b0 b1 : Int) : Lft := if okF a0 a1 b0 b1 && (leftF c a0 a1 b0 b1).is then leftF c a0 a1 b0 b1 else ⟨0, 0, 0, 0, false⟩
def cutE (a0 a1 b0 b1 : Int) : Int := if okF a0 a1 b0 b1 then 0 else 150
def cutT : List SV → Option (Bool × ST)
  | [.c (.v (.int .u8 op)), .c (.v (.bool y)), .a [.v (.int .u64 a0), .v (.int .u64 a1)], .a [.v (.int .u64 b0), .v (.int .u64 b1)]] => some (inOp op,
      .t [sp (cutF (plainF op y) a0 a1 b0 b1).a (cutF (plainF op y) a0 a1 b0 b1).b, sp (cutF (plainF op y) a0 a1 b0 b1).c (cutF (plainF op y) a0 a1 b0 b1).d, bo (cutF (plainF op y) a0 a1 b0 b1).is, er (cutE a0 a1 b0 b1)])
  | _ => none
def plans6 : List (Nat × Plan) := [(6, ⟨[(0, true), (1, true)], [2, 3], [(4, false), (5, false), (6, true)]⟩), (10, ⟨[(0, true), (1, true), (2, true), (3, true), (4, true), (5, true), (6, false), (7, true)], [], []⟩), (12, ⟨[(0, true), (1, true), (2, true), (3, true), (4, true), (5, true), (6, false), (7, false)], [], []⟩), (17, ⟨[(0, true), (1, true), (2, true), (3, true), (4, true), (5, true), (6, true), (7, true), (8, true), (9, true), (10, true), (11, true), (12, true), (13, false), (14, true), (15, false)], [], []⟩), (20, ⟨[(0, true), (1, true), (2, true), (3, true), (4, true), (5, true), (6, true), (7, true), (8, true), (9, true), (10, true), (11, false), (12, true), (13, false)], [], []⟩), (24, ⟨[(0, true), (1, true), (2, true), (3, true), (4, true), (5, true), (6, true), (7, true), (8, true), (9, true), (10, true), (11, true), (12, true), (13, false), (14, true), (15, false)], [], []⟩), (27, ⟨[(0, true), (1, true), (2, true), (3, true), (4, true), (5, true), (6, true), (7, true), (8, true), (9, true), (10, true), (11, false), (12, true), (13, false)], [], []⟩), (30, ⟨[(0, true), (1, true), (2, false), (3, false), (4, true), (5, true)], [], []⟩)]
theorem cut_ok : ∀ a r, cutT a = some (true, r) → PureOK G0 P 6 a r := by
  intro args r h
  unfold cutT at h
  split at h
  · rename_i op y a0 a1 b0 b1
    injection h with h
    injection h with h1 h2
    subst h2
    refine pure_exec tab2_ok mixed eqs_ok 0 plans6 Try.func6 rfl rfl rfl rfl rfl rfl rfl rfl ?_
    have hcs := plainF_cases (y := y) h1
    repeat' ((conv => whnf); first | with_reducible refine br_true ?_ | with_reducible refine br_false ?_ | (with_reducible refine br_intro (fun h => ?_) (fun h => ?_) <;> try exact absurd h (by decide)) | ((with_reducible apply drw_intro); · kernel_rfl))
    all_goals try (conv => whnf)
    all_goals try refine done_intro rfl rfl rfl (cut_end ?_ ?_ ?_ ?_ ?_ ?_)
    all_goals first
      | rfl
      | (simp only [Bool.not_eq_true', Bool.not_eq_false', Bool.not_true, Bool.not_false] at *
         simp only [cutF, leftF, okF, cutE, mn, mx, *]
         rfl)
      | (exfalso; simp_all; done)
      | (exfalso; simp_all; omega)
      | (cases e0 : (a0 == a1) <;> cases e1 : (a0 == b0) <;> cases e2 : (a1 == b1) <;> simp [cutF, leftF, okF, cutE, *] <;> simp_all <;> done)
  · cases h
end Go.Proofs.Ytnahgpoafghchaa
