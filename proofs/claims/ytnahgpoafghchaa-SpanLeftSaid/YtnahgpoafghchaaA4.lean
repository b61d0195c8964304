/- SpanLeft: what is reckoned at fixed numbers. -/
import Derived.Test.YtnahgpoafghchaaA3
namespace Go.Proofs.Ytnahgpoafghchaa
open Go.Sx Go.RowKit
set_option linter.unusedVariables false
set_option linter.unusedSimpArgs false
set_option maxRecDepth 100000
set_option maxHeartbeats 2000000
def wideT : List SV → Option (Bool × ST)
  | [.c (.v (.int .u64 x))] => some (x == 9, .v (u64 15))
  | _ => none
theorem wide_ok : ∀ a r, wideT a = some (true, r) → PureOK G0 P 25 a r := by
  intro args r h
  unfold wideT at h
  split at h
  · injection h with h
    injection h with h1 h2
    subst h2
    obtain rfl := eq_of_beq h1
    refine pure_exec (T := Tab.cons 26 len64T Tab.nil) (tabOK_cons tabOK_nil len64_ok) mixed eqs_ok 0 [] Try.func25 rfl rfl rfl rfl rfl rfl rfl rfl ?_
    repeat' ((conv => whnf); first | with_reducible refine br_true ?_ | with_reducible refine br_false ?_ | (with_reducible refine br_intro (fun h => ?_) (fun h => ?_) <;> try exact absurd h (by decide)) | ((with_reducible apply drw_intro); · kernel_rfl))
    all_goals refine done_intro rfl rfl rfl (show (_ : Int) = _ from ?_)
    all_goals rfl
  · cases h
def logicT : List SV → Option (Bool × ST)
  | [.c (.v (.int .u8 op)), .a [.v (.int .u64 a), .v (.int .u64 b)], .a [.v (.int .u64 c), .v (.int .u64 d)]] => some (op == 10 && a == 4 && b == 9 && c == 1 && d == 2, .v (sp 4 15))
  | _ => none
theorem logic_ok : ∀ a r, logicT a = some (true, r) → PureOK G0 P 20 a r := by
  intro args r h
  unfold logicT at h
  split at h
  · injection h with h
    injection h with h1 h2
    subst h2
    simp only [Bool.and_eq_true, beq_iff_eq] at h1
    obtain ⟨⟨⟨⟨rfl, rfl⟩, rfl⟩, rfl⟩, rfl⟩ := h1
    refine pure_exec (T := Tab.cons 16 singleT (Tab.cons 13 oneT (Tab.cons 25 wideT Tab.nil))) (tabOK_cons (tabOK_cons (tabOK_cons tabOK_nil wide_ok) one_ok) single_ok) mixed eqs_ok 0 [] Try.func20 rfl rfl rfl rfl rfl rfl rfl rfl ?_
    repeat' ((conv => whnf); first | with_reducible refine br_true ?_ | with_reducible refine br_false ?_ | (with_reducible refine br_intro (fun h => ?_) (fun h => ?_) <;> try exact absurd h (by decide)) | ((with_reducible apply drw_intro); · kernel_rfl))
    all_goals exact done_intro rfl rfl rfl ⟨rfl, rfl, trivial⟩
  · cases h
def sumT : List SV → Option (Bool × ST)
  | [.a [.v (.int .u64 a), .v (.int .u64 b)], .a [.v (.int .u64 c), .v (.int .u64 d)]] => some (a == 1 && b == 5 && c == 10 && d == 20, .v (sp 11 25))
  | _ => none
theorem sum_ok : ∀ a r, sumT a = some (true, r) → PureOK G0 P 17 a r := by
  intro args r h
  unfold sumT at h
  split at h
  · injection h with h
    injection h with h1 h2
    subst h2
    simp only [Bool.and_eq_true, beq_iff_eq] at h1
    obtain ⟨⟨⟨rfl, rfl⟩, rfl⟩, rfl⟩ := h1
    refine pure_exec (T := Tab.cons 21 add64T Tab.nil) (tabOK_cons tabOK_nil add64_ok) mixed eqs_ok 0 [] Try.func17 rfl rfl rfl rfl rfl rfl rfl rfl ?_
    repeat' ((conv => whnf); first | with_reducible refine br_true ?_ | with_reducible refine br_false ?_ | (with_reducible refine br_intro (fun h => ?_) (fun h => ?_) <;> try exact absurd h (by decide)) | ((with_reducible apply drw_intro); · kernel_rfl))
    all_goals exact done_intro rfl rfl rfl ⟨rfl, rfl, trivial⟩
  · cases h
def doT : List SV → Option (Bool × ST)
  | [.c (.v (.int .u8 op)), .a [.v (.int .u64 a), .v (.int .u64 b)], .a [.v (.int .u64 c), .v (.int .u64 d)]] => some ((op == 4 && a == 1 && b == 5 && c == 10 && d == 20) || (op == 10 && a == 4 && b == 9 && c == 1 && d == 2), .t [sp (if op == 4 then 11 else 4) (if op == 4 then 25 else 15), er 0])
  | _ => none
def plans11 : List (Nat × Plan) := [(19, ⟨[(0, true), (1, true), (2, true), (3, true), (4, true), (5, true), (6, false), (7, true)], [], []⟩)]
theorem do_ok : ∀ a r, doT a = some (true, r) → PureOK G0 P 11 a r := by
  intro args r h
  have hT : TabOK G0 P (Tab.cons 5 checkT (Tab.cons 17 sumT (Tab.cons 20 logicT Tab.nil))) := tabOK_cons (tabOK_cons (tabOK_cons tabOK_nil logic_ok) sum_ok) check_ok
  unfold doT at h
  split at h
  · injection h with h
    injection h with h1 h2
    subst h2
    simp only [Bool.and_eq_true, Bool.or_eq_true, beq_iff_eq] at h1
    refine pure_exec hT mixed eqs_ok 0 plans11 Try.func11 rfl rfl rfl rfl rfl rfl rfl rfl ?_
    rcases h1 with ⟨⟨⟨⟨rfl, rfl⟩, rfl⟩, rfl⟩, rfl⟩ | ⟨⟨⟨⟨rfl, rfl⟩, rfl⟩, rfl⟩, rfl⟩
    all_goals repeat' ((conv => whnf); first | with_reducible refine br_true ?_ | with_reducible refine br_false ?_ | (with_reducible refine br_intro (fun h => ?_) (fun h => ?_) <;> try exact absurd h (by decide)) | ((with_reducible apply drw_intro); · kernel_rfl))
    all_goals exact done_intro rfl rfl rfl ⟨⟨rfl, rfl, trivial⟩, rfl, trivial⟩
  · cases h
end Go.Proofs.Ytnahgpoafghchaa
