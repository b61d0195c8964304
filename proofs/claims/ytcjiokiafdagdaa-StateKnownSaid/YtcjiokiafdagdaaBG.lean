/- The State laws: Join. -/
import Derived.Test.YtcjiokiafdagdaaBF
namespace Go.Proofs.Ytcjiokiafdagdaa
open Go.Sx Go.RowKit
set_option linter.unusedVariables false
set_option linter.unusedSimpArgs false
set_option maxRecDepth 100000
set_option maxHeartbeats 1000000
def spJ (a b : Sp) : Sp := ⟨mn a.lo b.lo, mx a.hi b.hi⟩
def joinG (f : Vl → Vl → Vl) (x y : Stt) : Stt := ⟨⟨f x.g.r0 y.g.r0, f x.g.r1 y.g.r1, f x.g.r2 y.g.r2, f x.g.r3 y.g.r3, f x.g.r4 y.g.r4, f x.g.r5 y.g.r5, f x.g.r6 y.g.r6, f x.g.r7 y.g.r7, f x.g.r8 y.g.r8, f x.g.r9 y.g.r9⟩, ⟨spJ x.s.s0 y.s.s0, spJ x.s.s1 y.s.s1, spJ x.s.s2 y.s.s2, spJ x.s.s3 y.s.s3, spJ x.s.s4 y.s.s4, spJ x.s.s5 y.s.s5, spJ x.s.s6 y.s.s6, spJ x.s.s7 y.s.s7⟩, joinR x.l y.l⟩
def zeroSt : Stt := ⟨⟨vZero, vZero, vZero, vZero, vZero, vZero, vZero, vZero, vZero, vZero⟩, ⟨⟨0, 0⟩, ⟨0, 0⟩, ⟨0, 0⟩, ⟨0, 0⟩, ⟨0, 0⟩, ⟨0, 0⟩, ⟨0, 0⟩, ⟨0, 0⟩⟩, []⟩
def stOk2 (x y : Stt) : Bool := stOk x && stOk y
def joinX (x y : Stt) : Stt := if stOk2 x y = true then joinG commonF x y else zeroSt
def err2 (x y : Stt) : Int := if stOk2 x y = true then 0 else 2
theorem stOk_check {x : Stt} (h : stOk x = true) : kCheck x.l = 0 := by
  unfold stOk at h
  simp only [Bool.and_eq_true, beq_iff_eq] at h
  exact h.2
def join17T : List (AV G) → Option (Bool × AT G)
  | [a, b] => stA a fun x => stA b fun y => some (true, .t [stV (joinX x y), .c (ci (err2 x y))])
  | _ => none
theorem join17_ok : ∀ a r, join17T a = some (true, r) → AOK G P 17 a r := by
  intro args r h
  unfold join17T at h
  split at h
  · refine stA_two h (fun x y h => ?_)
    cases h
    by_cases hk : stOk2 x y = true
    · have e1 : joinX x y = joinG commonF x y := by simp [joinX, hk]
      have e2 : err2 x y = 0 := by simp [err2, hk]
      have hq : ((if (stOk x && stOk y) = true then (0 : Int) else 2) != 0) = false := by
        rw [show (stOk x && stOk y) = true from hk]; rfl
      have hj : (joinE x.l y.l != 0) = false := by
        have hk' := hk
        unfold stOk2 at hk'
        simp only [Bool.and_eq_true] at hk'
        simp [joinE, stOk_check hk'.1, stOk_check hk'.2]
      rw [e1, e2]
      refine aok_exec (aTabOK_cons (aTabOK_cons (aTabOK_cons (aTabOK_cons aTabOK_nil join52_ok) join51_ok) common50_ok) asked44_ok) mixed eqs_ok 11 [(8, ⟨[(0, true), (1, true), (2, true), (3, true), (4, true), (5, true), (6, true), (7, true), (8, true), (9, false)], [], []⟩), (13, ⟨[(0, true), (1, true), (2, true), (3, true), (4, true), (5, true), (6, true), (7, true), (8, true), (9, false)], [], []⟩)] [] Try.func17 rfl rfl rfl rfl (avs := [.a (stS x 0), .a (stS y 1)]) (H0 := [(0, .ext (.k x.l)), (1, .ext (.k y.l))]) (n0 := 2) (res := .t [.a (stS (joinG commonF x y) 2), .c (.v (.int .i64 0))]) (new := [.ext (.k (joinG commonF x y).l)]) rfl rfl rfl rfl rfl rfl ?_
      refine of_execR ?_; repeat' ((conv => whnf); first | with_reducible refine br_pre rfl ?_ | with_reducible refine br_true ?_ | with_reducible refine br_false ?_ | with_reducible refine br_true' (by assumption) ?_ | with_reducible refine br_false' (by assumption) ?_ | with_reducible refine br_pre (by assumption) ?_ | (with_reducible refine br_intro (fun h => ?_) (fun h => ?_) <;> try exact absurd h (by decide)) | ((with_reducible apply drw_intro); · kernel_rfl))
      refine doneA_intro [some 25] rfl rfl rfl ?_ ⟨rfl, trivial⟩
      repeat' (first | rfl | exact True.intro | refine And.intro ?_ ?_)
    · have e1 : joinX x y = zeroSt := by simp [joinX, hk]
      have e2 : err2 x y = 2 := by simp [err2, hk]
      have hq : ((if (stOk x && stOk y) = true then (0 : Int) else 2) != 0) = true := by
        rw [if_neg (show ¬(stOk x && stOk y) = true from hk)]; rfl
      rw [e1, e2]
      refine aok_exec (aTabOK_cons aTabOK_nil asked44_ok) mixed eqs_ok 11 [(8, ⟨[(0, true), (1, true), (2, true), (3, true), (4, true), (5, true), (6, true), (7, true), (8, true), (9, false)], [], []⟩), (13, ⟨[(0, true), (1, true), (2, true), (3, true), (4, true), (5, true), (6, true), (7, true), (8, true), (9, false)], [], []⟩)] [] Try.func17 rfl rfl rfl rfl (avs := [.a (stS x 0), .a (stS y 1)]) (H0 := [(0, .ext (.k x.l)), (1, .ext (.k y.l))]) (n0 := 2) (res := .t [.a (stS zeroSt 2), .c (.v (.int .i64 2))]) (new := [.ext (.k [])]) rfl rfl rfl rfl rfl rfl ?_
      refine of_execR ?_; repeat' ((conv => whnf); first | with_reducible refine br_pre rfl ?_ | with_reducible refine br_true ?_ | with_reducible refine br_false ?_ | with_reducible refine br_true' (by assumption) ?_ | with_reducible refine br_false' (by assumption) ?_ | with_reducible refine br_pre (by assumption) ?_ | (with_reducible refine br_intro (fun h => ?_) (fun h => ?_) <;> try exact absurd h (by decide)) | ((with_reducible apply drw_intro); · kernel_rfl))
      refine doneA_intro [none] rfl rfl rfl ?_ ⟨rfl, trivial⟩
      refine ⟨?_, ?_, trivial⟩
      · repeat' (first | rfl | exact True.intro | refine And.intro ?_ ?_)
      · show (if (stOk x && stOk y) = true then (0 : Int) else 2) = 2
        rw [if_neg (show ¬(stOk x && stOk y) = true from hk)]
  · cases h
end Go.Proofs.Ytcjiokiafdagdaa
