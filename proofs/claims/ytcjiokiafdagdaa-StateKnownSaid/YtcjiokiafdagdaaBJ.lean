/- The State laws: Start, with. -/
import Derived.Test.YtcjiokiafdagdaaBF
namespace Go.Proofs.Ytcjiokiafdagdaa
open Go.Sx Go.RowKit
set_option linter.unusedVariables false
set_option linter.unusedSimpArgs false
set_option maxRecDepth 100000
set_option maxHeartbeats 20000000
def zeroSt0 : Stt := ⟨⟨vZero, vZero, vZero, vZero, vZero, vZero, vZero, vZero, vZero, vZero⟩, ⟨⟨0, 0⟩, ⟨0, 0⟩, ⟨0, 0⟩, ⟨0, 0⟩, ⟨0, 0⟩, ⟨0, 0⟩, ⟨0, 0⟩, ⟨0, 0⟩⟩, []⟩
def start31T : List (AV G) → Option (Bool × AT G)
  | [] => some (true, .v (stV zeroSt0))
  | _ => none
theorem start31_ok : ∀ a r, start31T a = some (true, r) → AOK G P 31 a r := by
  intro args r h
  unfold start31T at h
  split at h
  · cases h
    refine aok_exec (aTabOK_cons aTabOK_nil one61_ok) mixed eqs_ok 11 [] [] Try.func31 rfl rfl rfl rfl (avs := []) (H0 := []) (n0 := 0) (res := .v (.a (stS zeroSt0 0))) (new := [.ext (.k [])]) rfl rfl rfl rfl rfl rfl ?_
    refine of_execR ?_; repeat' ((conv => whnf); first | with_reducible refine br_pre rfl ?_ | with_reducible refine br_true ?_ | with_reducible refine br_false ?_ | with_reducible refine br_true' (by assumption) ?_ | with_reducible refine br_false' (by assumption) ?_ | with_reducible refine br_pre (by assumption) ?_ | (with_reducible refine br_intro (fun h => ?_) (fun h => ?_) <;> try exact absurd h (by decide)) | ((with_reducible apply drw_intro); · kernel_rfl))
    conv => whnf
    refine doneA_intro [none] rfl rfl rfl ?_ ⟨rfl, trivial⟩
    repeat' (first | rfl | exact True.intro | refine And.intro ?_ ?_)
  · cases h
def valsC (vs : List Vl) : List (AC G) := vs.flatMap vC
def valsS (vs : List Vl) : List SC := vs.flatMap fun x => [.v (.int .u8 x.k), .v (.int .u64 x.lo), .v (.int .u64 x.hi), .v (.int .i64 x.id), .v (.int .i64 x.off)]
def nth (vs : List Vl) (i : Nat) : Vl := vs.getD i vZero
def withSt (vs : List Vl) : Stt := ⟨⟨nth vs 0, nth vs 1, nth vs 2, nth vs 3, nth vs 4, nth vs 5, nth vs 6, nth vs 7, nth vs 8, nth vs 9⟩, ⟨⟨0, 0⟩, ⟨0, 0⟩, ⟨0, 0⟩, ⟨0, 0⟩, ⟨0, 0⟩, ⟨0, 0⟩, ⟨0, 0⟩, ⟨0, 0⟩⟩, []⟩
def parseV : Nat → List (AC G) → Option (List Vl)
  | 0, [] => some []
  | n + 1, .v (.int .u8 k) :: .v (.int .u64 lo) :: .v (.int .u64 hi) :: .v (.int .i64 id) :: .v (.int .i64 off) :: r => match parseV n r with
    | some l => some (⟨k, lo, hi, id, off⟩ :: l)
    | none => none
  | _, _ => none
theorem parseV_some : ∀ {n : Nat} {cs : List (AC G)} {l : List Vl}, parseV n cs = some l → l.length = n ∧ cs = valsC l
  | 0, cs, l, h => by
    unfold parseV at h
    split at h
    · injection h with h
      subst h
      exact ⟨rfl, rfl⟩
    · rename_i h0; cases h0
    · cases h
  | n + 1, cs, l, h => by
    unfold parseV at h
    split at h
    · rename_i h0; cases h0
    · rename_i x1 m k lo hi id off r hm
      injection hm with hm
      subst hm
      split at h
      · rename_i l' hl
        injection h with h
        subst h
        obtain ⟨h1, h2⟩ := parseV_some hl
        exact ⟨by simp [h1], by rw [h2]; rfl⟩
      · cases h
    · cases h
def with32T : List (AV G) → Option (Bool × AT G)
  | [.s 26 n cs] => match parseV n cs with
    | some vs => some (Nat.ble 1 n && Nat.ble n 7, .v (stV (withSt vs)))
    | none => none
  | _ => none
theorem with32_1 (v0 : Vl) : AOK G P 32 [.s 26 1 (valsC [v0])] (.v (stV (withSt [v0]))) := by
  refine aok_exec aTabOK_nil mixed eqs_ok 11 [] [] Try.func32 rfl rfl rfl rfl (avs := [.c (.s 0 1)]) (H0 := [(0, .ro 26 (valsS [v0]))]) (n0 := 1) (res := .v (.a (stS (withSt [v0]) 1))) (new := [.ext (.k [])]) rfl rfl rfl rfl rfl rfl ?_
  refine of_execR ?_; repeat' ((conv => whnf); first | with_reducible refine br_pre rfl ?_ | with_reducible refine br_true ?_ | with_reducible refine br_false ?_ | with_reducible refine br_true' (by assumption) ?_ | with_reducible refine br_false' (by assumption) ?_ | with_reducible refine br_pre (by assumption) ?_ | (with_reducible refine br_intro (fun h => ?_) (fun h => ?_) <;> try exact absurd h (by decide)) | ((with_reducible apply drw_intro); · kernel_rfl))
  conv => whnf
  refine doneA_intro [none] rfl rfl rfl ?_ ⟨rfl, trivial⟩
  repeat' (first | rfl | exact True.intro | refine And.intro ?_ ?_)
theorem with32_2 (v0 v1 : Vl) : AOK G P 32 [.s 26 2 (valsC [v0, v1])] (.v (stV (withSt [v0, v1]))) := by
  refine aok_exec aTabOK_nil mixed eqs_ok 11 [] [] Try.func32 rfl rfl rfl rfl (avs := [.c (.s 0 2)]) (H0 := [(0, .ro 26 (valsS [v0, v1]))]) (n0 := 1) (res := .v (.a (stS (withSt [v0, v1]) 1))) (new := [.ext (.k [])]) rfl rfl rfl rfl rfl rfl ?_
  refine of_execR ?_; repeat' ((conv => whnf); first | with_reducible refine br_pre rfl ?_ | with_reducible refine br_true ?_ | with_reducible refine br_false ?_ | with_reducible refine br_true' (by assumption) ?_ | with_reducible refine br_false' (by assumption) ?_ | with_reducible refine br_pre (by assumption) ?_ | (with_reducible refine br_intro (fun h => ?_) (fun h => ?_) <;> try exact absurd h (by decide)) | ((with_reducible apply drw_intro); · kernel_rfl))
  conv => whnf
  refine doneA_intro [none] rfl rfl rfl ?_ ⟨rfl, trivial⟩
  repeat' (first | rfl | exact True.intro | refine And.intro ?_ ?_)
theorem with32_3 (v0 v1 v2 : Vl) : AOK G P 32 [.s 26 3 (valsC [v0, v1, v2])] (.v (stV (withSt [v0, v1, v2]))) := by
  refine aok_exec aTabOK_nil mixed eqs_ok 11 [] [] Try.func32 rfl rfl rfl rfl (avs := [.c (.s 0 3)]) (H0 := [(0, .ro 26 (valsS [v0, v1, v2]))]) (n0 := 1) (res := .v (.a (stS (withSt [v0, v1, v2]) 1))) (new := [.ext (.k [])]) rfl rfl rfl rfl rfl rfl ?_
  refine of_execR ?_; repeat' ((conv => whnf); first | with_reducible refine br_pre rfl ?_ | with_reducible refine br_true ?_ | with_reducible refine br_false ?_ | with_reducible refine br_true' (by assumption) ?_ | with_reducible refine br_false' (by assumption) ?_ | with_reducible refine br_pre (by assumption) ?_ | (with_reducible refine br_intro (fun h => ?_) (fun h => ?_) <;> try exact absurd h (by decide)) | ((with_reducible apply drw_intro); · kernel_rfl))
  conv => whnf
  refine doneA_intro [none] rfl rfl rfl ?_ ⟨rfl, trivial⟩
  repeat' (first | rfl | exact True.intro | refine And.intro ?_ ?_)
theorem with32_4 (v0 v1 v2 v3 : Vl) : AOK G P 32 [.s 26 4 (valsC [v0, v1, v2, v3])] (.v (stV (withSt [v0, v1, v2, v3]))) := by
  refine aok_exec aTabOK_nil mixed eqs_ok 11 [] [] Try.func32 rfl rfl rfl rfl (avs := [.c (.s 0 4)]) (H0 := [(0, .ro 26 (valsS [v0, v1, v2, v3]))]) (n0 := 1) (res := .v (.a (stS (withSt [v0, v1, v2, v3]) 1))) (new := [.ext (.k [])]) rfl rfl rfl rfl rfl rfl ?_
  refine of_execR ?_; repeat' ((conv => whnf); first | with_reducible refine br_pre rfl ?_ | with_reducible refine br_true ?_ | with_reducible refine br_false ?_ | with_reducible refine br_true' (by assumption) ?_ | with_reducible refine br_false' (by assumption) ?_ | with_reducible refine br_pre (by assumption) ?_ | (with_reducible refine br_intro (fun h => ?_) (fun h => ?_) <;> try exact absurd h (by decide)) | ((with_reducible apply drw_intro); · kernel_rfl))
  conv => whnf
  refine doneA_intro [none] rfl rfl rfl ?_ ⟨rfl, trivial⟩
  repeat' (first | rfl | exact True.intro | refine And.intro ?_ ?_)
theorem with32_5 (v0 v1 v2 v3 v4 : Vl) : AOK G P 32 [.s 26 5 (valsC [v0, v1, v2, v3, v4])] (.v (stV (withSt [v0, v1, v2, v3, v4]))) := by
  refine aok_exec aTabOK_nil mixed eqs_ok 11 [] [] Try.func32 rfl rfl rfl rfl (avs := [.c (.s 0 5)]) (H0 := [(0, .ro 26 (valsS [v0, v1, v2, v3, v4]))]) (n0 := 1) (res := .v (.a (stS (withSt [v0, v1, v2, v3, v4]) 1))) (new := [.ext (.k [])]) rfl rfl rfl rfl rfl rfl ?_
  refine of_execR ?_; repeat' ((conv => whnf); first | with_reducible refine br_pre rfl ?_ | with_reducible refine br_true ?_ | with_reducible refine br_false ?_ | with_reducible refine br_true' (by assumption) ?_ | with_reducible refine br_false' (by assumption) ?_ | with_reducible refine br_pre (by assumption) ?_ | (with_reducible refine br_intro (fun h => ?_) (fun h => ?_) <;> try exact absurd h (by decide)) | ((with_reducible apply drw_intro); · kernel_rfl))
  conv => whnf
  refine doneA_intro [none] rfl rfl rfl ?_ ⟨rfl, trivial⟩
  repeat' (first | rfl | exact True.intro | refine And.intro ?_ ?_)
theorem with32_6 (v0 v1 v2 v3 v4 v5 : Vl) : AOK G P 32 [.s 26 6 (valsC [v0, v1, v2, v3, v4, v5])] (.v (stV (withSt [v0, v1, v2, v3, v4, v5]))) := by
  refine aok_exec aTabOK_nil mixed eqs_ok 11 [] [] Try.func32 rfl rfl rfl rfl (avs := [.c (.s 0 6)]) (H0 := [(0, .ro 26 (valsS [v0, v1, v2, v3, v4, v5]))]) (n0 := 1) (res := .v (.a (stS (withSt [v0, v1, v2, v3, v4, v5]) 1))) (new := [.ext (.k [])]) rfl rfl rfl rfl rfl rfl ?_
  refine of_execR ?_; repeat' ((conv => whnf); first | with_reducible refine br_pre rfl ?_ | with_reducible refine br_true ?_ | with_reducible refine br_false ?_ | with_reducible refine br_true' (by assumption) ?_ | with_reducible refine br_false' (by assumption) ?_ | with_reducible refine br_pre (by assumption) ?_ | (with_reducible refine br_intro (fun h => ?_) (fun h => ?_) <;> try exact absurd h (by decide)) | ((with_reducible apply drw_intro); · kernel_rfl))
  conv => whnf
  refine doneA_intro [none] rfl rfl rfl ?_ ⟨rfl, trivial⟩
  repeat' (first | rfl | exact True.intro | refine And.intro ?_ ?_)
theorem with32_7 (v0 v1 v2 v3 v4 v5 v6 : Vl) : AOK G P 32 [.s 26 7 (valsC [v0, v1, v2, v3, v4, v5, v6])] (.v (stV (withSt [v0, v1, v2, v3, v4, v5, v6]))) := by
  refine aok_exec aTabOK_nil mixed eqs_ok 11 [] [] Try.func32 rfl rfl rfl rfl (avs := [.c (.s 0 7)]) (H0 := [(0, .ro 26 (valsS [v0, v1, v2, v3, v4, v5, v6]))]) (n0 := 1) (res := .v (.a (stS (withSt [v0, v1, v2, v3, v4, v5, v6]) 1))) (new := [.ext (.k [])]) rfl rfl rfl rfl rfl rfl ?_
  refine of_execR ?_; repeat' ((conv => whnf); first | with_reducible refine br_pre rfl ?_ | with_reducible refine br_true ?_ | with_reducible refine br_false ?_ | with_reducible refine br_true' (by assumption) ?_ | with_reducible refine br_false' (by assumption) ?_ | with_reducible refine br_pre (by assumption) ?_ | (with_reducible refine br_intro (fun h => ?_) (fun h => ?_) <;> try exact absurd h (by decide)) | ((with_reducible apply drw_intro); · kernel_rfl))
  conv => whnf
  refine doneA_intro [none] rfl rfl rfl ?_ ⟨rfl, trivial⟩
  repeat' (first | rfl | exact True.intro | refine And.intro ?_ ?_)
theorem with32_ok : ∀ a r, with32T a = some (true, r) → AOK G P 32 a r := by
  intro args r h
  unfold with32T at h
  split at h
  · rename_i n cs
    split at h
    · rename_i vs hv
      obtain ⟨h1, rfl⟩ := parseV_some hv
      injection h with h
      injection h with hpre h2
      subst h2
      simp only [Bool.and_eq_true, Nat.ble_eq] at hpre
      subst h1
      match vs, hpre with
      | [v0], _ => exact with32_1 v0
      | [v0, v1], _ => exact with32_2 v0 v1
      | [v0, v1, v2], _ => exact with32_3 v0 v1 v2
      | [v0, v1, v2, v3], _ => exact with32_4 v0 v1 v2 v3
      | [v0, v1, v2, v3, v4], _ => exact with32_5 v0 v1 v2 v3 v4
      | [v0, v1, v2, v3, v4, v5], _ => exact with32_6 v0 v1 v2 v3 v4 v5
      | [v0, v1, v2, v3, v4, v5, v6], _ => exact with32_7 v0 v1 v2 v3 v4 v5 v6
      | [], hp => exact absurd hp.1 (by decide)
      | _ :: _ :: _ :: _ :: _ :: _ :: _ :: _ :: _, hp => exact absurd hp.2 (by simp)
    · cases h
  · cases h
end Go.Proofs.Ytcjiokiafdagdaa
