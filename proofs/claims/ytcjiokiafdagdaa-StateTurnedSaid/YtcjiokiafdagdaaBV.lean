/- The State laws: StateTurned, the text. -/
import Derived.Test.YtcjiokiafdagdaaBU
import Derived.Test.YtcjiokiafdagdaaBK
namespace Go.Proofs.Ytcjiokiafdagdaa
open Go.Sx Go.RowKit
set_option linter.unusedVariables false
set_option linter.unusedSimpArgs false
set_option maxRecDepth 100000
set_option maxHeartbeats 20000000
def inv7 (a s : Stt) (t : Int) : LInv G :=
  { α := Nat
    I := fun k => ⟨91, [(9, .v (.c (.v (.int .i64 (k : Int))))), (2, .v (.c (.v (.int .i64 t)))), (3, .v (.c (.p 2 0))), (7, .v (.c (.p 5 0)))], 6, [(0, .ext (.k a.l)), (4, .ext (.k s.l)), (2, .own 31 (stS a 0)), (5, .own 31 (stS s 4))]⟩
    R := fun k => k ≤ 12
    μ := fun k => 12 - k }
theorem turned7 (a b : Stt) (t : Int) : AOK G P 7 [stV a, stV b, .c (ci t)] (boA true) := by
  refine aok_exec (aTabOK_cons (aTabOK_cons (aTabOK_cons (aTabOK_cons (aTabOK_cons (aTabOK_cons (aTabOK_cons aTabOK_nil made26_ok) called24_ok) moved22_ok) bring28_ok) under15_ok) join17_ok) works21_ok) mixed eqs_ok 0 [] [([0, 1, 0, 1, 1, 1, 1, 1], inv7 a (joinX a b) (bringF t 256))] Try.func7 rfl rfl rfl rfl (avs := [.a (stS a 0), .a (stS b 1), .c (.v (.int .i64 t))]) (H0 := [(0, .ext (.k a.l)), (1, .ext (.k b.l))]) (n0 := 2) (res := .v (.c (.v (.bool true)))) (new := []) rfl rfl rfl rfl rfl rfl ?_
  by_cases hh : stOk2 a b = true
  · obtain ⟨ha, hb⟩ := ok2_iff.1 hh
    have d1 : (err2 a b != 0) = false := by rw [err2_eq ha hb]; rfl
    have hs := ok_join ha hb
    have hu := under_join ha hb
    have ht := bring_range t
    refine of_execR ?_; repeat' ((conv => whnf); first | with_reducible refine br_pre rfl ?_ | with_reducible refine br_true ?_ | with_reducible refine br_false ?_ | with_reducible refine br_true' (by assumption) ?_ | with_reducible refine br_false' (by assumption) ?_ | with_reducible refine br_pre (by assumption) ?_ | (with_reducible refine br_intro (fun h => ?_) (fun h => ?_) <;> try exact absurd h (by decide)) | ((with_reducible apply drw_intro); · kernel_rfl))
    conv => whnf
    refine ⟨(0 : Nat), ⟨(show 0 ≤ 12 by omega), ⟨⟨rfl, rfl, rfl⟩, ?_, ?_⟩⟩, ?_⟩
    · repeat' (first | trivial | rfl | refine And.intro ?_ ?_)
    · repeat' (first | trivial | rfl | refine And.intro ?_ ?_)
    generalize joinX a b = s at *
    generalize bringF t 256 = t' at *
    rintro (k : Nat) (hk : k ≤ 12)
    refine of_execR ?_
    rcases (by omega : k = 0 ∨ k = 1 ∨ k = 2 ∨ k = 3 ∨ k = 4 ∨ k = 5 ∨ k = 6 ∨ k = 7 ∨ k = 8 ∨ k = 9 ∨ k = 10 ∨ k = 11 ∨ k = 12) with rfl | rfl | rfl | rfl | rfl | rfl | rfl | rfl | rfl | rfl | rfl | rfl | rfl
    · have hr : 0 ≤ ((0 : Nat) : Int) ∧ ((0 : Nat) : Int) < 10 ∧ 0 ≤ t' ∧ t' < 256 := ⟨by decide, by decide, ht⟩
      have m1 : (madeErr a ((0 : Nat) : Int) t' != 0) = false := by rw [made_err ha hr]; rfl
      have m2 : (madeErr s ((0 : Nat) : Int) t' != 0) = false := by rw [made_err hs hr]; rfl
      have m3 : (err2 (madeX a ((0 : Nat) : Int) t') (madeX s ((0 : Nat) : Int) t') != 0) = false := by rw [err2_eq (ok_made ha hr) (ok_made hs hr)]; rfl
      have m4 : (!underB (madeX a ((0 : Nat) : Int) t') (madeX s ((0 : Nat) : Int) t')) = false := by rw [under_made ha hs hr hu]; rfl
      repeat' ((conv => whnf); first | with_reducible refine br_pre rfl ?_ | with_reducible refine br_true ?_ | with_reducible refine br_false ?_ | with_reducible refine br_true' (by assumption) ?_ | with_reducible refine br_false' (by assumption) ?_ | with_reducible refine br_pre (by assumption) ?_ | (with_reducible refine br_intro (fun h => ?_) (fun h => ?_) <;> try exact absurd h (by decide)) | ((with_reducible apply drw_intro); · kernel_rfl))
      all_goals conv => whnf
      refine ⟨(1 : Nat), ⟨(show 1 ≤ 12 by omega), (show 12 - 1 < 12 - 0 by omega)⟩, ⟨⟨rfl, rfl, rfl⟩, (by repeat' (first | trivial | rfl | refine And.intro ?_ ?_)), (by repeat' (first | trivial | rfl | refine And.intro ?_ ?_))⟩⟩
    · have hr : 0 ≤ ((1 : Nat) : Int) ∧ ((1 : Nat) : Int) < 10 ∧ 0 ≤ t' ∧ t' < 256 := ⟨by decide, by decide, ht⟩
      have m1 : (madeErr a ((1 : Nat) : Int) t' != 0) = false := by rw [made_err ha hr]; rfl
      have m2 : (madeErr s ((1 : Nat) : Int) t' != 0) = false := by rw [made_err hs hr]; rfl
      have m3 : (err2 (madeX a ((1 : Nat) : Int) t') (madeX s ((1 : Nat) : Int) t') != 0) = false := by rw [err2_eq (ok_made ha hr) (ok_made hs hr)]; rfl
      have m4 : (!underB (madeX a ((1 : Nat) : Int) t') (madeX s ((1 : Nat) : Int) t')) = false := by rw [under_made ha hs hr hu]; rfl
      repeat' ((conv => whnf); first | with_reducible refine br_pre rfl ?_ | with_reducible refine br_true ?_ | with_reducible refine br_false ?_ | with_reducible refine br_true' (by assumption) ?_ | with_reducible refine br_false' (by assumption) ?_ | with_reducible refine br_pre (by assumption) ?_ | (with_reducible refine br_intro (fun h => ?_) (fun h => ?_) <;> try exact absurd h (by decide)) | ((with_reducible apply drw_intro); · kernel_rfl))
      all_goals conv => whnf
      refine ⟨(2 : Nat), ⟨(show 2 ≤ 12 by omega), (show 12 - 2 < 12 - 1 by omega)⟩, ⟨⟨rfl, rfl, rfl⟩, (by repeat' (first | trivial | rfl | refine And.intro ?_ ?_)), (by repeat' (first | trivial | rfl | refine And.intro ?_ ?_))⟩⟩
    · have hr : 0 ≤ ((2 : Nat) : Int) ∧ ((2 : Nat) : Int) < 10 ∧ 0 ≤ t' ∧ t' < 256 := ⟨by decide, by decide, ht⟩
      have m1 : (madeErr a ((2 : Nat) : Int) t' != 0) = false := by rw [made_err ha hr]; rfl
      have m2 : (madeErr s ((2 : Nat) : Int) t' != 0) = false := by rw [made_err hs hr]; rfl
      have m3 : (err2 (madeX a ((2 : Nat) : Int) t') (madeX s ((2 : Nat) : Int) t') != 0) = false := by rw [err2_eq (ok_made ha hr) (ok_made hs hr)]; rfl
      have m4 : (!underB (madeX a ((2 : Nat) : Int) t') (madeX s ((2 : Nat) : Int) t')) = false := by rw [under_made ha hs hr hu]; rfl
      repeat' ((conv => whnf); first | with_reducible refine br_pre rfl ?_ | with_reducible refine br_true ?_ | with_reducible refine br_false ?_ | with_reducible refine br_true' (by assumption) ?_ | with_reducible refine br_false' (by assumption) ?_ | with_reducible refine br_pre (by assumption) ?_ | (with_reducible refine br_intro (fun h => ?_) (fun h => ?_) <;> try exact absurd h (by decide)) | ((with_reducible apply drw_intro); · kernel_rfl))
      all_goals conv => whnf
      refine ⟨(3 : Nat), ⟨(show 3 ≤ 12 by omega), (show 12 - 3 < 12 - 2 by omega)⟩, ⟨⟨rfl, rfl, rfl⟩, (by repeat' (first | trivial | rfl | refine And.intro ?_ ?_)), (by repeat' (first | trivial | rfl | refine And.intro ?_ ?_))⟩⟩
    · have hr : 0 ≤ ((3 : Nat) : Int) ∧ ((3 : Nat) : Int) < 10 ∧ 0 ≤ t' ∧ t' < 256 := ⟨by decide, by decide, ht⟩
      have m1 : (madeErr a ((3 : Nat) : Int) t' != 0) = false := by rw [made_err ha hr]; rfl
      have m2 : (madeErr s ((3 : Nat) : Int) t' != 0) = false := by rw [made_err hs hr]; rfl
      have m3 : (err2 (madeX a ((3 : Nat) : Int) t') (madeX s ((3 : Nat) : Int) t') != 0) = false := by rw [err2_eq (ok_made ha hr) (ok_made hs hr)]; rfl
      have m4 : (!underB (madeX a ((3 : Nat) : Int) t') (madeX s ((3 : Nat) : Int) t')) = false := by rw [under_made ha hs hr hu]; rfl
      repeat' ((conv => whnf); first | with_reducible refine br_pre rfl ?_ | with_reducible refine br_true ?_ | with_reducible refine br_false ?_ | with_reducible refine br_true' (by assumption) ?_ | with_reducible refine br_false' (by assumption) ?_ | with_reducible refine br_pre (by assumption) ?_ | (with_reducible refine br_intro (fun h => ?_) (fun h => ?_) <;> try exact absurd h (by decide)) | ((with_reducible apply drw_intro); · kernel_rfl))
      all_goals conv => whnf
      refine ⟨(4 : Nat), ⟨(show 4 ≤ 12 by omega), (show 12 - 4 < 12 - 3 by omega)⟩, ⟨⟨rfl, rfl, rfl⟩, (by repeat' (first | trivial | rfl | refine And.intro ?_ ?_)), (by repeat' (first | trivial | rfl | refine And.intro ?_ ?_))⟩⟩
    · have hr : 0 ≤ ((4 : Nat) : Int) ∧ ((4 : Nat) : Int) < 10 ∧ 0 ≤ t' ∧ t' < 256 := ⟨by decide, by decide, ht⟩
      have m1 : (madeErr a ((4 : Nat) : Int) t' != 0) = false := by rw [made_err ha hr]; rfl
      have m2 : (madeErr s ((4 : Nat) : Int) t' != 0) = false := by rw [made_err hs hr]; rfl
      have m3 : (err2 (madeX a ((4 : Nat) : Int) t') (madeX s ((4 : Nat) : Int) t') != 0) = false := by rw [err2_eq (ok_made ha hr) (ok_made hs hr)]; rfl
      have m4 : (!underB (madeX a ((4 : Nat) : Int) t') (madeX s ((4 : Nat) : Int) t')) = false := by rw [under_made ha hs hr hu]; rfl
      repeat' ((conv => whnf); first | with_reducible refine br_pre rfl ?_ | with_reducible refine br_true ?_ | with_reducible refine br_false ?_ | with_reducible refine br_true' (by assumption) ?_ | with_reducible refine br_false' (by assumption) ?_ | with_reducible refine br_pre (by assumption) ?_ | (with_reducible refine br_intro (fun h => ?_) (fun h => ?_) <;> try exact absurd h (by decide)) | ((with_reducible apply drw_intro); · kernel_rfl))
      all_goals conv => whnf
      refine ⟨(5 : Nat), ⟨(show 5 ≤ 12 by omega), (show 12 - 5 < 12 - 4 by omega)⟩, ⟨⟨rfl, rfl, rfl⟩, (by repeat' (first | trivial | rfl | refine And.intro ?_ ?_)), (by repeat' (first | trivial | rfl | refine And.intro ?_ ?_))⟩⟩
    · have hr : 0 ≤ ((5 : Nat) : Int) ∧ ((5 : Nat) : Int) < 10 ∧ 0 ≤ t' ∧ t' < 256 := ⟨by decide, by decide, ht⟩
      have m1 : (madeErr a ((5 : Nat) : Int) t' != 0) = false := by rw [made_err ha hr]; rfl
      have m2 : (madeErr s ((5 : Nat) : Int) t' != 0) = false := by rw [made_err hs hr]; rfl
      have m3 : (err2 (madeX a ((5 : Nat) : Int) t') (madeX s ((5 : Nat) : Int) t') != 0) = false := by rw [err2_eq (ok_made ha hr) (ok_made hs hr)]; rfl
      have m4 : (!underB (madeX a ((5 : Nat) : Int) t') (madeX s ((5 : Nat) : Int) t')) = false := by rw [under_made ha hs hr hu]; rfl
      repeat' ((conv => whnf); first | with_reducible refine br_pre rfl ?_ | with_reducible refine br_true ?_ | with_reducible refine br_false ?_ | with_reducible refine br_true' (by assumption) ?_ | with_reducible refine br_false' (by assumption) ?_ | with_reducible refine br_pre (by assumption) ?_ | (with_reducible refine br_intro (fun h => ?_) (fun h => ?_) <;> try exact absurd h (by decide)) | ((with_reducible apply drw_intro); · kernel_rfl))
      all_goals conv => whnf
      refine ⟨(6 : Nat), ⟨(show 6 ≤ 12 by omega), (show 12 - 6 < 12 - 5 by omega)⟩, ⟨⟨rfl, rfl, rfl⟩, (by repeat' (first | trivial | rfl | refine And.intro ?_ ?_)), (by repeat' (first | trivial | rfl | refine And.intro ?_ ?_))⟩⟩
    · have hr : 0 ≤ ((6 : Nat) : Int) ∧ ((6 : Nat) : Int) < 10 ∧ 0 ≤ t' ∧ t' < 256 := ⟨by decide, by decide, ht⟩
      have m1 : (madeErr a ((6 : Nat) : Int) t' != 0) = false := by rw [made_err ha hr]; rfl
      have m2 : (madeErr s ((6 : Nat) : Int) t' != 0) = false := by rw [made_err hs hr]; rfl
      have m3 : (err2 (madeX a ((6 : Nat) : Int) t') (madeX s ((6 : Nat) : Int) t') != 0) = false := by rw [err2_eq (ok_made ha hr) (ok_made hs hr)]; rfl
      have m4 : (!underB (madeX a ((6 : Nat) : Int) t') (madeX s ((6 : Nat) : Int) t')) = false := by rw [under_made ha hs hr hu]; rfl
      repeat' ((conv => whnf); first | with_reducible refine br_pre rfl ?_ | with_reducible refine br_true ?_ | with_reducible refine br_false ?_ | with_reducible refine br_true' (by assumption) ?_ | with_reducible refine br_false' (by assumption) ?_ | with_reducible refine br_pre (by assumption) ?_ | (with_reducible refine br_intro (fun h => ?_) (fun h => ?_) <;> try exact absurd h (by decide)) | ((with_reducible apply drw_intro); · kernel_rfl))
      all_goals conv => whnf
      refine ⟨(7 : Nat), ⟨(show 7 ≤ 12 by omega), (show 12 - 7 < 12 - 6 by omega)⟩, ⟨⟨rfl, rfl, rfl⟩, (by repeat' (first | trivial | rfl | refine And.intro ?_ ?_)), (by repeat' (first | trivial | rfl | refine And.intro ?_ ?_))⟩⟩
    · have hr : 0 ≤ ((7 : Nat) : Int) ∧ ((7 : Nat) : Int) < 10 ∧ 0 ≤ t' ∧ t' < 256 := ⟨by decide, by decide, ht⟩
      have m1 : (madeErr a ((7 : Nat) : Int) t' != 0) = false := by rw [made_err ha hr]; rfl
      have m2 : (madeErr s ((7 : Nat) : Int) t' != 0) = false := by rw [made_err hs hr]; rfl
      have m3 : (err2 (madeX a ((7 : Nat) : Int) t') (madeX s ((7 : Nat) : Int) t') != 0) = false := by rw [err2_eq (ok_made ha hr) (ok_made hs hr)]; rfl
      have m4 : (!underB (madeX a ((7 : Nat) : Int) t') (madeX s ((7 : Nat) : Int) t')) = false := by rw [under_made ha hs hr hu]; rfl
      repeat' ((conv => whnf); first | with_reducible refine br_pre rfl ?_ | with_reducible refine br_true ?_ | with_reducible refine br_false ?_ | with_reducible refine br_true' (by assumption) ?_ | with_reducible refine br_false' (by assumption) ?_ | with_reducible refine br_pre (by assumption) ?_ | (with_reducible refine br_intro (fun h => ?_) (fun h => ?_) <;> try exact absurd h (by decide)) | ((with_reducible apply drw_intro); · kernel_rfl))
      all_goals conv => whnf
      refine ⟨(8 : Nat), ⟨(show 8 ≤ 12 by omega), (show 12 - 8 < 12 - 7 by omega)⟩, ⟨⟨rfl, rfl, rfl⟩, (by repeat' (first | trivial | rfl | refine And.intro ?_ ?_)), (by repeat' (first | trivial | rfl | refine And.intro ?_ ?_))⟩⟩
    · have hr : 0 ≤ ((8 : Nat) : Int) ∧ ((8 : Nat) : Int) < 10 ∧ 0 ≤ t' ∧ t' < 256 := ⟨by decide, by decide, ht⟩
      have m1 : (madeErr a ((8 : Nat) : Int) t' != 0) = false := by rw [made_err ha hr]; rfl
      have m2 : (madeErr s ((8 : Nat) : Int) t' != 0) = false := by rw [made_err hs hr]; rfl
      have m3 : (err2 (madeX a ((8 : Nat) : Int) t') (madeX s ((8 : Nat) : Int) t') != 0) = false := by rw [err2_eq (ok_made ha hr) (ok_made hs hr)]; rfl
      have m4 : (!underB (madeX a ((8 : Nat) : Int) t') (madeX s ((8 : Nat) : Int) t')) = false := by rw [under_made ha hs hr hu]; rfl
      repeat' ((conv => whnf); first | with_reducible refine br_pre rfl ?_ | with_reducible refine br_true ?_ | with_reducible refine br_false ?_ | with_reducible refine br_true' (by assumption) ?_ | with_reducible refine br_false' (by assumption) ?_ | with_reducible refine br_pre (by assumption) ?_ | (with_reducible refine br_intro (fun h => ?_) (fun h => ?_) <;> try exact absurd h (by decide)) | ((with_reducible apply drw_intro); · kernel_rfl))
      all_goals conv => whnf
      refine ⟨(9 : Nat), ⟨(show 9 ≤ 12 by omega), (show 12 - 9 < 12 - 8 by omega)⟩, ⟨⟨rfl, rfl, rfl⟩, (by repeat' (first | trivial | rfl | refine And.intro ?_ ?_)), (by repeat' (first | trivial | rfl | refine And.intro ?_ ?_))⟩⟩
    · have hr : 0 ≤ ((9 : Nat) : Int) ∧ ((9 : Nat) : Int) < 10 ∧ 0 ≤ t' ∧ t' < 256 := ⟨by decide, by decide, ht⟩
      have m1 : (madeErr a ((9 : Nat) : Int) t' != 0) = false := by rw [made_err ha hr]; rfl
      have m2 : (madeErr s ((9 : Nat) : Int) t' != 0) = false := by rw [made_err hs hr]; rfl
      have m3 : (err2 (madeX a ((9 : Nat) : Int) t') (madeX s ((9 : Nat) : Int) t') != 0) = false := by rw [err2_eq (ok_made ha hr) (ok_made hs hr)]; rfl
      have m4 : (!underB (madeX a ((9 : Nat) : Int) t') (madeX s ((9 : Nat) : Int) t')) = false := by rw [under_made ha hs hr hu]; rfl
      repeat' ((conv => whnf); first | with_reducible refine br_pre rfl ?_ | with_reducible refine br_true ?_ | with_reducible refine br_false ?_ | with_reducible refine br_true' (by assumption) ?_ | with_reducible refine br_false' (by assumption) ?_ | with_reducible refine br_pre (by assumption) ?_ | (with_reducible refine br_intro (fun h => ?_) (fun h => ?_) <;> try exact absurd h (by decide)) | ((with_reducible apply drw_intro); · kernel_rfl))
      all_goals conv => whnf
      refine ⟨(10 : Nat), ⟨(show 10 ≤ 12 by omega), (show 12 - 10 < 12 - 9 by omega)⟩, ⟨⟨rfl, rfl, rfl⟩, (by repeat' (first | trivial | rfl | refine And.intro ?_ ?_)), (by repeat' (first | trivial | rfl | refine And.intro ?_ ?_))⟩⟩
    · have m1 : (stCheck a != 0) = false := by simp [stCheck, ha]
      have m2 : (stCheck s != 0) = false := by simp [stCheck, hs]
      have m3 : (err2 (movedX a) (movedX s) != 0) = false := by rw [err2_eq (ok_moved ha) (ok_moved hs)]; rfl
      have m4 : (!underB (movedX a) (movedX s)) = false := by rw [under_moved ha hs hu]; rfl
      repeat' ((conv => whnf); first | with_reducible refine br_pre rfl ?_ | with_reducible refine br_true ?_ | with_reducible refine br_false ?_ | with_reducible refine br_true' (by assumption) ?_ | with_reducible refine br_false' (by assumption) ?_ | with_reducible refine br_pre (by assumption) ?_ | (with_reducible refine br_intro (fun h => ?_) (fun h => ?_) <;> try exact absurd h (by decide)) | ((with_reducible apply drw_intro); · kernel_rfl))
      all_goals conv => whnf
      refine ⟨(11 : Nat), ⟨(show 11 ≤ 12 by omega), (show 12 - 11 < 12 - 10 by omega)⟩, ⟨⟨rfl, rfl, rfl⟩, (by repeat' (first | trivial | rfl | refine And.intro ?_ ?_)), (by repeat' (first | trivial | rfl | refine And.intro ?_ ?_))⟩⟩
    · have m1 : (stCheck a != 0) = false := by simp [stCheck, ha]
      have m2 : (stCheck s != 0) = false := by simp [stCheck, hs]
      have m3 : (err2 (calledX a) (calledX s) != 0) = false := by rw [err2_eq (ok_called ha) (ok_called hs)]; rfl
      have m4 : (!underB (calledX a) (calledX s)) = false := by rw [under_called ha hs hu]; rfl
      repeat' ((conv => whnf); first | with_reducible refine br_pre rfl ?_ | with_reducible refine br_true ?_ | with_reducible refine br_false ?_ | with_reducible refine br_true' (by assumption) ?_ | with_reducible refine br_false' (by assumption) ?_ | with_reducible refine br_pre (by assumption) ?_ | (with_reducible refine br_intro (fun h => ?_) (fun h => ?_) <;> try exact absurd h (by decide)) | ((with_reducible apply drw_intro); · kernel_rfl))
      all_goals conv => whnf
      refine ⟨(12 : Nat), ⟨(show 12 ≤ 12 by omega), (show 12 - 12 < 12 - 11 by omega)⟩, ⟨⟨rfl, rfl, rfl⟩, (by repeat' (first | trivial | rfl | refine And.intro ?_ ?_)), (by repeat' (first | trivial | rfl | refine And.intro ?_ ?_))⟩⟩
    · repeat' ((conv => whnf); first | with_reducible refine br_pre rfl ?_ | with_reducible refine br_true ?_ | with_reducible refine br_false ?_ | with_reducible refine br_true' (by assumption) ?_ | with_reducible refine br_false' (by assumption) ?_ | with_reducible refine br_pre (by assumption) ?_ | (with_reducible refine br_intro (fun h => ?_) (fun h => ?_) <;> try exact absurd h (by decide)) | ((with_reducible apply drw_intro); · kernel_rfl))
      all_goals conv => whnf
      exact doneA_plain rfl rfl rfl (show (_ : Bool) = _ from rfl)
  · have d1 : (err2 a b != 0) = true := by simp [err2, hh]
    refine of_execR ?_; repeat' ((conv => whnf); first | with_reducible refine br_pre rfl ?_ | with_reducible refine br_true ?_ | with_reducible refine br_false ?_ | with_reducible refine br_true' (by assumption) ?_ | with_reducible refine br_false' (by assumption) ?_ | with_reducible refine br_pre (by assumption) ?_ | (with_reducible refine br_intro (fun h => ?_) (fun h => ?_) <;> try exact absurd h (by decide)) | ((with_reducible apply drw_intro); · kernel_rfl))
    all_goals conv => whnf
    all_goals exact doneA_plain rfl rfl rfl (show (_ : Bool) = _ from rfl)
end Go.Proofs.Ytcjiokiafdagdaa
