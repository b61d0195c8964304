/- The State laws: Moved, Start, with. -/
import Derived.Test.YtcjiokiafdagdaaBH
namespace Go.Proofs.Ytcjiokiafdagdaa
open Go.Sx Go.RowKit
set_option linter.unusedVariables false
set_option linter.unusedSimpArgs false
set_option maxRecDepth 100000
set_option maxHeartbeats 20000000
/-- A state out of parts; its list is one cell. -/
def gsS (g : Rg) (s : Sl) (c : SC) : List SC := [.v (.int .u8 g.r0.k), .v (.int .u64 g.r0.lo), .v (.int .u64 g.r0.hi), .v (.int .i64 g.r0.id), .v (.int .i64 g.r0.off), .v (.int .u8 g.r1.k), .v (.int .u64 g.r1.lo), .v (.int .u64 g.r1.hi), .v (.int .i64 g.r1.id), .v (.int .i64 g.r1.off), .v (.int .u8 g.r2.k), .v (.int .u64 g.r2.lo), .v (.int .u64 g.r2.hi), .v (.int .i64 g.r2.id), .v (.int .i64 g.r2.off), .v (.int .u8 g.r3.k), .v (.int .u64 g.r3.lo), .v (.int .u64 g.r3.hi), .v (.int .i64 g.r3.id), .v (.int .i64 g.r3.off), .v (.int .u8 g.r4.k), .v (.int .u64 g.r4.lo), .v (.int .u64 g.r4.hi), .v (.int .i64 g.r4.id), .v (.int .i64 g.r4.off), .v (.int .u8 g.r5.k), .v (.int .u64 g.r5.lo), .v (.int .u64 g.r5.hi), .v (.int .i64 g.r5.id), .v (.int .i64 g.r5.off), .v (.int .u8 g.r6.k), .v (.int .u64 g.r6.lo), .v (.int .u64 g.r6.hi), .v (.int .i64 g.r6.id), .v (.int .i64 g.r6.off), .v (.int .u8 g.r7.k), .v (.int .u64 g.r7.lo), .v (.int .u64 g.r7.hi), .v (.int .i64 g.r7.id), .v (.int .i64 g.r7.off), .v (.int .u8 g.r8.k), .v (.int .u64 g.r8.lo), .v (.int .u64 g.r8.hi), .v (.int .i64 g.r8.id), .v (.int .i64 g.r8.off), .v (.int .u8 g.r9.k), .v (.int .u64 g.r9.lo), .v (.int .u64 g.r9.hi), .v (.int .i64 g.r9.id), .v (.int .i64 g.r9.off), .v (.int .u64 s.s0.lo), .v (.int .u64 s.s0.hi), .v (.int .u64 s.s1.lo), .v (.int .u64 s.s1.hi), .v (.int .u64 s.s2.lo), .v (.int .u64 s.s2.hi), .v (.int .u64 s.s3.lo), .v (.int .u64 s.s3.hi), .v (.int .u64 s.s4.lo), .v (.int .u64 s.s4.hi), .v (.int .u64 s.s5.lo), .v (.int .u64 s.s5.hi), .v (.int .u64 s.s6.lo), .v (.int .u64 s.s6.hi), .v (.int .u64 s.s7.lo), .v (.int .u64 s.s7.hi), c]
def upTo (f : Vl → Vl) (g : Rg) (i : Nat) : Rg := ⟨if 0 < i then f g.r0 else g.r0, if 1 < i then f g.r1 else g.r1, if 2 < i then f g.r2 else g.r2, if 3 < i then f g.r3 else g.r3, if 4 < i then f g.r4 else g.r4, if 5 < i then f g.r5 else g.r5, if 6 < i then f g.r6 else g.r6, if 7 < i then f g.r7 else g.r7, if 8 < i then f g.r8 else g.r8, if 9 < i then f g.r9 else g.r9⟩
def mapG (f : Vl → Vl) (g : Rg) : Rg := ⟨f g.r0, f g.r1, f g.r2, f g.r3, f g.r4, f g.r5, f g.r6, f g.r7, f g.r8, f g.r9⟩
def movedV (v : Vl) : Vl := if v.k = 2 ∨ v.k = 3 then vZero else v
def movedX (x : Stt) : Stt := if stOk x = true then ⟨mapG movedV x.g, x.s, []⟩ else zeroSt
def nilC : SC := .v (.slice none 0 0)
def inv22 (x : Stt) : LInv G :=
  { α := Nat × Rg
    I := fun (i, g) => ⟨34, [(16, .v (.c (.v (.int .i64 (i : Int))))), (15, .v (.a (rgS x.g))), (1, .v (.c (.p 1 0))), (2, .v (.c (.p 2 0)))], 3, [(0, .ext (.k x.l)), (1, .own 31 (gsS g x.s nilC)), (2, .own 31 (gsS zeroSt.g zeroSt.s nilC))]⟩
    R := fun y => y.1 ≤ 10 ∧ y.2 = upTo movedV x.g y.1
    μ := fun y => 10 - y.1 }
def moved22T : List (AV G) → Option (Bool × AT G)
  | [a] => stA a fun x => some (true, .t [stV (movedX x), .c (ci (stCheck x))])
  | _ => none
theorem moved22_ok : ∀ a r, moved22T a = some (true, r) → AOK G P 22 a r := by
  intro args r h
  unfold moved22T at h
  split at h
  · refine stA_one h (fun x h => ?_)
    cases h
    by_cases hk : stOk x = true
    · have e1 : movedX x = ⟨mapG movedV x.g, x.s, []⟩ := by simp [movedX, hk]
      have e2 : stCheck x = 0 := by simp [stCheck, hk]
      have hq : (stCheck x != 0) = false := by rw [e2]; rfl
      rw [e1, e2]
      refine aok_exec (aTabOK_cons aTabOK_nil check11_ok) mixed eqs_ok 11 [] [([0, 1, 0, 1, 1, 1], inv22 x)] Try.func22 rfl rfl rfl rfl (avs := [.a (stS x 0)]) (H0 := [(0, .ext (.k x.l))]) (n0 := 1) (res := .t [.a (gsS (mapG movedV x.g) x.s (.r 1)), .c (.v (.int .i64 0))]) (new := [.ext (.k [])]) rfl rfl rfl rfl rfl rfl ?_
      refine of_execR ?_; repeat' ((conv => whnf); first | with_reducible refine br_pre rfl ?_ | with_reducible refine br_true ?_ | with_reducible refine br_false ?_ | with_reducible refine br_true' (by assumption) ?_ | with_reducible refine br_false' (by assumption) ?_ | with_reducible refine br_pre (by assumption) ?_ | (with_reducible refine br_intro (fun h => ?_) (fun h => ?_) <;> try exact absurd h (by decide)) | ((with_reducible apply drw_intro); · kernel_rfl))
      conv => whnf
      refine ⟨((0 : Nat), x.g), ⟨⟨Nat.zero_le _, rfl⟩, ⟨⟨rfl, rfl, rfl⟩, ?_, ?_⟩⟩, ?_⟩
      · repeat' (first | rfl | exact True.intro | refine And.intro ?_ ?_)
      · repeat' (first | rfl | exact True.intro | refine And.intro ?_ ?_)
      rintro ⟨i, g⟩ ⟨hi, hg⟩
      change i ≤ 10 at hi
      change g = upTo movedV x.g i at hg
      refine of_execR ?_
      rcases (by omega : i = 0 ∨ i = 1 ∨ i = 2 ∨ i = 3 ∨ i = 4 ∨ i = 5 ∨ i = 6 ∨ i = 7 ∨ i = 8 ∨ i = 9 ∨ i = 10) with rfl | rfl | rfl | rfl | rfl | rfl | rfl | rfl | rfl | rfl | rfl
      · repeat' ((conv => whnf); first | with_reducible refine br_pre rfl ?_ | with_reducible refine br_true ?_ | with_reducible refine br_false ?_ | with_reducible refine br_true' (by assumption) ?_ | with_reducible refine br_false' (by assumption) ?_ | with_reducible refine br_pre (by assumption) ?_ | (with_reducible refine br_intro (fun h => ?_) (fun h => ?_) <;> try exact absurd h (by decide)) | ((with_reducible apply drw_intro); · kernel_rfl))
        all_goals conv => whnf
        all_goals first
          | (refine ⟨((1 : Nat), { g with r0 := vZero }), ⟨⟨(show 1 ≤ 10 by omega), ?_⟩, (show 10 - 1 < 10 - 0 by omega)⟩, ⟨⟨rfl, rfl, rfl⟩, (by repeat' (first | rfl | exact True.intro | refine And.intro ?_ ?_)), (by repeat' (first | rfl | exact True.intro | refine And.intro ?_ ?_))⟩⟩
             have hs : movedV x.g.r0 = vZero := by
               unfold movedV
               rw [if_pos]
               clear hq e1 e2 hg
               simp at *
               grind
             show { g with r0 := vZero } = upTo movedV x.g 1
             rw [hg]
             simp [upTo, hs])
          | (refine ⟨((1 : Nat), g), ⟨⟨(show 1 ≤ 10 by omega), ?_⟩, (show 10 - 1 < 10 - 0 by omega)⟩, ⟨⟨rfl, rfl, rfl⟩, (by repeat' (first | rfl | exact True.intro | refine And.intro ?_ ?_)), (by repeat' (first | rfl | exact True.intro | refine And.intro ?_ ?_))⟩⟩
             have hs : movedV x.g.r0 = x.g.r0 := by
               unfold movedV
               rw [if_neg]
               clear hq e1 e2 hg
               simp at *
               grind
             show g = upTo movedV x.g 1
             rw [hg]
             simp [upTo, hs])
      · repeat' ((conv => whnf); first | with_reducible refine br_pre rfl ?_ | with_reducible refine br_true ?_ | with_reducible refine br_false ?_ | with_reducible refine br_true' (by assumption) ?_ | with_reducible refine br_false' (by assumption) ?_ | with_reducible refine br_pre (by assumption) ?_ | (with_reducible refine br_intro (fun h => ?_) (fun h => ?_) <;> try exact absurd h (by decide)) | ((with_reducible apply drw_intro); · kernel_rfl))
        all_goals conv => whnf
        all_goals first
          | (refine ⟨((2 : Nat), { g with r1 := vZero }), ⟨⟨(show 2 ≤ 10 by omega), ?_⟩, (show 10 - 2 < 10 - 1 by omega)⟩, ⟨⟨rfl, rfl, rfl⟩, (by repeat' (first | rfl | exact True.intro | refine And.intro ?_ ?_)), (by repeat' (first | rfl | exact True.intro | refine And.intro ?_ ?_))⟩⟩
             have hs : movedV x.g.r1 = vZero := by
               unfold movedV
               rw [if_pos]
               clear hq e1 e2 hg
               simp at *
               grind
             show { g with r1 := vZero } = upTo movedV x.g 2
             rw [hg]
             simp [upTo, hs])
          | (refine ⟨((2 : Nat), g), ⟨⟨(show 2 ≤ 10 by omega), ?_⟩, (show 10 - 2 < 10 - 1 by omega)⟩, ⟨⟨rfl, rfl, rfl⟩, (by repeat' (first | rfl | exact True.intro | refine And.intro ?_ ?_)), (by repeat' (first | rfl | exact True.intro | refine And.intro ?_ ?_))⟩⟩
             have hs : movedV x.g.r1 = x.g.r1 := by
               unfold movedV
               rw [if_neg]
               clear hq e1 e2 hg
               simp at *
               grind
             show g = upTo movedV x.g 2
             rw [hg]
             simp [upTo, hs])
      · repeat' ((conv => whnf); first | with_reducible refine br_pre rfl ?_ | with_reducible refine br_true ?_ | with_reducible refine br_false ?_ | with_reducible refine br_true' (by assumption) ?_ | with_reducible refine br_false' (by assumption) ?_ | with_reducible refine br_pre (by assumption) ?_ | (with_reducible refine br_intro (fun h => ?_) (fun h => ?_) <;> try exact absurd h (by decide)) | ((with_reducible apply drw_intro); · kernel_rfl))
        all_goals conv => whnf
        all_goals first
          | (refine ⟨((3 : Nat), { g with r2 := vZero }), ⟨⟨(show 3 ≤ 10 by omega), ?_⟩, (show 10 - 3 < 10 - 2 by omega)⟩, ⟨⟨rfl, rfl, rfl⟩, (by repeat' (first | rfl | exact True.intro | refine And.intro ?_ ?_)), (by repeat' (first | rfl | exact True.intro | refine And.intro ?_ ?_))⟩⟩
             have hs : movedV x.g.r2 = vZero := by
               unfold movedV
               rw [if_pos]
               clear hq e1 e2 hg
               simp at *
               grind
             show { g with r2 := vZero } = upTo movedV x.g 3
             rw [hg]
             simp [upTo, hs])
          | (refine ⟨((3 : Nat), g), ⟨⟨(show 3 ≤ 10 by omega), ?_⟩, (show 10 - 3 < 10 - 2 by omega)⟩, ⟨⟨rfl, rfl, rfl⟩, (by repeat' (first | rfl | exact True.intro | refine And.intro ?_ ?_)), (by repeat' (first | rfl | exact True.intro | refine And.intro ?_ ?_))⟩⟩
             have hs : movedV x.g.r2 = x.g.r2 := by
               unfold movedV
               rw [if_neg]
               clear hq e1 e2 hg
               simp at *
               grind
             show g = upTo movedV x.g 3
             rw [hg]
             simp [upTo, hs])
      · repeat' ((conv => whnf); first | with_reducible refine br_pre rfl ?_ | with_reducible refine br_true ?_ | with_reducible refine br_false ?_ | with_reducible refine br_true' (by assumption) ?_ | with_reducible refine br_false' (by assumption) ?_ | with_reducible refine br_pre (by assumption) ?_ | (with_reducible refine br_intro (fun h => ?_) (fun h => ?_) <;> try exact absurd h (by decide)) | ((with_reducible apply drw_intro); · kernel_rfl))
        all_goals conv => whnf
        all_goals first
          | (refine ⟨((4 : Nat), { g with r3 := vZero }), ⟨⟨(show 4 ≤ 10 by omega), ?_⟩, (show 10 - 4 < 10 - 3 by omega)⟩, ⟨⟨rfl, rfl, rfl⟩, (by repeat' (first | rfl | exact True.intro | refine And.intro ?_ ?_)), (by repeat' (first | rfl | exact True.intro | refine And.intro ?_ ?_))⟩⟩
             have hs : movedV x.g.r3 = vZero := by
               unfold movedV
               rw [if_pos]
               clear hq e1 e2 hg
               simp at *
               grind
             show { g with r3 := vZero } = upTo movedV x.g 4
             rw [hg]
             simp [upTo, hs])
          | (refine ⟨((4 : Nat), g), ⟨⟨(show 4 ≤ 10 by omega), ?_⟩, (show 10 - 4 < 10 - 3 by omega)⟩, ⟨⟨rfl, rfl, rfl⟩, (by repeat' (first | rfl | exact True.intro | refine And.intro ?_ ?_)), (by repeat' (first | rfl | exact True.intro | refine And.intro ?_ ?_))⟩⟩
             have hs : movedV x.g.r3 = x.g.r3 := by
               unfold movedV
               rw [if_neg]
               clear hq e1 e2 hg
               simp at *
               grind
             show g = upTo movedV x.g 4
             rw [hg]
             simp [upTo, hs])
      · repeat' ((conv => whnf); first | with_reducible refine br_pre rfl ?_ | with_reducible refine br_true ?_ | with_reducible refine br_false ?_ | with_reducible refine br_true' (by assumption) ?_ | with_reducible refine br_false' (by assumption) ?_ | with_reducible refine br_pre (by assumption) ?_ | (with_reducible refine br_intro (fun h => ?_) (fun h => ?_) <;> try exact absurd h (by decide)) | ((with_reducible apply drw_intro); · kernel_rfl))
        all_goals conv => whnf
        all_goals first
          | (refine ⟨((5 : Nat), { g with r4 := vZero }), ⟨⟨(show 5 ≤ 10 by omega), ?_⟩, (show 10 - 5 < 10 - 4 by omega)⟩, ⟨⟨rfl, rfl, rfl⟩, (by repeat' (first | rfl | exact True.intro | refine And.intro ?_ ?_)), (by repeat' (first | rfl | exact True.intro | refine And.intro ?_ ?_))⟩⟩
             have hs : movedV x.g.r4 = vZero := by
               unfold movedV
               rw [if_pos]
               clear hq e1 e2 hg
               simp at *
               grind
             show { g with r4 := vZero } = upTo movedV x.g 5
             rw [hg]
             simp [upTo, hs])
          | (refine ⟨((5 : Nat), g), ⟨⟨(show 5 ≤ 10 by omega), ?_⟩, (show 10 - 5 < 10 - 4 by omega)⟩, ⟨⟨rfl, rfl, rfl⟩, (by repeat' (first | rfl | exact True.intro | refine And.intro ?_ ?_)), (by repeat' (first | rfl | exact True.intro | refine And.intro ?_ ?_))⟩⟩
             have hs : movedV x.g.r4 = x.g.r4 := by
               unfold movedV
               rw [if_neg]
               clear hq e1 e2 hg
               simp at *
               grind
             show g = upTo movedV x.g 5
             rw [hg]
             simp [upTo, hs])
      · repeat' ((conv => whnf); first | with_reducible refine br_pre rfl ?_ | with_reducible refine br_true ?_ | with_reducible refine br_false ?_ | with_reducible refine br_true' (by assumption) ?_ | with_reducible refine br_false' (by assumption) ?_ | with_reducible refine br_pre (by assumption) ?_ | (with_reducible refine br_intro (fun h => ?_) (fun h => ?_) <;> try exact absurd h (by decide)) | ((with_reducible apply drw_intro); · kernel_rfl))
        all_goals conv => whnf
        all_goals first
          | (refine ⟨((6 : Nat), { g with r5 := vZero }), ⟨⟨(show 6 ≤ 10 by omega), ?_⟩, (show 10 - 6 < 10 - 5 by omega)⟩, ⟨⟨rfl, rfl, rfl⟩, (by repeat' (first | rfl | exact True.intro | refine And.intro ?_ ?_)), (by repeat' (first | rfl | exact True.intro | refine And.intro ?_ ?_))⟩⟩
             have hs : movedV x.g.r5 = vZero := by
               unfold movedV
               rw [if_pos]
               clear hq e1 e2 hg
               simp at *
               grind
             show { g with r5 := vZero } = upTo movedV x.g 6
             rw [hg]
             simp [upTo, hs])
          | (refine ⟨((6 : Nat), g), ⟨⟨(show 6 ≤ 10 by omega), ?_⟩, (show 10 - 6 < 10 - 5 by omega)⟩, ⟨⟨rfl, rfl, rfl⟩, (by repeat' (first | rfl | exact True.intro | refine And.intro ?_ ?_)), (by repeat' (first | rfl | exact True.intro | refine And.intro ?_ ?_))⟩⟩
             have hs : movedV x.g.r5 = x.g.r5 := by
               unfold movedV
               rw [if_neg]
               clear hq e1 e2 hg
               simp at *
               grind
             show g = upTo movedV x.g 6
             rw [hg]
             simp [upTo, hs])
      · repeat' ((conv => whnf); first | with_reducible refine br_pre rfl ?_ | with_reducible refine br_true ?_ | with_reducible refine br_false ?_ | with_reducible refine br_true' (by assumption) ?_ | with_reducible refine br_false' (by assumption) ?_ | with_reducible refine br_pre (by assumption) ?_ | (with_reducible refine br_intro (fun h => ?_) (fun h => ?_) <;> try exact absurd h (by decide)) | ((with_reducible apply drw_intro); · kernel_rfl))
        all_goals conv => whnf
        all_goals first
          | (refine ⟨((7 : Nat), { g with r6 := vZero }), ⟨⟨(show 7 ≤ 10 by omega), ?_⟩, (show 10 - 7 < 10 - 6 by omega)⟩, ⟨⟨rfl, rfl, rfl⟩, (by repeat' (first | rfl | exact True.intro | refine And.intro ?_ ?_)), (by repeat' (first | rfl | exact True.intro | refine And.intro ?_ ?_))⟩⟩
             have hs : movedV x.g.r6 = vZero := by
               unfold movedV
               rw [if_pos]
               clear hq e1 e2 hg
               simp at *
               grind
             show { g with r6 := vZero } = upTo movedV x.g 7
             rw [hg]
             simp [upTo, hs])
          | (refine ⟨((7 : Nat), g), ⟨⟨(show 7 ≤ 10 by omega), ?_⟩, (show 10 - 7 < 10 - 6 by omega)⟩, ⟨⟨rfl, rfl, rfl⟩, (by repeat' (first | rfl | exact True.intro | refine And.intro ?_ ?_)), (by repeat' (first | rfl | exact True.intro | refine And.intro ?_ ?_))⟩⟩
             have hs : movedV x.g.r6 = x.g.r6 := by
               unfold movedV
               rw [if_neg]
               clear hq e1 e2 hg
               simp at *
               grind
             show g = upTo movedV x.g 7
             rw [hg]
             simp [upTo, hs])
      · repeat' ((conv => whnf); first | with_reducible refine br_pre rfl ?_ | with_reducible refine br_true ?_ | with_reducible refine br_false ?_ | with_reducible refine br_true' (by assumption) ?_ | with_reducible refine br_false' (by assumption) ?_ | with_reducible refine br_pre (by assumption) ?_ | (with_reducible refine br_intro (fun h => ?_) (fun h => ?_) <;> try exact absurd h (by decide)) | ((with_reducible apply drw_intro); · kernel_rfl))
        all_goals conv => whnf
        all_goals first
          | (refine ⟨((8 : Nat), { g with r7 := vZero }), ⟨⟨(show 8 ≤ 10 by omega), ?_⟩, (show 10 - 8 < 10 - 7 by omega)⟩, ⟨⟨rfl, rfl, rfl⟩, (by repeat' (first | rfl | exact True.intro | refine And.intro ?_ ?_)), (by repeat' (first | rfl | exact True.intro | refine And.intro ?_ ?_))⟩⟩
             have hs : movedV x.g.r7 = vZero := by
               unfold movedV
               rw [if_pos]
               clear hq e1 e2 hg
               simp at *
               grind
             show { g with r7 := vZero } = upTo movedV x.g 8
             rw [hg]
             simp [upTo, hs])
          | (refine ⟨((8 : Nat), g), ⟨⟨(show 8 ≤ 10 by omega), ?_⟩, (show 10 - 8 < 10 - 7 by omega)⟩, ⟨⟨rfl, rfl, rfl⟩, (by repeat' (first | rfl | exact True.intro | refine And.intro ?_ ?_)), (by repeat' (first | rfl | exact True.intro | refine And.intro ?_ ?_))⟩⟩
             have hs : movedV x.g.r7 = x.g.r7 := by
               unfold movedV
               rw [if_neg]
               clear hq e1 e2 hg
               simp at *
               grind
             show g = upTo movedV x.g 8
             rw [hg]
             simp [upTo, hs])
      · repeat' ((conv => whnf); first | with_reducible refine br_pre rfl ?_ | with_reducible refine br_true ?_ | with_reducible refine br_false ?_ | with_reducible refine br_true' (by assumption) ?_ | with_reducible refine br_false' (by assumption) ?_ | with_reducible refine br_pre (by assumption) ?_ | (with_reducible refine br_intro (fun h => ?_) (fun h => ?_) <;> try exact absurd h (by decide)) | ((with_reducible apply drw_intro); · kernel_rfl))
        all_goals conv => whnf
        all_goals first
          | (refine ⟨((9 : Nat), { g with r8 := vZero }), ⟨⟨(show 9 ≤ 10 by omega), ?_⟩, (show 10 - 9 < 10 - 8 by omega)⟩, ⟨⟨rfl, rfl, rfl⟩, (by repeat' (first | rfl | exact True.intro | refine And.intro ?_ ?_)), (by repeat' (first | rfl | exact True.intro | refine And.intro ?_ ?_))⟩⟩
             have hs : movedV x.g.r8 = vZero := by
               unfold movedV
               rw [if_pos]
               clear hq e1 e2 hg
               simp at *
               grind
             show { g with r8 := vZero } = upTo movedV x.g 9
             rw [hg]
             simp [upTo, hs])
          | (refine ⟨((9 : Nat), g), ⟨⟨(show 9 ≤ 10 by omega), ?_⟩, (show 10 - 9 < 10 - 8 by omega)⟩, ⟨⟨rfl, rfl, rfl⟩, (by repeat' (first | rfl | exact True.intro | refine And.intro ?_ ?_)), (by repeat' (first | rfl | exact True.intro | refine And.intro ?_ ?_))⟩⟩
             have hs : movedV x.g.r8 = x.g.r8 := by
               unfold movedV
               rw [if_neg]
               clear hq e1 e2 hg
               simp at *
               grind
             show g = upTo movedV x.g 9
             rw [hg]
             simp [upTo, hs])
      · repeat' ((conv => whnf); first | with_reducible refine br_pre rfl ?_ | with_reducible refine br_true ?_ | with_reducible refine br_false ?_ | with_reducible refine br_true' (by assumption) ?_ | with_reducible refine br_false' (by assumption) ?_ | with_reducible refine br_pre (by assumption) ?_ | (with_reducible refine br_intro (fun h => ?_) (fun h => ?_) <;> try exact absurd h (by decide)) | ((with_reducible apply drw_intro); · kernel_rfl))
        all_goals conv => whnf
        all_goals first
          | (refine ⟨((10 : Nat), { g with r9 := vZero }), ⟨⟨(show 10 ≤ 10 by omega), ?_⟩, (show 10 - 10 < 10 - 9 by omega)⟩, ⟨⟨rfl, rfl, rfl⟩, (by repeat' (first | rfl | exact True.intro | refine And.intro ?_ ?_)), (by repeat' (first | rfl | exact True.intro | refine And.intro ?_ ?_))⟩⟩
             have hs : movedV x.g.r9 = vZero := by
               unfold movedV
               rw [if_pos]
               clear hq e1 e2 hg
               simp at *
               grind
             show { g with r9 := vZero } = upTo movedV x.g 10
             rw [hg]
             simp [upTo, hs])
          | (refine ⟨((10 : Nat), g), ⟨⟨(show 10 ≤ 10 by omega), ?_⟩, (show 10 - 10 < 10 - 9 by omega)⟩, ⟨⟨rfl, rfl, rfl⟩, (by repeat' (first | rfl | exact True.intro | refine And.intro ?_ ?_)), (by repeat' (first | rfl | exact True.intro | refine And.intro ?_ ?_))⟩⟩
             have hs : movedV x.g.r9 = x.g.r9 := by
               unfold movedV
               rw [if_neg]
               clear hq e1 e2 hg
               simp at *
               grind
             show g = upTo movedV x.g 10
             rw [hg]
             simp [upTo, hs])
      · subst hg
        repeat' ((conv => whnf); first | with_reducible refine br_pre rfl ?_ | with_reducible refine br_true ?_ | with_reducible refine br_false ?_ | with_reducible refine br_true' (by assumption) ?_ | with_reducible refine br_false' (by assumption) ?_ | with_reducible refine br_pre (by assumption) ?_ | (with_reducible refine br_intro (fun h => ?_) (fun h => ?_) <;> try exact absurd h (by decide)) | ((with_reducible apply drw_intro); · kernel_rfl))
        all_goals conv => whnf
        refine doneA_intro [none] rfl rfl rfl ?_ ⟨rfl, trivial⟩
        repeat' (first | rfl | exact True.intro | refine And.intro ?_ ?_)
    · have e1 : movedX x = zeroSt := by simp [movedX, hk]
      have e2 : stCheck x = 2 := by simp [stCheck, hk]
      have hq : (stCheck x != 0) = true := by rw [e2]; rfl
      rw [e1, e2]
      refine aok_exec (aTabOK_cons aTabOK_nil check11_ok) mixed eqs_ok 11 [] [] Try.func22 rfl rfl rfl rfl (avs := [.a (stS x 0)]) (H0 := [(0, .ext (.k x.l))]) (n0 := 1) (res := .t [.a (stS zeroSt 1), .c (.v (.int .i64 2))]) (new := [.ext (.k [])]) rfl rfl rfl rfl rfl rfl ?_
      refine of_execR ?_; repeat' ((conv => whnf); first | with_reducible refine br_pre rfl ?_ | with_reducible refine br_true ?_ | with_reducible refine br_false ?_ | with_reducible refine br_true' (by assumption) ?_ | with_reducible refine br_false' (by assumption) ?_ | with_reducible refine br_pre (by assumption) ?_ | (with_reducible refine br_intro (fun h => ?_) (fun h => ?_) <;> try exact absurd h (by decide)) | ((with_reducible apply drw_intro); · kernel_rfl))
      conv => whnf
      refine doneA_intro [none] rfl rfl rfl ?_ ⟨rfl, trivial⟩
      refine ⟨?_, e2, trivial⟩
      repeat' (first | rfl | exact True.intro | refine And.intro ?_ ?_)
  · cases h
end Go.Proofs.Ytcjiokiafdagdaa
