/- The State laws: Under. -/
import Derived.Test.YtcjiokiafdagdaaBG
namespace Go.Proofs.Ytcjiokiafdagdaa
open Go.Sx Go.RowKit
set_option linter.unusedVariables false
set_option linter.unusedSimpArgs false
set_option maxRecDepth 100000
set_option maxHeartbeats 20000000
def rgS (g : Rg) : List SC := [.v (.int .u8 g.r0.k), .v (.int .u64 g.r0.lo), .v (.int .u64 g.r0.hi), .v (.int .i64 g.r0.id), .v (.int .i64 g.r0.off), .v (.int .u8 g.r1.k), .v (.int .u64 g.r1.lo), .v (.int .u64 g.r1.hi), .v (.int .i64 g.r1.id), .v (.int .i64 g.r1.off), .v (.int .u8 g.r2.k), .v (.int .u64 g.r2.lo), .v (.int .u64 g.r2.hi), .v (.int .i64 g.r2.id), .v (.int .i64 g.r2.off), .v (.int .u8 g.r3.k), .v (.int .u64 g.r3.lo), .v (.int .u64 g.r3.hi), .v (.int .i64 g.r3.id), .v (.int .i64 g.r3.off), .v (.int .u8 g.r4.k), .v (.int .u64 g.r4.lo), .v (.int .u64 g.r4.hi), .v (.int .i64 g.r4.id), .v (.int .i64 g.r4.off), .v (.int .u8 g.r5.k), .v (.int .u64 g.r5.lo), .v (.int .u64 g.r5.hi), .v (.int .i64 g.r5.id), .v (.int .i64 g.r5.off), .v (.int .u8 g.r6.k), .v (.int .u64 g.r6.lo), .v (.int .u64 g.r6.hi), .v (.int .i64 g.r6.id), .v (.int .i64 g.r6.off), .v (.int .u8 g.r7.k), .v (.int .u64 g.r7.lo), .v (.int .u64 g.r7.hi), .v (.int .i64 g.r7.id), .v (.int .i64 g.r7.off), .v (.int .u8 g.r8.k), .v (.int .u64 g.r8.lo), .v (.int .u64 g.r8.hi), .v (.int .i64 g.r8.id), .v (.int .i64 g.r8.off), .v (.int .u8 g.r9.k), .v (.int .u64 g.r9.lo), .v (.int .u64 g.r9.hi), .v (.int .i64 g.r9.id), .v (.int .i64 g.r9.off)]
def reg (g : Rg) : Nat → Vl
  | 0 => g.r0
  | 1 => g.r1
  | 2 => g.r2
  | 3 => g.r3
  | 4 => g.r4
  | 5 => g.r5
  | 6 => g.r6
  | 7 => g.r7
  | 8 => g.r8
  | _ => g.r9
def preR (p : Vl → Vl → Bool) (g h : Rg) : Nat → Bool
  | 0 => true
  | n + 1 => preR p g h n && p (reg g n) (reg h n)
theorem preR_regs2 (p : Vl → Vl → Bool) (g h : Rg) : preR p g h 10 = regs2 p g h := by
  simp only [preR, reg, regs2, Bool.and_assoc, Bool.true_and]
def numF (w v : Vl) : Bool := v.k == 1 && (w.k == 1 && (decide (w.lo ≥ v.lo) && decide (w.hi ≤ v.hi)))
def saysF (w v : Vl) : Bool := v.k == 0 || (vEq v w || numF w v)
def spUnder (a b : Sp) : Bool := decide (a.lo ≥ b.lo) && decide (a.hi ≤ b.hi)
def kUnder (l : List (Int × Int)) : List (Int × Int) → Bool
  | [] => true
  | x :: r => !decide (kBytes x.1 l < x.2) && kUnder l r
def underF (x y : Stt) : Bool := regs2 saysF x.g y.g && (slots2 spUnder x.s y.s && kUnder x.l y.l)
def underB (x y : Stt) : Bool := if stOk2 x y = true then underF x y else false
theorem kCheck_len {l : List (Int × Int)} (h : kCheck l = 0) : l.length ≤ 257 := by
  unfold kCheck at h
  split at h
  · exact absurd h (by decide)
  · omega
def inv15a (x y : Stt) : LInv G :=
  { α := Nat
    I := fun i => ⟨90, [(24, .v (.c (.v (.int .i64 (i : Int))))), (23, .v (.a (rgS y.g))), (2, .v (.c (.p 2 0))), (3, .v (.c (.p 3 0)))], 5, [(0, .ext (.k x.l)), (1, .ext (.k y.l)), (2, .own 31 (stS x 0)), (3, .own 31 (stS y 1))]⟩
    R := fun i => i ≤ 10 ∧ preR saysF x.g y.g i = true
    μ := fun i => 10 - i }
def inv15b (x y : Stt) : LInv G :=
  { α := Nat
    I := fun i => ⟨90, [(77, .v (.c (.v (.int .i64 (i : Int))))), (76, .v (.c (.v (.int .i64 ((Gh.len (G.k y.l) : Nat) : Int))))), (75, .v (.c (.r 1))), (2, .v (.c (.p 2 0)))], 5, [(0, .ext (.k x.l)), (1, .ext (.k y.l)), (2, .own 31 (stS x 0))]⟩
    R := fun i => i ≤ y.l.length ∧ kUnder x.l y.l = kUnder x.l (y.l.drop i)
    μ := fun i => y.l.length - i }
def under15T : List (AV G) → Option (Bool × AT G)
  | [a, b] => stA a fun x => stA b fun y => some (true, .t [.c (.v (.bool (underB x y))), .c (ci (err2 x y))])
  | _ => none
theorem under15_ok : ∀ a r, under15T a = some (true, r) → AOK G P 15 a r := by
  intro args r h
  unfold under15T at h
  split at h
  · refine stA_two h (fun x y h => ?_)
    cases h
    by_cases hk : stOk2 x y = true
    · have e1 : underB x y = underF x y := by simp [underB, hk]
      have e2 : err2 x y = 0 := by simp [err2, hk]
      have hq : ((if (stOk x && stOk y) = true then (0 : Int) else 2) != 0) = false := by
        rw [show (stOk x && stOk y) = true from hk]; rfl
      have hl : kCheck x.l = 0 ∧ kCheck y.l = 0 := by
        have hk' := hk
        unfold stOk2 at hk'
        simp only [Bool.and_eq_true] at hk'
        exact ⟨stOk_check hk'.1, stOk_check hk'.2⟩
      have hlx := kCheck_len hl.1
      have hly := kCheck_len hl.2
      have hle : decide (x.l.length ≤ 4611686018427387904) = true := decide_eq_true (by omega)
      rw [e1, e2]
      refine aok_exec (aTabOK_cons (aTabOK_cons (aTabOK_cons aTabOK_nil bytes46_ok) under45_ok) asked44_ok) mixed eqs_ok 11 [(15, ⟨[(0, true), (1, true), (2, true), (3, true), (4, true), (5, true), (6, true)], [], []⟩), (21, ⟨[(0, true), (1, true), (2, true), (3, true), (4, true), (5, true), (6, true), (7, true)], [], []⟩)] [([0, 1, 0, 1, 1], inv15a x y), ([0, 1, 0, 1, 1, 1, 1], inv15b x y)] Try.func15 rfl rfl rfl rfl (avs := [.a (stS x 0), .a (stS y 1)]) (H0 := [(0, .ext (.k x.l)), (1, .ext (.k y.l))]) (n0 := 2) (res := .t [.c (.v (.bool (underF x y))), .c (.v (.int .i64 0))]) (new := []) rfl rfl rfl rfl rfl rfl ?_
      refine of_execR ?_; repeat' ((conv => whnf); first | with_reducible refine br_pre rfl ?_ | with_reducible refine br_true ?_ | with_reducible refine br_false ?_ | with_reducible refine br_true' (by assumption) ?_ | with_reducible refine br_false' (by assumption) ?_ | with_reducible refine br_pre (by assumption) ?_ | (with_reducible refine br_intro (fun h => ?_) (fun h => ?_) <;> try exact absurd h (by decide)) | ((with_reducible apply drw_intro); · kernel_rfl))
      refine ⟨(0 : Nat), ⟨⟨Nat.zero_le _, rfl⟩, ⟨⟨rfl, rfl, rfl⟩, ?_, ?_⟩⟩, ?_⟩
      · repeat' (first | rfl | exact True.intro | refine And.intro ?_ ?_)
      · repeat' (first | rfl | exact True.intro | refine And.intro ?_ ?_)
      rintro (i : Nat) ⟨hi, hc⟩
      change i ≤ 10 at hi
      change preR saysF x.g y.g i = true at hc
      refine of_execR ?_
      rcases (by omega : i = 0 ∨ i = 1 ∨ i = 2 ∨ i = 3 ∨ i = 4 ∨ i = 5 ∨ i = 6 ∨ i = 7 ∨ i = 8 ∨ i = 9 ∨ i = 10) with rfl | rfl | rfl | rfl | rfl | rfl | rfl | rfl | rfl | rfl | rfl
      · repeat' ((conv => whnf); first | with_reducible refine br_pre rfl ?_ | with_reducible refine br_true ?_ | with_reducible refine br_false ?_ | with_reducible refine br_true' (by assumption) ?_ | with_reducible refine br_false' (by assumption) ?_ | with_reducible refine br_pre (by assumption) ?_ | (with_reducible refine br_intro (fun h => ?_) (fun h => ?_) <;> try exact absurd h (by decide)) | ((with_reducible apply drw_intro); · kernel_rfl))
        all_goals conv => whnf
        all_goals first
          | (refine doneA_plain rfl rfl rfl ⟨(show (_ : Bool) = _ from ?_), (show (_ : Int) = _ from rfl), trivial⟩
             have hs : saysF x.g.r0 y.g.r0 = false := by
               clear hq hl hlx hly hle hc
               (simp [saysF, vEq, numF] at *; grind)
             simp [underF, regs2, hs])
          | (refine ⟨(1 : Nat), ⟨⟨(show 1 ≤ 10 by omega), ?_⟩, ?_⟩, ⟨⟨rfl, rfl, rfl⟩, ?_, ?_⟩⟩
             · have hs : saysF x.g.r0 y.g.r0 = true := by
                 clear hq hl hlx hly hle hc
                 (simp [saysF, vEq, numF] at *; grind)
               show (preR saysF x.g y.g 0 && saysF x.g.r0 y.g.r0) = true
               rw [hc, hs]; rfl
             · show 10 - 1 < 10 - 0
               omega
             · repeat' (first | rfl | exact True.intro | refine And.intro ?_ ?_)
             · repeat' (first | rfl | exact True.intro | refine And.intro ?_ ?_))
      · repeat' ((conv => whnf); first | with_reducible refine br_pre rfl ?_ | with_reducible refine br_true ?_ | with_reducible refine br_false ?_ | with_reducible refine br_true' (by assumption) ?_ | with_reducible refine br_false' (by assumption) ?_ | with_reducible refine br_pre (by assumption) ?_ | (with_reducible refine br_intro (fun h => ?_) (fun h => ?_) <;> try exact absurd h (by decide)) | ((with_reducible apply drw_intro); · kernel_rfl))
        all_goals conv => whnf
        all_goals first
          | (refine doneA_plain rfl rfl rfl ⟨(show (_ : Bool) = _ from ?_), (show (_ : Int) = _ from rfl), trivial⟩
             have hs : saysF x.g.r1 y.g.r1 = false := by
               clear hq hl hlx hly hle hc
               (simp [saysF, vEq, numF] at *; grind)
             simp [underF, regs2, hs])
          | (refine ⟨(2 : Nat), ⟨⟨(show 2 ≤ 10 by omega), ?_⟩, ?_⟩, ⟨⟨rfl, rfl, rfl⟩, ?_, ?_⟩⟩
             · have hs : saysF x.g.r1 y.g.r1 = true := by
                 clear hq hl hlx hly hle hc
                 (simp [saysF, vEq, numF] at *; grind)
               show (preR saysF x.g y.g 1 && saysF x.g.r1 y.g.r1) = true
               rw [hc, hs]; rfl
             · show 10 - 2 < 10 - 1
               omega
             · repeat' (first | rfl | exact True.intro | refine And.intro ?_ ?_)
             · repeat' (first | rfl | exact True.intro | refine And.intro ?_ ?_))
      · repeat' ((conv => whnf); first | with_reducible refine br_pre rfl ?_ | with_reducible refine br_true ?_ | with_reducible refine br_false ?_ | with_reducible refine br_true' (by assumption) ?_ | with_reducible refine br_false' (by assumption) ?_ | with_reducible refine br_pre (by assumption) ?_ | (with_reducible refine br_intro (fun h => ?_) (fun h => ?_) <;> try exact absurd h (by decide)) | ((with_reducible apply drw_intro); · kernel_rfl))
        all_goals conv => whnf
        all_goals first
          | (refine doneA_plain rfl rfl rfl ⟨(show (_ : Bool) = _ from ?_), (show (_ : Int) = _ from rfl), trivial⟩
             have hs : saysF x.g.r2 y.g.r2 = false := by
               clear hq hl hlx hly hle hc
               (simp [saysF, vEq, numF] at *; grind)
             simp [underF, regs2, hs])
          | (refine ⟨(3 : Nat), ⟨⟨(show 3 ≤ 10 by omega), ?_⟩, ?_⟩, ⟨⟨rfl, rfl, rfl⟩, ?_, ?_⟩⟩
             · have hs : saysF x.g.r2 y.g.r2 = true := by
                 clear hq hl hlx hly hle hc
                 (simp [saysF, vEq, numF] at *; grind)
               show (preR saysF x.g y.g 2 && saysF x.g.r2 y.g.r2) = true
               rw [hc, hs]; rfl
             · show 10 - 3 < 10 - 2
               omega
             · repeat' (first | rfl | exact True.intro | refine And.intro ?_ ?_)
             · repeat' (first | rfl | exact True.intro | refine And.intro ?_ ?_))
      · repeat' ((conv => whnf); first | with_reducible refine br_pre rfl ?_ | with_reducible refine br_true ?_ | with_reducible refine br_false ?_ | with_reducible refine br_true' (by assumption) ?_ | with_reducible refine br_false' (by assumption) ?_ | with_reducible refine br_pre (by assumption) ?_ | (with_reducible refine br_intro (fun h => ?_) (fun h => ?_) <;> try exact absurd h (by decide)) | ((with_reducible apply drw_intro); · kernel_rfl))
        all_goals conv => whnf
        all_goals first
          | (refine doneA_plain rfl rfl rfl ⟨(show (_ : Bool) = _ from ?_), (show (_ : Int) = _ from rfl), trivial⟩
             have hs : saysF x.g.r3 y.g.r3 = false := by
               clear hq hl hlx hly hle hc
               (simp [saysF, vEq, numF] at *; grind)
             simp [underF, regs2, hs])
          | (refine ⟨(4 : Nat), ⟨⟨(show 4 ≤ 10 by omega), ?_⟩, ?_⟩, ⟨⟨rfl, rfl, rfl⟩, ?_, ?_⟩⟩
             · have hs : saysF x.g.r3 y.g.r3 = true := by
                 clear hq hl hlx hly hle hc
                 (simp [saysF, vEq, numF] at *; grind)
               show (preR saysF x.g y.g 3 && saysF x.g.r3 y.g.r3) = true
               rw [hc, hs]; rfl
             · show 10 - 4 < 10 - 3
               omega
             · repeat' (first | rfl | exact True.intro | refine And.intro ?_ ?_)
             · repeat' (first | rfl | exact True.intro | refine And.intro ?_ ?_))
      · repeat' ((conv => whnf); first | with_reducible refine br_pre rfl ?_ | with_reducible refine br_true ?_ | with_reducible refine br_false ?_ | with_reducible refine br_true' (by assumption) ?_ | with_reducible refine br_false' (by assumption) ?_ | with_reducible refine br_pre (by assumption) ?_ | (with_reducible refine br_intro (fun h => ?_) (fun h => ?_) <;> try exact absurd h (by decide)) | ((with_reducible apply drw_intro); · kernel_rfl))
        all_goals conv => whnf
        all_goals first
          | (refine doneA_plain rfl rfl rfl ⟨(show (_ : Bool) = _ from ?_), (show (_ : Int) = _ from rfl), trivial⟩
             have hs : saysF x.g.r4 y.g.r4 = false := by
               clear hq hl hlx hly hle hc
               (simp [saysF, vEq, numF] at *; grind)
             simp [underF, regs2, hs])
          | (refine ⟨(5 : Nat), ⟨⟨(show 5 ≤ 10 by omega), ?_⟩, ?_⟩, ⟨⟨rfl, rfl, rfl⟩, ?_, ?_⟩⟩
             · have hs : saysF x.g.r4 y.g.r4 = true := by
                 clear hq hl hlx hly hle hc
                 (simp [saysF, vEq, numF] at *; grind)
               show (preR saysF x.g y.g 4 && saysF x.g.r4 y.g.r4) = true
               rw [hc, hs]; rfl
             · show 10 - 5 < 10 - 4
               omega
             · repeat' (first | rfl | exact True.intro | refine And.intro ?_ ?_)
             · repeat' (first | rfl | exact True.intro | refine And.intro ?_ ?_))
      · repeat' ((conv => whnf); first | with_reducible refine br_pre rfl ?_ | with_reducible refine br_true ?_ | with_reducible refine br_false ?_ | with_reducible refine br_true' (by assumption) ?_ | with_reducible refine br_false' (by assumption) ?_ | with_reducible refine br_pre (by assumption) ?_ | (with_reducible refine br_intro (fun h => ?_) (fun h => ?_) <;> try exact absurd h (by decide)) | ((with_reducible apply drw_intro); · kernel_rfl))
        all_goals conv => whnf
        all_goals first
          | (refine doneA_plain rfl rfl rfl ⟨(show (_ : Bool) = _ from ?_), (show (_ : Int) = _ from rfl), trivial⟩
             have hs : saysF x.g.r5 y.g.r5 = false := by
               clear hq hl hlx hly hle hc
               (simp [saysF, vEq, numF] at *; grind)
             simp [underF, regs2, hs])
          | (refine ⟨(6 : Nat), ⟨⟨(show 6 ≤ 10 by omega), ?_⟩, ?_⟩, ⟨⟨rfl, rfl, rfl⟩, ?_, ?_⟩⟩
             · have hs : saysF x.g.r5 y.g.r5 = true := by
                 clear hq hl hlx hly hle hc
                 (simp [saysF, vEq, numF] at *; grind)
               show (preR saysF x.g y.g 5 && saysF x.g.r5 y.g.r5) = true
               rw [hc, hs]; rfl
             · show 10 - 6 < 10 - 5
               omega
             · repeat' (first | rfl | exact True.intro | refine And.intro ?_ ?_)
             · repeat' (first | rfl | exact True.intro | refine And.intro ?_ ?_))
      · repeat' ((conv => whnf); first | with_reducible refine br_pre rfl ?_ | with_reducible refine br_true ?_ | with_reducible refine br_false ?_ | with_reducible refine br_true' (by assumption) ?_ | with_reducible refine br_false' (by assumption) ?_ | with_reducible refine br_pre (by assumption) ?_ | (with_reducible refine br_intro (fun h => ?_) (fun h => ?_) <;> try exact absurd h (by decide)) | ((with_reducible apply drw_intro); · kernel_rfl))
        all_goals conv => whnf
        all_goals first
          | (refine doneA_plain rfl rfl rfl ⟨(show (_ : Bool) = _ from ?_), (show (_ : Int) = _ from rfl), trivial⟩
             have hs : saysF x.g.r6 y.g.r6 = false := by
               clear hq hl hlx hly hle hc
               (simp [saysF, vEq, numF] at *; grind)
             simp [underF, regs2, hs])
          | (refine ⟨(7 : Nat), ⟨⟨(show 7 ≤ 10 by omega), ?_⟩, ?_⟩, ⟨⟨rfl, rfl, rfl⟩, ?_, ?_⟩⟩
             · have hs : saysF x.g.r6 y.g.r6 = true := by
                 clear hq hl hlx hly hle hc
                 (simp [saysF, vEq, numF] at *; grind)
               show (preR saysF x.g y.g 6 && saysF x.g.r6 y.g.r6) = true
               rw [hc, hs]; rfl
             · show 10 - 7 < 10 - 6
               omega
             · repeat' (first | rfl | exact True.intro | refine And.intro ?_ ?_)
             · repeat' (first | rfl | exact True.intro | refine And.intro ?_ ?_))
      · repeat' ((conv => whnf); first | with_reducible refine br_pre rfl ?_ | with_reducible refine br_true ?_ | with_reducible refine br_false ?_ | with_reducible refine br_true' (by assumption) ?_ | with_reducible refine br_false' (by assumption) ?_ | with_reducible refine br_pre (by assumption) ?_ | (with_reducible refine br_intro (fun h => ?_) (fun h => ?_) <;> try exact absurd h (by decide)) | ((with_reducible apply drw_intro); · kernel_rfl))
        all_goals conv => whnf
        all_goals first
          | (refine doneA_plain rfl rfl rfl ⟨(show (_ : Bool) = _ from ?_), (show (_ : Int) = _ from rfl), trivial⟩
             have hs : saysF x.g.r7 y.g.r7 = false := by
               clear hq hl hlx hly hle hc
               (simp [saysF, vEq, numF] at *; grind)
             simp [underF, regs2, hs])
          | (refine ⟨(8 : Nat), ⟨⟨(show 8 ≤ 10 by omega), ?_⟩, ?_⟩, ⟨⟨rfl, rfl, rfl⟩, ?_, ?_⟩⟩
             · have hs : saysF x.g.r7 y.g.r7 = true := by
                 clear hq hl hlx hly hle hc
                 (simp [saysF, vEq, numF] at *; grind)
               show (preR saysF x.g y.g 7 && saysF x.g.r7 y.g.r7) = true
               rw [hc, hs]; rfl
             · show 10 - 8 < 10 - 7
               omega
             · repeat' (first | rfl | exact True.intro | refine And.intro ?_ ?_)
             · repeat' (first | rfl | exact True.intro | refine And.intro ?_ ?_))
      · repeat' ((conv => whnf); first | with_reducible refine br_pre rfl ?_ | with_reducible refine br_true ?_ | with_reducible refine br_false ?_ | with_reducible refine br_true' (by assumption) ?_ | with_reducible refine br_false' (by assumption) ?_ | with_reducible refine br_pre (by assumption) ?_ | (with_reducible refine br_intro (fun h => ?_) (fun h => ?_) <;> try exact absurd h (by decide)) | ((with_reducible apply drw_intro); · kernel_rfl))
        all_goals conv => whnf
        all_goals first
          | (refine doneA_plain rfl rfl rfl ⟨(show (_ : Bool) = _ from ?_), (show (_ : Int) = _ from rfl), trivial⟩
             have hs : saysF x.g.r8 y.g.r8 = false := by
               clear hq hl hlx hly hle hc
               (simp [saysF, vEq, numF] at *; grind)
             simp [underF, regs2, hs])
          | (refine ⟨(9 : Nat), ⟨⟨(show 9 ≤ 10 by omega), ?_⟩, ?_⟩, ⟨⟨rfl, rfl, rfl⟩, ?_, ?_⟩⟩
             · have hs : saysF x.g.r8 y.g.r8 = true := by
                 clear hq hl hlx hly hle hc
                 (simp [saysF, vEq, numF] at *; grind)
               show (preR saysF x.g y.g 8 && saysF x.g.r8 y.g.r8) = true
               rw [hc, hs]; rfl
             · show 10 - 9 < 10 - 8
               omega
             · repeat' (first | rfl | exact True.intro | refine And.intro ?_ ?_)
             · repeat' (first | rfl | exact True.intro | refine And.intro ?_ ?_))
      · repeat' ((conv => whnf); first | with_reducible refine br_pre rfl ?_ | with_reducible refine br_true ?_ | with_reducible refine br_false ?_ | with_reducible refine br_true' (by assumption) ?_ | with_reducible refine br_false' (by assumption) ?_ | with_reducible refine br_pre (by assumption) ?_ | (with_reducible refine br_intro (fun h => ?_) (fun h => ?_) <;> try exact absurd h (by decide)) | ((with_reducible apply drw_intro); · kernel_rfl))
        all_goals conv => whnf
        all_goals first
          | (refine doneA_plain rfl rfl rfl ⟨(show (_ : Bool) = _ from ?_), (show (_ : Int) = _ from rfl), trivial⟩
             have hs : saysF x.g.r9 y.g.r9 = false := by
               clear hq hl hlx hly hle hc
               (simp [saysF, vEq, numF] at *; grind)
             simp [underF, regs2, hs])
          | (refine ⟨(10 : Nat), ⟨⟨(show 10 ≤ 10 by omega), ?_⟩, ?_⟩, ⟨⟨rfl, rfl, rfl⟩, ?_, ?_⟩⟩
             · have hs : saysF x.g.r9 y.g.r9 = true := by
                 clear hq hl hlx hly hle hc
                 (simp [saysF, vEq, numF] at *; grind)
               show (preR saysF x.g y.g 9 && saysF x.g.r9 y.g.r9) = true
               rw [hc, hs]; rfl
             · show 10 - 10 < 10 - 9
               omega
             · repeat' (first | rfl | exact True.intro | refine And.intro ?_ ?_)
             · repeat' (first | rfl | exact True.intro | refine And.intro ?_ ?_))
      · rw [preR_regs2] at hc
        repeat' ((conv => whnf); first | with_reducible refine br_pre rfl ?_ | with_reducible refine br_true ?_ | with_reducible refine br_false ?_ | with_reducible refine br_true' (by assumption) ?_ | with_reducible refine br_false' (by assumption) ?_ | with_reducible refine br_pre (by assumption) ?_ | (with_reducible refine br_intro (fun h => ?_) (fun h => ?_) <;> try exact absurd h (by decide)) | ((with_reducible apply drw_intro); · kernel_rfl))
        all_goals conv => whnf
        all_goals first
          | (refine doneA_plain rfl rfl rfl ⟨(show (_ : Bool) = _ from ?_), (show (_ : Int) = _ from rfl), trivial⟩
             have hs : slots2 spUnder x.s y.s = false := by
               clear hq hl hlx hly hle hc
               (simp [slots2, spUnder] at *; first | omega | grind)
             simp [underF, hs])
          | skip
        have hs : slots2 spUnder x.s y.s = true := by
          clear hq hl hlx hly hle hc
          (simp [slots2, spUnder] at *; first | omega | grind)
        have hu : underF x y = kUnder x.l y.l := by simp [underF, hc, hs]
        refine ⟨(0 : Nat), ⟨⟨Nat.zero_le _, rfl⟩, ⟨⟨rfl, rfl, rfl⟩, ?_, ?_⟩⟩, ?_⟩
        · repeat' (first | rfl | exact True.intro | refine And.intro ?_ ?_)
        · repeat' (first | rfl | exact True.intro | refine And.intro ?_ ?_)
        rintro (i : Nat) ⟨hi, hk⟩
        change i ≤ y.l.length at hi
        change kUnder x.l y.l = kUnder x.l (y.l.drop i) at hk
        refine of_execR ?_
        by_cases hlt : i < y.l.length
        · have d0 : decide ((i : Int) < ((Gh.len (G.k y.l) : Nat) : Int)) = true := by simp [Gh.len, hlt]
          have d1 := at_row hlt
          have d2 := at_load hlt
          rw [drop_kid hlt] at hk
          simp only [kUnder] at hk
          repeat' ((conv => whnf); first | with_reducible refine br_pre rfl ?_ | with_reducible refine br_true ?_ | with_reducible refine br_false ?_ | with_reducible refine br_true' (by assumption) ?_ | with_reducible refine br_false' (by assumption) ?_ | with_reducible refine br_pre (by assumption) ?_ | (with_reducible refine br_intro (fun h => ?_) (fun h => ?_) <;> try exact absurd h (by decide)) | ((with_reducible apply drw_intro); · kernel_rfl))
          all_goals conv => whnf
          · rename_i h
            refine doneA_plain rfl rfl rfl ⟨(show (_ : Bool) = _ from ?_), (show (_ : Int) = _ from rfl), trivial⟩
            rw [hu, hk, show decide (kBytes (kid y.l i) x.l < kby y.l i) = true from h]
            rfl
          · rename_i h
            refine ⟨i + 1, ⟨⟨hlt, ?_⟩, ?_⟩, ⟨⟨rfl, rfl, rfl⟩, ?_, ?_⟩⟩
            · rw [hk, show decide (kBytes (kid y.l i) x.l < kby y.l i) = false from h]
              rfl
            · show y.l.length - (i + 1) < y.l.length - i
              omega
            · refine ⟨(show IntKind.i64.wrap ((i : Int) + 1) = ((i + 1 : Nat) : Int) from ?_), rfl, rfl, rfl, trivial⟩
              rw [wrap_i64 (by omega) (by omega)]
              omega
            · repeat' (first | rfl | exact True.intro | refine And.intro ?_ ?_)
        · have d0 : decide ((i : Int) < ((Gh.len (G.k y.l) : Nat) : Int)) = false := by simp [Gh.len]; omega
          repeat' ((conv => whnf); first | with_reducible refine br_pre rfl ?_ | with_reducible refine br_true ?_ | with_reducible refine br_false ?_ | with_reducible refine br_true' (by assumption) ?_ | with_reducible refine br_false' (by assumption) ?_ | with_reducible refine br_pre (by assumption) ?_ | (with_reducible refine br_intro (fun h => ?_) (fun h => ?_) <;> try exact absurd h (by decide)) | ((with_reducible apply drw_intro); · kernel_rfl))
          all_goals conv => whnf
          refine doneA_plain rfl rfl rfl ⟨(show (_ : Bool) = _ from ?_), (show (_ : Int) = _ from rfl), trivial⟩
          rw [hu, hk, List.drop_of_length_le (by omega)]
          rfl
    · have e1 : underB x y = false := by simp [underB, hk]
      have e2 : err2 x y = 2 := by simp [err2, hk]
      have hq : ((if (stOk x && stOk y) = true then (0 : Int) else 2) != 0) = true := by
        rw [if_neg (show ¬(stOk x && stOk y) = true from hk)]; rfl
      rw [e1, e2]
      refine aok_exec (aTabOK_cons aTabOK_nil asked44_ok) mixed eqs_ok 11 [(15, ⟨[(0, true), (1, true), (2, true), (3, true), (4, true), (5, true), (6, true)], [], []⟩), (21, ⟨[(0, true), (1, true), (2, true), (3, true), (4, true), (5, true), (6, true), (7, true)], [], []⟩)] [] Try.func15 rfl rfl rfl rfl (avs := [.a (stS x 0), .a (stS y 1)]) (H0 := [(0, .ext (.k x.l)), (1, .ext (.k y.l))]) (n0 := 2) (res := .t [.c (.v (.bool false)), .c (.v (.int .i64 2))]) (new := []) rfl rfl rfl rfl rfl rfl ?_
      refine of_execR ?_; repeat' ((conv => whnf); first | with_reducible refine br_pre rfl ?_ | with_reducible refine br_true ?_ | with_reducible refine br_false ?_ | with_reducible refine br_true' (by assumption) ?_ | with_reducible refine br_false' (by assumption) ?_ | with_reducible refine br_pre (by assumption) ?_ | (with_reducible refine br_intro (fun h => ?_) (fun h => ?_) <;> try exact absurd h (by decide)) | ((with_reducible apply drw_intro); · kernel_rfl))
      refine doneA_plain rfl rfl rfl ⟨rfl, ?_, trivial⟩
      show (if (stOk x && stOk y) = true then (0 : Int) else 2) = 2
      rw [if_neg (show ¬(stOk x && stOk y) = true from hk)]
  · cases h
end Go.Proofs.Ytcjiokiafdagdaa
