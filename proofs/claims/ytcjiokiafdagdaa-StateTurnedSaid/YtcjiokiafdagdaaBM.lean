/- The State laws: states, plain. -/
import Derived.Test.YtcjiokiafdagdaaBL
namespace Go.Proofs.Ytcjiokiafdagdaa
open Go.Sx Go.RowKit
set_option linter.unusedVariables false
set_option linter.unusedSimpArgs false
set_option maxRecDepth 100000
set_option maxHeartbeats 1000000
def slot (s : Sl) : Nat → Sp
  | 0 => s.s0
  | 1 => s.s1
  | 2 => s.s2
  | 3 => s.s3
  | 4 => s.s4
  | 5 => s.s5
  | 6 => s.s6
  | _ => s.s7
theorem regs2_iff {p : Vl → Vl → Bool} {g h : Rg} : regs2 p g h = true ↔ ∀ i, p (reg g i) (reg h i) = true := by
  constructor
  · intro hh i
    simp only [regs2, Bool.and_eq_true] at hh
    obtain ⟨h0, h1, h2, h3, h4, h5, h6, h7, h8, h9⟩ := hh
    match i with
    | 0 => exact h0
    | 1 => exact h1
    | 2 => exact h2
    | 3 => exact h3
    | 4 => exact h4
    | 5 => exact h5
    | 6 => exact h6
    | 7 => exact h7
    | 8 => exact h8
    | n + 9 => exact h9
  · intro hh
    simp only [regs2, Bool.and_eq_true]
    exact ⟨hh 0, hh 1, hh 2, hh 3, hh 4, hh 5, hh 6, hh 7, hh 8, hh 9⟩
theorem regsAll_iff {p : Vl → Bool} {g : Rg} : regsAll p g = true ↔ ∀ i, p (reg g i) = true := by
  constructor
  · intro hh i
    simp only [regsAll, Bool.and_eq_true] at hh
    obtain ⟨h0, h1, h2, h3, h4, h5, h6, h7, h8, h9⟩ := hh
    match i with
    | 0 => exact h0
    | 1 => exact h1
    | 2 => exact h2
    | 3 => exact h3
    | 4 => exact h4
    | 5 => exact h5
    | 6 => exact h6
    | 7 => exact h7
    | 8 => exact h8
    | n + 9 => exact h9
  · intro hh
    simp only [regsAll, Bool.and_eq_true]
    exact ⟨hh 0, hh 1, hh 2, hh 3, hh 4, hh 5, hh 6, hh 7, hh 8, hh 9⟩
theorem slots2_iff {p : Sp → Sp → Bool} {g h : Sl} : slots2 p g h = true ↔ ∀ i, p (slot g i) (slot h i) = true := by
  constructor
  · intro hh i
    simp only [slots2, Bool.and_eq_true] at hh
    obtain ⟨h0, h1, h2, h3, h4, h5, h6, h7⟩ := hh
    match i with
    | 0 => exact h0
    | 1 => exact h1
    | 2 => exact h2
    | 3 => exact h3
    | 4 => exact h4
    | 5 => exact h5
    | 6 => exact h6
    | n + 7 => exact h7
  · intro hh
    simp only [slots2, Bool.and_eq_true]
    exact ⟨hh 0, hh 1, hh 2, hh 3, hh 4, hh 5, hh 6, hh 7⟩
theorem slotsAll_iff {p : Sp → Bool} {g : Sl} : slotsAll p g = true ↔ ∀ i, p (slot g i) = true := by
  constructor
  · intro hh i
    simp only [slotsAll, Bool.and_eq_true] at hh
    obtain ⟨h0, h1, h2, h3, h4, h5, h6, h7⟩ := hh
    match i with
    | 0 => exact h0
    | 1 => exact h1
    | 2 => exact h2
    | 3 => exact h3
    | 4 => exact h4
    | 5 => exact h5
    | 6 => exact h6
    | n + 7 => exact h7
  · intro hh
    simp only [slotsAll, Bool.and_eq_true]
    exact ⟨hh 0, hh 1, hh 2, hh 3, hh 4, hh 5, hh 6, hh 7⟩
theorem reg_ext {g h : Rg} (hh : ∀ i, reg g i = reg h i) : g = h := by
  cases g
  cases h
  have := hh 0; have := hh 1; have := hh 2; have := hh 3; have := hh 4; have := hh 5; have := hh 6; have := hh 7; have := hh 8; have := hh 9
  simp only [reg] at *
  simp_all
theorem slot_ext {g h : Sl} (hh : ∀ i, slot g i = slot h i) : g = h := by
  cases g
  cases h
  have := hh 0; have := hh 1; have := hh 2; have := hh 3; have := hh 4; have := hh 5; have := hh 6; have := hh 7
  simp only [slot] at *
  simp_all
theorem reg_join (f : Vl → Vl → Vl) (x y : Stt) (i : Nat) : reg (joinG f x y).g i = f (reg x.g i) (reg y.g i) := by
    match i with
    | 0 => rfl
    | 1 => rfl
    | 2 => rfl
    | 3 => rfl
    | 4 => rfl
    | 5 => rfl
    | 6 => rfl
    | 7 => rfl
    | 8 => rfl
    | n + 9 => rfl
theorem slot_join (f : Vl → Vl → Vl) (x y : Stt) (i : Nat) : slot (joinG f x y).s i = spJ (slot x.s i) (slot y.s i) := by
    match i with
    | 0 => rfl
    | 1 => rfl
    | 2 => rfl
    | 3 => rfl
    | 4 => rfl
    | 5 => rfl
    | 6 => rfl
    | n + 7 => rfl
theorem stOk_iff {x : Stt} : stOk x = true ↔ (∀ i, mayF (reg x.g i) = true) ∧ (∀ i, spMay (slot x.s i) = true) ∧ kCheck x.l = 0 := by
  simp only [stOk, Bool.and_eq_true, beq_iff_eq, regsAll_iff, slotsAll_iff, and_assoc]
theorem underF_iff {x y : Stt} : underF x y = true ↔ (∀ i, saysF (reg x.g i) (reg y.g i) = true) ∧ (∀ i, spUnder (slot x.s i) (slot y.s i) = true) ∧ kUnder x.l y.l = true := by
  simp only [underF, Bool.and_eq_true, regs2_iff, slots2_iff]
theorem spEq_iff {a b : Sp} : spEq a b = true ↔ a = b := by
  cases a; cases b
  simp [spEq]
theorem stSame_iff {x y : Stt} : stSame x y = true ↔ x = y := by
  simp only [stSame, Bool.and_eq_true, regs2_iff, slots2_iff, vEq_iff, spEq_iff, kSame, decide_eq_true_eq]
  constructor
  · rintro ⟨⟨h1, h2⟩, h3⟩
    cases x; cases y
    have := reg_ext h1
    have := slot_ext h2
    simp_all
  · rintro rfl
    simp
/-! values -/
theorem may_common {v w : Vl} (hv : mayF v = true) (hw : mayF w = true) : mayF (commonF v w) = true := by
  unfold commonF
  split
  · exact hv
  · split
    · simp only [mayF, spCheck, mn, mx] at *
      grind
    · rfl
theorem may_spJ {a b : Sp} (ha : spMay a = true) (hb : spMay b = true) : spMay (spJ a b) = true := by
  simp only [spMay, spJ, spCheck, mn, mx] at *
  grind
theorem says_refl (v : Vl) : saysF v v = true := by
  simp [saysF, vEq_iff.2 rfl]
theorem vEq_false {a b : Vl} (h : ¬ a = b) : vEq a b = false := by
  cases hh : vEq a b with
  | false => rfl
  | true => exact absurd (vEq_iff.1 hh) h
theorem says_iff {w v : Vl} : saysF w v = true ↔ v.k = 0 ∨ v = w ∨ (v.k = 1 ∧ w.k = 1 ∧ w.lo ≥ v.lo ∧ w.hi ≤ v.hi) := by
  simp only [saysF, Bool.or_eq_true, beq_iff_eq, vEq_iff, numF, Bool.and_eq_true, decide_eq_true_eq]
theorem says_trans {a b c : Vl} (h1 : saysF a b = true) (h2 : saysF b c = true) (hb : mayF b = true) (hc : mayF c = true) : saysF a c = true := by
  rw [says_iff] at *
  rcases h2 with h | h | h
  · exact .inl h
  · subst h; exact h1
  · rcases h1 with k | k | k
    · omega
    · subst k; exact .inr (.inr h)
    · exact .inr (.inr ⟨by omega, by omega, by omega, by omega⟩)
theorem may_zero {v : Vl} (h : mayF v = true) (hk : v.k = 0) : v = vZero := by
  cases v
  simp only [mayF, vZero] at *
  grind
theorem may_num {v : Vl} (h : mayF v = true) (hk : v.k = 1) : v.id = 0 ∧ v.off = 0 ∧ v.lo ≤ v.hi := by
  simp only [mayF, spCheck] at *
  grind
theorem says_anti {a b : Vl} (ha : mayF a = true) (hb : mayF b = true) (h1 : saysF a b = true) (h2 : saysF b a = true) : a = b := by
  rw [says_iff] at *
  rcases h1 with h | h | h
  · rcases h2 with k | k | k
    · rw [may_zero ha k, may_zero hb h]
    · exact k
    · omega
  · exact h.symm
  · rcases h2 with k | k | k
    · omega
    · exact k
    · have := may_num ha (by omega)
      have := may_num hb (by omega)
      cases a; cases b
      simp only [Vl.mk.injEq] at *
      omega
theorem says_common (v w : Vl) : saysF v (commonF v w) = true := by
  rw [says_iff]
  unfold commonF
  split
  · exact .inr (.inl rfl)
  · split
    · refine .inr (.inr ⟨rfl, by omega, ?_, ?_⟩)
      · dsimp only; unfold mn; split <;> omega
      · dsimp only; unfold mx; split <;> omega
    · exact .inl rfl
theorem common_comm (v w : Vl) : commonF v w = commonF w v := by
  by_cases h : v = w
  · rw [h]
  · unfold commonF
    rw [vEq_false h, vEq_false (fun e => h e.symm), if_neg (by simp : ¬(false = true)), if_neg (by simp : ¬(false = true))]
    by_cases hk : v.k = 1 ∧ w.k = 1
    · rw [if_pos hk, if_pos ⟨hk.2, hk.1⟩]
      simp only [Vl.mk.injEq, mn, mx]
      grind
    · rw [if_neg hk, if_neg (fun h => hk ⟨h.2, h.1⟩)]
theorem common_self (v : Vl) : commonF v v = v := by
  unfold commonF
  rw [if_pos (vEq_iff.2 rfl)]
theorem common_says {v w : Vl} (hv : mayF v = true) (hw : mayF w = true) : saysF v w = true ↔ commonF v w = w := by
  constructor
  · intro h
    rw [says_iff] at h
    by_cases he : v = w
    · rw [he, common_self]
    · unfold commonF
      rw [if_neg (by rw [vEq_iff]; exact he)]
      rcases h with h | h | h
      · rw [if_neg (by omega), may_zero hw h]
      · exact absurd h.symm he
      · rw [if_pos ⟨h.2.1, h.1⟩]
        have := may_num hw h.1
        cases w
        simp only [Vl.mk.injEq, mn, mx] at *
        refine ⟨by omega, ?_, ?_, by omega, by omega⟩
        · split <;> omega
        · split <;> omega
  · intro h
    rw [← h]
    exact says_common v w
theorem spU_iff {a b : Sp} : spUnder a b = true ↔ a.lo ≥ b.lo ∧ a.hi ≤ b.hi := by
  simp only [spUnder, Bool.and_eq_true, decide_eq_true_eq]
theorem spU_join (a b : Sp) : spUnder a (spJ a b) = true := by
  rw [spU_iff]
  simp only [spJ, mn, mx]
  constructor <;> split <;> omega
theorem spJ_comm (a b : Sp) : spJ a b = spJ b a := by
  simp only [spJ, Sp.mk.injEq, mn, mx]
  constructor <;> (split <;> split <;> omega)
theorem spJ_self (a : Sp) : spJ a a = a := by
  cases a
  simp [spJ, mn, mx]
theorem spJ_says {a b : Sp} : spUnder a b = true ↔ spJ a b = b := by
  cases a; cases b
  rw [spU_iff]
  simp only [spJ, Sp.mk.injEq, mn, mx]
  constructor
  · rintro ⟨h1, h2⟩
    constructor <;> split <;> omega
  · rintro ⟨h1, h2⟩
    split at h1 <;> split at h2 <;> omega
end Go.Proofs.Ytcjiokiafdagdaa
