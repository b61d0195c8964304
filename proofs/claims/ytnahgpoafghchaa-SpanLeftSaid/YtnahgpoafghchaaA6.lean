/- SpanLeft: the plain law: what a comparison leaves. -/
import Derived.Test.YtnahgpoafghchaaA2
import Derived.Test.YtnahgpoafghchaaA3
namespace Go.Proofs.Ytnahgpoafghchaa
open Go.Sx Go.RowKit
set_option linter.unusedVariables false
set_option linter.unusedSimpArgs false
/-- All that a round asks of what is left where the comparison is so. -/
structure Fits (l : Lft) (a0 a1 b0 b1 x y : Int) : Prop where
  is : l.is = true
  ha1 : l.a ≤ x
  ha2 : x ≤ l.b
  hb1 : l.c ≤ y
  hb2 : y ≤ l.d
  ua1 : a0 ≤ l.a
  ua2 : l.b ≤ a1
  ub1 : b0 ≤ l.c
  ub2 : l.d ≤ b1
structure Lies (m : Lft) (a0 a1 b0 b1 : Int) : Prop where
  yes : m.is = true → a0 ≤ m.a ∧ m.b ≤ a1 ∧ b0 ≤ m.c ∧ m.d ≤ b1 ∧ m.a ≤ m.b ∧ m.c ≤ m.d
  no : m.is = false → m.a = 0 ∧ m.b = 0 ∧ m.c = 0 ∧ m.d = 0
theorem okF_of {a0 a1 b0 b1 : Int} (ha : a0 ≤ a1) (hb : b0 ≤ b1) : okF a0 a1 b0 b1 = true := by
  have h1 : ¬ a0 > a1 := by omega
  have h2 : ¬ b0 > b1 := by omega
  simp [okF, checkF, h1, h2]
theorem cutF_of {c a0 a1 b0 b1 : Int} (ha : a0 ≤ a1) (hb : b0 ≤ b1) : cutF c a0 a1 b0 b1 = if (leftF c a0 a1 b0 b1).is then leftF c a0 a1 b0 b1 else ⟨0, 0, 0, 0, false⟩ := by
  simp [cutF, okF_of ha hb]
theorem fits_of {c a0 a1 b0 b1 x y : Int} (h0 : 0 ≤ a0) (h1 : a1 ≤ 18446744073709551615) (h2 : 0 ≤ b0) (h3 : b1 ≤ 18446744073709551615) (hx0 : a0 ≤ x) (hx1 : x ≤ a1) (hy0 : b0 ≤ y) (hy1 : y ≤ b1)
    (hc : c = 27 ∨ c = 28 ∨ c = 29 ∨ c = 30 ∨ c = 31 ∨ c = 32) (hs : cmpF c x y = true) : Fits (cutF c a0 a1 b0 b1) a0 a1 b0 b1 x y := by
  rw [cutF_of (by omega) (by omega)]
  have key : (leftF c a0 a1 b0 b1).is = true ∧ Fits (leftF c a0 a1 b0 b1) a0 a1 b0 b1 x y := by
    rcases hc with rfl | rfl | rfl | rfl | rfl | rfl
    all_goals
      simp only [cmpF, decide_eq_true_eq, beq_iff_eq, bne_iff_ne, reduceCtorEq, if_true, Int.reduceBEq, Bool.false_eq_true, if_false] at hs
      have e1 : IntKind.u64.wrap (b1 - 1) = (b1 - 1) % 18446744073709551616 := wrap_u64 _
      have e2 : IntKind.u64.wrap (a0 + 1) = (a0 + 1) % 18446744073709551616 := wrap_u64 _
      have e3 : IntKind.u64.wrap (b0 + 1) = (b0 + 1) % 18446744073709551616 := wrap_u64 _
      have e4 : IntKind.u64.wrap (a1 - 1) = (a1 - 1) % 18446744073709551616 := wrap_u64 _
      simp only [leftF, mx, mn, butL, butH, e1, e2, e3, e4, Int.reduceBEq, Bool.false_eq_true, if_false, if_true]
      refine ⟨?_, ?_, ?_, ?_, ?_, ?_, ?_, ?_, ?_, ?_⟩ <;> try dsimp only
      all_goals try simp only [beq_iff_eq, Bool.or_eq_true, Bool.not_eq_true', beq_eq_false_iff_ne, Bool.and_eq_false_imp, decide_eq_true_eq, ne_eq]
      all_goals (repeat' split)
      all_goals omega
  rw [if_pos key.1]
  exact key.2
theorem lies_of {c a0 a1 b0 b1 : Int} (h0 : 0 ≤ a0) (h1 : a1 ≤ 18446744073709551615) (h2 : 0 ≤ b0) (h3 : b1 ≤ 18446744073709551615) (ha : a0 ≤ a1) (hb : b0 ≤ b1)
    (hc : c = 27 ∨ c = 28 ∨ c = 29 ∨ c = 30 ∨ c = 31 ∨ c = 32) : Lies (cutF c a0 a1 b0 b1) a0 a1 b0 b1 := by
  rw [cutF_of ha hb]
  by_cases hi : (leftF c a0 a1 b0 b1).is = true
  · rw [if_pos hi]
    refine ⟨fun _ => ?_, fun h => by rw [hi] at h; cases h⟩
    rcases hc with rfl | rfl | rfl | rfl | rfl | rfl
    all_goals
      have e1 : IntKind.u64.wrap (b1 - 1) = (b1 - 1) % 18446744073709551616 := wrap_u64 _
      have e2 : IntKind.u64.wrap (a0 + 1) = (a0 + 1) % 18446744073709551616 := wrap_u64 _
      have e3 : IntKind.u64.wrap (b0 + 1) = (b0 + 1) % 18446744073709551616 := wrap_u64 _
      have e4 : IntKind.u64.wrap (a1 - 1) = (a1 - 1) % 18446744073709551616 := wrap_u64 _
      simp only [leftF, mx, mn, butL, butH, e1, e2, e3, e4, Int.reduceBEq, Bool.false_eq_true, if_false, if_true] at hi ⊢
      simp only [beq_iff_eq, Bool.or_eq_true, Bool.not_eq_true', beq_eq_false_iff_ne, Bool.and_eq_false_imp, decide_eq_true_eq, ne_eq] at hi ⊢
      refine ⟨?_, ?_, ?_, ?_, ?_, ?_⟩
      all_goals (repeat' split)
      all_goals (first | omega | (split at hi <;> first | omega | (split at hi <;> omega)))
  · rw [if_neg hi]
    exact ⟨fun h => (by cases h), fun _ => ⟨rfl, rfl, rfl, rfl⟩⟩
theorem plainF_con {op : Int} (h : inOp op = true) : cmpF (plainF op true) = cmpF (plainF op true) ∧ ∀ x y : Int, cmpF (plainF op false) x y = !cmpF (plainF op true) x y := by
  refine ⟨rfl, fun x y => ?_⟩
  rcases inOp_cases h with rfl | rfl | rfl | rfl | rfl | rfl | rfl | rfl | rfl | rfl <;>
    simp only [plainF, up, con, cmpF, Int.reduceEq, if_true, if_false, Int.reduceBEq, Bool.false_eq_true] <;> (try simp only [bne, Bool.not_not]) <;> rw [Bool.eq_iff_iff] <;> simp <;> omega
theorem inside_le {a b n : Int} (h0 : 0 ≤ a) (hab : a ≤ b) (h1 : b ≤ 18446744073709551615) (hn0 : 0 ≤ n) (hn1 : n ≤ 18446744073709551615) : a ≤ insideF a b n ∧ insideF a b n ≤ b := by
  unfold insideF top
  split
  · rename_i h
    simp only [beq_iff_eq] at h
    omega
  · rename_i h
    simp only [beq_iff_eq] at h
    have h2 : ¬ (a = 0 ∧ b = 18446744073709551615) := h
    have e1 : IntKind.u64.wrap (b - a) = b - a := by rw [wrap_u64]; omega
    have e2 : IntKind.u64.wrap (b - a + 1) = b - a + 1 := by rw [wrap_u64]; omega
    rw [e1, e2]
    have e3 : n.tmod (b - a + 1) = n % (b - a + 1) := Int.tmod_eq_emod_of_nonneg hn0
    have e4 := Int.emod_nonneg n (show b - a + 1 ≠ 0 by omega)
    have e5 := Int.emod_lt_of_pos n (show 0 < b - a + 1 by omega)
    rw [e3, wrap_u64, Int.emod_eq_of_lt (by omega) (by omega)]
    omega
/-- A round's facts. -/
theorem round_facts {op a0 a1 b0 b1 x y : Int} (ho : inOp op = true) (h0 : 0 ≤ a0) (h1 : a1 ≤ 18446744073709551615) (h2 : 0 ≤ b0) (h3 : b1 ≤ 18446744073709551615) (hx0 : a0 ≤ x) (hx1 : x ≤ a1) (hy0 : b0 ≤ y) (hy1 : y ≤ b1) :
    Fits (cutF (plainF op (cmpF (plainF op true) x y)) a0 a1 b0 b1) a0 a1 b0 b1 x y ∧ Lies (cutF (plainF op (!cmpF (plainF op true) x y)) a0 a1 b0 b1) a0 a1 b0 b1 := by
  have hc := (plainF_con ho).2 x y
  refine ⟨fits_of h0 h1 h2 h3 hx0 hx1 hy0 hy1 (plainF_cases ho) ?_, lies_of h0 h1 h2 h3 (by omega) (by omega) (plainF_cases ho)⟩
  cases hs : cmpF (plainF op true) x y
  · rw [hc, hs]; rfl
  · exact hs
end Go.Proofs.Ytnahgpoafghchaa
