/- The State laws: what is known, plain. -/
import Derived.Test.YtcjiokiafdagdaaBH
namespace Go.Proofs.Ytcjiokiafdagdaa
open Go.Sx Go.RowKit
set_option linter.unusedVariables false
set_option linter.unusedSimpArgs false
set_option maxRecDepth 100000
set_option maxHeartbeats 1000000
theorem kBytes_cons (i a b : Int) (r : List (Int × Int)) : kBytes i ((a, b) :: r) = if a = i then b else kBytes i r := by
  simp only [kBytes]
def KS (l : List (Int × Int)) : Prop := Ris l ∧ ∀ x ∈ l, 1 ≤ x.2
theorem ks_of {l : List (Int × Int)} (h : kCheck l = 0) : KS l := ⟨(kCheck_facts h).2.1, fun x hx => ((kCheck_facts h).2.2 x hx).2.2.1⟩
theorem ks_tail {x : Int × Int} {r : List (Int × Int)} (h : KS (x :: r)) : KS r := ⟨(List.pairwise_cons.1 h.1).2, fun y hy => h.2 y (List.mem_cons_of_mem _ hy)⟩
theorem kBytes_above {i : Int} : ∀ {l : List (Int × Int)}, (∀ x ∈ l, i < x.1) → kBytes i l = 0
  | [], _ => rfl
  | (a, b) :: r, h => by
    have h1 : i < a := h (a, b) (by simp)
    rw [kBytes_cons, if_neg (by omega)]
    exact kBytes_above fun x hx => h x (by simp [hx])
theorem kBytes_nn {i : Int} : ∀ {l : List (Int × Int)}, KS l → 0 ≤ kBytes i l
  | [], _ => Int.le_refl _
  | (a, b) :: r, h => by
    rw [kBytes_cons]
    split
    · have := h.2 (a, b) (by simp)
      omega
    · exact kBytes_nn (ks_tail h)
theorem known_ext : ∀ {l m : List (Int × Int)}, KS l → KS m → (∀ i, kBytes i l = kBytes i m) → l = m
  | [], [], _, _, _ => rfl
  | [], (a, b) :: r, _, hm, h => by
    have h1 := h a
    rw [kBytes_cons, if_pos rfl] at h1
    have h2 := hm.2 (a, b) (by simp)
    have h3 : kBytes a [] = 0 := rfl
    omega
  | (a, b) :: r, [], hl, _, h => by
    have h1 := h a
    rw [kBytes_cons, if_pos rfl] at h1
    have h2 := hl.2 (a, b) (by simp)
    have h3 : kBytes a [] = 0 := rfl
    omega
  | (a, b) :: r, (c, d) :: t, hl, hm, h => by
    have ra : ∀ x ∈ r, a < x.1 := (List.pairwise_cons.1 hl.1).1
    have rc : ∀ x ∈ t, c < x.1 := (List.pairwise_cons.1 hm.1).1
    have h2 := hl.2 (a, b) (by simp)
    have h3 := hm.2 (c, d) (by simp)
    have ea := h a
    have ec := h c
    rw [kBytes_cons, kBytes_cons] at ea ec
    have hac : a = c := by
      rcases Int.lt_trichotomy a c with hlt | he | hgt
      · rw [if_pos rfl, if_neg (by omega), kBytes_above fun x hx => Int.lt_trans hlt (rc x hx)] at ea
        omega
      · exact he
      · rw [if_neg (by omega), if_pos rfl, kBytes_above fun x hx => Int.lt_trans hgt (ra x hx)] at ec
        omega
    subst hac
    rw [if_pos rfl, if_pos rfl] at ea
    subst ea
    have : r = t := known_ext (ks_tail hl) (ks_tail hm) fun i => by
      by_cases hi : a = i
      · subst hi
        rw [kBytes_above ra, kBytes_above rc]
      · have := h i
        rwa [kBytes_cons, kBytes_cons, if_neg hi, if_neg hi] at this
    rw [this]
theorem knows_iff {l : List (Int × Int)} (h : KS l) (i : Int) : knows l i = true ↔ 1 ≤ kBytes i l := by
  constructor
  · intro hk
    obtain ⟨x, hx, hi⟩ := List.any_eq_true.1 hk
    have hi : x.1 = i := of_decide_eq_true hi
    subst hi
    rw [kBytes_mem h.1 hx]
    exact h.2 x hx
  · intro hk
    cases hh : knows l i with
    | true => rfl
    | false => rw [kBytes_knows hh] at hk; omega
theorem kBytes_join {l m : List (Int × Int)} (hl : KS l) (hm : KS m) (i : Int) : kBytes i (joinL l m) = mn (kBytes i l) (kBytes i m) := by
  have n1 := kBytes_nn (i := i) hl
  have n2 := kBytes_nn (i := i) hm
  cases h1 : knows l i with
  | false =>
    have : knows (joinL l m) i = false := by rw [knows_joinL, h1]; rfl
    rw [kBytes_knows this, kBytes_knows h1]
    unfold mn
    split <;> omega
  | true =>
    cases h2 : knows m i with
    | false =>
      have : knows (joinL l m) i = false := by rw [knows_joinL, h2]; simp
      rw [kBytes_knows this, kBytes_knows h2]
      unfold mn
      split <;> omega
    | true => exact kBytes_joinL hl.1 h1 h2
theorem mem_join {l m : List (Int × Int)} {x : Int × Int} (h : x ∈ joinL l m) : ∃ y ∈ l, y.1 = x.1 ∧ knows m x.1 = true ∧ x.2 = mn y.2 (kBytes x.1 m) := by
  unfold joinL at h
  obtain ⟨y, hy, rfl⟩ := List.mem_map.1 h
  have := List.mem_filter.1 hy
  exact ⟨y, this.1, rfl, this.2, rfl⟩
theorem kChk_of : ∀ {l : List (Int × Int)} {last : Int}, Ris l → (∀ x ∈ l, last < x.1 ∧ 0 ≤ x.1 ∧ x.1 ≤ 256 ∧ 1 ≤ x.2 ∧ x.2 ≤ 2048) → kChk last l = 0
  | [], _, _, _ => rfl
  | (a, b) :: r, last, hr, h => by
    have h1 := h (a, b) (by simp)
    dsimp only at h1
    have h2 := kChk_of (last := a) (List.pairwise_cons.1 hr).2 fun x hx => ⟨(List.pairwise_cons.1 hr).1 x hx, (h x (by simp [hx])).2⟩
    unfold kChk
    rw [if_neg (by simp; omega)]
    exact h2
theorem kCheck_of {l : List (Int × Int)} (hn : l.length ≤ 257) (hr : Ris l) (h : ∀ x ∈ l, 0 ≤ x.1 ∧ x.1 ≤ 256 ∧ 1 ≤ x.2 ∧ x.2 ≤ 2048) : kCheck l = 0 := by
  unfold kCheck
  rw [if_neg (by omega)]
  exact kChk_of hr fun x hx => ⟨by have := h x hx; omega, h x hx⟩
theorem join_ks {l m : List (Int × Int)} (hl : KS l) (hm : KS m) : KS (joinL l m) := by
  refine ⟨ris_joinL hl.1, fun x hx => ?_⟩
  obtain ⟨y, h1, h2, h3, h4⟩ := mem_join hx
  have a1 := hl.2 y h1
  have a2 := (knows_iff hm _).1 h3
  rw [h4]
  unfold mn
  split <;> omega
theorem join_check {l m : List (Int × Int)} (hl : kCheck l = 0) (hm : kCheck m = 0) : kCheck (joinL l m) = 0 := by
  obtain ⟨n1, r1, b1⟩ := kCheck_facts hl
  refine kCheck_of ?_ (ris_joinL r1) fun x hx => ?_
  · unfold joinL
    rw [List.length_map]
    exact Nat.le_trans (List.length_filter_le _ _) n1
  · have h5 := (join_ks (ks_of hl) (ks_of hm)).2 x hx
    obtain ⟨y, h1, h2, h3, h4⟩ := mem_join hx
    have := b1 y h1
    have h6 : x.2 ≤ y.2 := by
      rw [h4]
      unfold mn
      split <;> omega
    omega
theorem kUnder_iff {l m : List (Int × Int)} (hl : KS l) (hm : KS m) : kUnder l m = true ↔ ∀ i, kBytes i m ≤ kBytes i l := by
  have key : ∀ {n : List (Int × Int)}, kUnder l n = true ↔ ∀ x ∈ n, x.2 ≤ kBytes x.1 l := by
    intro n
    induction n with
    | nil => simp [kUnder]
    | cons x r ih => simp [kUnder, ih]
  rw [key]
  constructor
  · intro h i
    cases hk : knows m i with
    | false => rw [kBytes_knows hk]; exact kBytes_nn hl
    | true =>
      obtain ⟨x, hx, hi⟩ := List.any_eq_true.1 hk
      have hi : x.1 = i := of_decide_eq_true hi
      subst hi
      rw [kBytes_mem hm.1 hx]
      exact h x hx
  · intro h x hx
    have := h x.1
    rwa [kBytes_mem hm.1 hx] at this
theorem joinR_ok {l m : List (Int × Int)} (hl : kCheck l = 0) (hm : kCheck m = 0) : joinR l m = joinL l m := by
  simp [joinR, joinE, hl, hm]
end Go.Proofs.Ytcjiokiafdagdaa
