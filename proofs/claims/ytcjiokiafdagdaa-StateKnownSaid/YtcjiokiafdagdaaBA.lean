/- The State laws: track.Join. -/
import Derived.Test.YtcjiokiafdagdaaB9
namespace Go.Proofs.Ytcjiokiafdagdaa
open Go.Sx Go.RowKit Go.Maps Go.Sort
set_option linter.unusedVariables false
set_option linter.unusedSimpArgs false
def knows (m : List (Int × Int)) (i : Int) : Bool := m.any fun y => decide (y.1 = i)
def joinL (l m : List (Int × Int)) : List (Int × Int) := (l.filter fun x => knows m x.1).map fun x => (x.1, mn x.2 (kBytes x.1 m))
/-- What a round over the first map keeps. -/
structure JoinAt (l m : List (Int × Int)) (D : DataW Unit) (left : Lit → Bool) : Prop where
  has : ∀ i, Maps.has D (kl i) = (knows l i && (left (kl i) || knows m i))
  at' : ∀ i z, Maps.has D (kl i) = true → D.atKey (kl i) z = nd (if left (kl i) = true then kBytes i l else mn (kBytes i l) (kBytes i m))
theorem JoinAt.start (l m : List (Int × Int)) : JoinAt l m (dmap l) (Maps.has (dmap l : DataW Unit)) := by
  refine ⟨fun i => ?_, fun i z h => ?_⟩
  · rw [has_dmap]
    show knows l i = (knows l i && (knows l i || knows m i))
    cases knows l i <;> simp
  · rw [if_pos h, at_dmap, if_pos (by rw [has_dmap] at h; exact h)]
theorem kl_same (a b : Int) : (kl a).sameKey (kl b) = decide (a = b) := same_kl a b
theorem isKey_kl (i : Int) : WideAt.IsKeyLit (kl i) := trivial
theorem JoinAt.store {l m : List (Int × Int)} {D : DataW Unit} {left : Lit → Bool} (h : JoinAt l m D left) (hD : IsMap D) {x : Int} (hl : left (kl x) = true) (hx : Maps.has D (kl x) = true) (hm : knows m x = true) :
    JoinAt l m (D.put (kl x) (nd (mn (kBytes x l) (kBytes x m)))) (fun z => left z && !z.sameKey (kl x)) := by
  have hlx : knows l x = true := by
    have := h.has x
    rw [hx] at this
    cases hk : knows l x with
    | true => rfl
    | false => rw [hk] at this; cases this
  refine ⟨fun i => ?_, fun i z hi => ?_⟩
  · by_cases e : i = x
    · subst e
      rw [has_put_same hD (isKey_kl i)]
      simp [hlx, hm]
    · rw [has_put_other (fun e1 => e (by simpa [kl] using e1)), h.has i]
      simp [kl_same, e]
  · by_cases e : i = x
    · subst e
      rw [atKey_put_same hD (isKey_kl i)]
      simp [kl_same]
    · have hne : kl i ≠ kl x := fun e1 => e (by simpa [kl] using e1)
      rw [has_put_other hne] at hi
      rw [atKey_put_other hne, h.at' i z hi]
      simp [kl_same, e]
theorem JoinAt.drop {l m : List (Int × Int)} {D : DataW Unit} {left : Lit → Bool} (h : JoinAt l m D left) {x : Int} (hm : knows m x = false) :
    JoinAt l m (D.del (kl x)) (fun z => left z && !z.sameKey (kl x)) := by
  refine ⟨fun i => ?_, fun i z hi => ?_⟩
  · by_cases e : i = x
    · subst e
      rw [has_del_same]
      simp [kl_same, hm]
    · rw [has_del_other (fun e1 => e (by simpa [kl] using e1)), h.has i]
      simp [kl_same, e]
  · by_cases e : i = x
    · subst e
      rw [has_del_same] at hi
      cases hi
    · have hne : kl i ≠ kl x := fun e1 => e (by simpa [kl] using e1)
      rw [has_del_other hne] at hi
      rw [atKey_del_other hne, h.at' i z hi]
      simp [kl_same, e]
theorem kBytes_knows : ∀ {l : List (Int × Int)} {i : Int}, knows l i = false → kBytes i l = 0
  | [], _, _ => rfl
  | x :: r, i, h => by
    simp only [knows, List.any_cons, Bool.or_eq_false_iff, decide_eq_false_iff_not] at h
    rw [kBytes, if_neg h.1]
    exact kBytes_knows h.2
theorem kBytes_mem {l : List (Int × Int)} (hr : Ris l) {x : Int × Int} (h : x ∈ l) : kBytes x.1 l = x.2 := by
  obtain ⟨i, hi, rfl⟩ := List.getElem_of_mem h
  have := kBytes_at hr hi
  simpa [kid, kby, hi] using this
theorem ris_joinL {l m : List (Int × Int)} (h : Ris l) : Ris (joinL l m) := by
  unfold joinL Ris
  rw [List.pairwise_map]
  exact (ris_filter h _).imp fun {a b} hab => hab
theorem knows_joinL (l m : List (Int × Int)) (i : Int) : knows (joinL l m) i = (knows l i && knows m i) := by
  rw [Bool.eq_iff_iff]
  simp only [joinL, knows, List.any_map, List.any_filter, List.any_eq_true, Bool.and_eq_true, Function.comp, decide_eq_true_eq]
  constructor
  · rintro ⟨x, hx, h1, rfl⟩
    exact ⟨⟨x, hx, rfl⟩, h1⟩
  · rintro ⟨⟨x, hx, rfl⟩, h1⟩
    exact ⟨x, hx, h1, rfl⟩
theorem kBytes_joinL {l m : List (Int × Int)} (hr : Ris l) {i : Int} (h : knows l i = true) (h' : knows m i = true) : kBytes i (joinL l m) = mn (kBytes i l) (kBytes i m) := by
  simp only [knows, List.any_eq_true, decide_eq_true_eq] at h
  obtain ⟨x, hx, rfl⟩ := h
  have hm : (x.1, mn x.2 (kBytes x.1 m)) ∈ joinL l m := List.mem_map.2 ⟨x, List.mem_filter.2 ⟨hx, h'⟩, rfl⟩
  have := kBytes_mem (ris_joinL (m := m) hr) hm
  rw [this, kBytes_mem hr hx]
theorem JoinAt.done {l m : List (Int × Int)} {D : DataW Unit} {left : Lit → Bool} (h : JoinAt l m D left) (hr : Ris l) (hl : ∀ k, left k = false) (hc : Canon D) (hk : ∀ k, Maps.has D k = true → ∃ i, k = kl i) : D = dmap (joinL l m) := by
  refine dmap_ext (ris_joinL hr) hc hk (fun i => ?_) (fun i z hi => ?_)
  · rw [h.has i, hl]
    show _ = knows (joinL l m) i
    rw [knows_joinL]
    simp
  · have h1 := h.has i
    rw [hi, hl] at h1
    simp at h1
    rw [h.at' i z hi, hl, if_neg (by simp), kBytes_joinL hr h1.1 h1.2]
end Go.Proofs.Ytcjiokiafdagdaa
