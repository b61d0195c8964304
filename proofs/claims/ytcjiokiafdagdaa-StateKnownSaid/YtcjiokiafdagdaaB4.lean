/- The State laws: dictionaries from numbers to numbers, as sorted lists; a store at a key that is there, in a round over the map. -/
import Derived.Test.YtcjiokiafdagdaaB3
import Derived.Maps.Range
import Derived.Maps.RangeWalk
import Derived.Maps.OwnOps
import Derived.Maps.OwnSet
import Derived.Maps.Views
import Derived.Maps.Ext
namespace Go.Proofs.Ytcjiokiafdagdaa
open Go.Sx Go.RowKit Go.Maps
set_option linter.unusedVariables false
set_option linter.unusedSimpArgs false
def kl (i : Int) : Lit := .int .i64 i
def nd {H : Type} (n : Int) : DataW H := .lit (.int .i64 n)
def ent {H : Type} (x : Int × Int) : Lit × DataW H := (kl x.1, nd x.2)
def dmap {H : Type} (l : List (Int × Int)) : DataW H := .map (l.map ent)
/-- By numbers, rising. -/
def Ris (l : List (Int × Int)) : Prop := l.Pairwise (fun p q => p.1 < q.1)
theorem same_kl (a b : Int) : (kl a).sameKey (kl b) = decide (a = b) := by
  simp [kl, Lit.sameKey]
theorem insert_end {H : Type} (x : Lit × DataW H) : ∀ (l : List (Lit × DataW H)), (∀ y ∈ l, x.1.before y.1 = false) → DataW.insert x l = l ++ [x]
  | [], _ => rfl
  | y :: r, h => by
    rw [DataW.insert, if_neg (by rw [h y (by simp)]; simp), insert_end x r (fun z hz => h z (by simp [hz]))]
    rfl
/-- A greater number is laid behind. -/
theorem put_end {H : Type} {l : List (Int × Int)} {x : Int × Int} (h : ∀ y ∈ l, y.1 < x.1) : (dmap l : DataW H).put (kl x.1) (nd x.2) = dmap (l ++ [x]) := by
  have h1 : (l.map ent : List (Lit × DataW H)).filter (fun p => !p.1.sameKey (kl x.1)) = l.map ent := by
    rw [List.filter_eq_self]
    intro p hp
    obtain ⟨y, hy, rfl⟩ := List.mem_map.1 hp
    have := h y hy
    simp only [ent, same_kl]
    simp
    omega
  unfold dmap DataW.put
  dsimp only
  rw [h1, insert_end]
  · simp [ent]
  · intro p hp
    obtain ⟨y, hy, rfl⟩ := List.mem_map.1 hp
    have := h y hy
    simp only [ent, kl, Lit.before]
    simp
    omega
theorem canon_dmap {H : Type} {l : List (Int × Int)} (h : Ris l) : Canon (dmap l : DataW H) := by
  refine ⟨_, rfl, ?_, ?_⟩
  · rw [List.pairwise_map]
    exact h.imp fun {a b} hab => by simpa [ent, kl, Lit.before] using hab
  · intro p hp
    obtain ⟨y, _, rfl⟩ := List.mem_map.1 hp
    exact trivial
theorem has_dmap {H : Type} (l : List (Int × Int)) (i : Int) : has (dmap l : DataW H) (kl i) = l.any (fun x => decide (x.1 = i)) := by
  simp only [dmap, has, List.any_map]
  congr 1
  funext x
  simp [ent, same_kl]
theorem has_dmap_other {H : Type} (l : List (Int × Int)) {k : Lit} (hk : ∀ i, k ≠ kl i) : has (dmap l : DataW H) k = false := by
  simp only [dmap, has, List.any_map, List.any_eq_false]
  intro x _
  have := hk x.1
  cases k with
  | int q a =>
    simp only [Function.comp, ent, kl, Lit.sameKey]
    simp only [kl, ne_eq, Lit.int.injEq, not_and] at this
    simp
    intro h1 h2
    exact this h1.symm h2.symm
  | _ => simp [ent, kl, Lit.sameKey]
theorem at_dmap {H : Type} (z : DataW H) (i : Int) : ∀ (l : List (Int × Int)), (dmap l : DataW H).atKey (kl i) z = if l.any (fun x => decide (x.1 = i)) = true then nd (kBytes i l) else z
  | [] => by simp [dmap, DataW.atKey]
  | x :: r => by
    have ih := at_dmap z i r
    simp only [dmap, DataW.atKey, List.map_cons, List.find?_cons] at ih ⊢
    by_cases h : x.1 = i
    · have : (ent x : Lit × DataW H).1.sameKey (kl i) = true := by simp [ent, same_kl, h]
      rw [this]
      simp only [List.any_cons, h, decide_true, Bool.true_or, if_true, kBytes]
      rfl
    · have : (ent x : Lit × DataW H).1.sameKey (kl i) = false := by simp [ent, same_kl, h]
      rw [this]
      simp only [List.any_cons, h, decide_false, Bool.false_or, kBytes, if_false]
      exact ih
/-- Two dictionaries of numbers that agree are one. -/
theorem dmap_ext {H : Type} {D : DataW H} {l : List (Int × Int)} (hl : Ris l) (hD : Canon D) (hk : ∀ k, has D k = true → ∃ i, k = kl i) (hh : ∀ i, has D (kl i) = l.any (fun x => decide (x.1 = i))) (ha : ∀ i z, has D (kl i) = true → D.atKey (kl i) z = nd (kBytes i l)) : D = dmap l := by
  refine ext hD (canon_dmap hl) (fun k => ?_) (fun k z h => ?_)
  · by_cases h : ∃ i, k = kl i
    · obtain ⟨i, rfl⟩ := h
      rw [hh, has_dmap]
    · rw [has_dmap_other l (fun i e => h ⟨i, e⟩)]
      cases hc : has D k with
      | false => rfl
      | true => exact absurd (hk k hc) h
  · obtain ⟨i, rfl⟩ := hk k h
    rw [ha i z h, at_dmap, if_pos (by rw [← hh]; exact h)]
theorem keysOf_int {Q : Program} {k : TypeId} {q : IntKind} (hk : Q.underlying k = some (.int q)) {x : Lit} (h : KeysOf Q k x) : ∃ i, x = .int q i := by
  obtain ⟨v, hv⟩ := h
  obtain ⟨i, _, rfl, _⟩ := Maps.keyOf_int_inv hk hv
  exact ⟨i, rfl⟩
end Go.Proofs.Ytcjiokiafdagdaa
