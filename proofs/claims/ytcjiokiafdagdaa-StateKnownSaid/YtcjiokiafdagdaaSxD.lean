/- The executor's answers are the model's: composites, and every operation that leaves memory alone. -/
import Derived.Test.YtcjiokiafdagdaaSxC
namespace Go.Sx
open Go.RowKit
set_option linter.unusedVariables false
set_option linter.unusedSimpArgs false
section
variable {γ : Type} {P : Program} {E : Env} {st : St γ} {a : Act} {w : World} {B n : Nat}
theorem setCs_den (cs vs : List SC) (o : Nat) : (setCs cs o vs).map (SC.den E) = (cs.map (SC.den E)).take o ++ vs.map (SC.den E) ++ (cs.map (SC.den E)).drop (o + (vs.map (SC.den E)).length) := by
  simp [setCs, List.map_take, List.map_drop]
theorem setCs_len {cs vs : List SC} {o : Nat} (h : o + vs.length ≤ cs.length) : (setCs cs o vs).length = cs.length := by
  simp [setCs]; omega
theorem setCs_okn {cs vs : List SC} {o : Nat} (h : ∀ c ∈ cs, c.okn E n) (h2 : ∀ c ∈ vs, c.okn E n) : ∀ c ∈ setCs cs o vs, c.okn E n := by
  intro c hc
  simp only [setCs, List.mem_append] at hc
  rcases hc with (hc | hc) | hc
  · exact h c (List.mem_of_mem_take hc)
  · exact h2 c hc
  · exact h c (List.mem_of_mem_drop hc)
theorem foldl_set (l : List Value) : ∀ (k off : Nat) (cur : Array Value), off + k + l.length ≤ cur.size →
    ((l.zipIdx k).foldl (fun cs (x : Value × Nat) => cs.setIfInBounds (off + x.2) x.1) cur).toList = cur.toList.take (off + k) ++ l ++ cur.toList.drop (off + k + l.length) := by
  induction l with
  | nil => intro k off cur h; simp
  | cons v l ih =>
    intro k off cur h
    simp only [List.zipIdx_cons, List.foldl_cons]
    rw [ih (k + 1) off _ (by simp at h ⊢; omega)]
    have e := list_seg_step cur.toList (off + k) v l (by simp at h ⊢; omega)
    simpa [Array.toList_setIfInBounds, Nat.add_assoc] using e
theorem fill_one (off : Nat) (v : Array Value) (cur : Array Value) (h : off + v.size ≤ cur.size) :
    v.zipIdx.foldl (fun cs (x : Value × Nat) => cs.setIfInBounds (off + x.2) x.1) cur = (cur.toList.take off ++ v.toList ++ cur.toList.drop (off + v.toList.length)).toArray := by
  apply Array.ext'
  have := foldl_set v.toList 0 off cur (by simpa using h)
  simp only [Nat.add_zero] at this
  rw [← this]
  obtain ⟨l⟩ := v
  simp
theorem fillV_sound {place place' : Nat → Option (Nat × Nat)} : ∀ {l : List (Nat × SV)} {cs out : List SC}, (∀ i x, (i, x) ∈ l → ∀ y, place i = some y → place' i = some y) → (∀ p ∈ l, p.2.okn E n) → (∀ c ∈ cs, c.okn E n) →
    fillV place cs l = some out → Instr.fill place' (cs.map (SC.den E)).toArray (l.map fun p => (p.1, p.2.den E)) = some (out.map (SC.den E)).toArray ∧ (∀ c ∈ out, c.okn E n)
  | [], cs, out, _, _, hc, h => by
    simp only [fillV] at h
    injection h with h
    subst h
    exact ⟨rfl, hc⟩
  | (i, x) :: r, cs, out, hp, hok, hc, h => by
    simp only [fillV] at h
    split at h
    · cases h
    · rename_i off size hpl
      split at h
      · rename_i hsz
        have hx := hok (i, x) (by simp)
        have hcells := SV.den_cells hx
        have ih := fillV_sound (place := place) (place' := place') (l := r) (cs := setCs cs off x.cells) (fun j y hj => hp j y (by simp [hj])) (fun p hq => hok p (by simp [hq])) (setCs_okn hc (SV.okn_cells hx)) h
        refine ⟨?_, ih.2⟩
        simp only [List.map_cons, Instr.fill, hp i x (by simp) _ hpl, hcells]
        rw [if_neg (by simp; omega)]
        rw [← ih.1, fill_one _ _ _ (by simp; omega)]
        congr 1
        apply Array.ext'
        simp [setCs_den]
      · cases h
theorem evalParts_sound (hT : TR E st a) : ∀ {l : List (Nat × Operand)} {xs : List (Nat × SV)}, evalParts st l = some xs → l.map (fun p => (p.1, a.eval p.2)) = xs.map (fun p => (p.1, p.2.den E)) ∧ ∀ p ∈ xs, p.2.okn E st.n
  | [], xs, h => by
    simp only [evalParts] at h
    injection h with h
    subst h
    exact ⟨rfl, fun _ h => by cases h⟩
  | (i, o) :: l, xs, h => by
    simp only [evalParts] at h
    split at h
    · rename_i y hy
      split at h
      · rename_i ys hys
        injection h with h
        subst h
        obtain ⟨h1, h2⟩ := evalV_sound hT hy
        obtain ⟨h3, h4⟩ := evalParts_sound hT hys
        refine ⟨by simp [h1, h3], fun x hx => ?_⟩
        cases hx with
        | head => exact h2
        | tail _ hx => exact h4 x hx
      · cases h
    · cases h
theorem fieldPlaces_sound : ∀ {fs : List Field} {l : List (Nat × Nat)}, fieldPlaces P fs = some l → (fs.mapM fun f => do pure (f.offset, ← sizeOf f.type) : Sem (List (Nat × Nat))).run P w = .ok l w
  | [], l, h => by
    simp only [fieldPlaces] at h
    injection h with h
    subst h
    simp
  | f :: r, l, h => by
    simp only [fieldPlaces] at h
    split at h
    · rename_i i hi
      split at h
      · rename_i l' hl
        injection h with h
        subst h
        have := fieldPlaces_sound hl
        simp only [List.mapM_cons, Sem.run_bind, run_sizeOf hi, Result.andThen_ok, Sem.run_pure, this]
      · cases h
    · cases h
theorem buildV_sound {t : TypeId} {l : List (Nat × SV)} {r : ST} (hl : ∀ p ∈ l, p.2.okn E n) (h : (buildV P t l).gives r) :
    (Instr.build t (l.map fun p => (p.1, p.2.den E)).toArray).run P w = .ok (r.den E) w ∧ r.okn E n := by
  unfold buildV at h
  split at h
  · rename_i z hz
    obtain ⟨hz1, hz2⟩ := run_zeroV (E := E) hz n w
    have hzc := SV.den_cells hz2
    split at h
    · rename_i fs hu
      split at h
      · rename_i pl hpl
        split at h
        · rename_i cs hcs
          simp only [frc_eq] at h
          obtain rfl := gives_ok h
          have hm := fieldPlaces_sound (P := P) (w := w) hpl
          have := fillV_sound (E := E) (n := n) (place' := fun i => pl[i]?) (by intro i x _ y hy; exact hy) hl (SV.okn_cells hz2) hcs
          refine ⟨?_, this.2⟩
          simp only [Instr.build, Sem.run_bind, hz1, Result.andThen_ok, run_underlying hu]
          rw [← Array.toArray_toList (xs := fs)] 
          simp only [List.mapM_toArray, Sem.run_map, hm, Result.andThen_ok, hzc]
          have h1 := this.1
          simp only [List.getElem?_toArray, h1]
          rfl
        · exact (gives_bad h).elim
      · exact (gives_bad h).elim
    · rename_i m el hu
      split at h
      · rename_i i hi
        split at h
        · rename_i cs hcs
          simp only [frc_eq] at h
          obtain rfl := gives_ok h
          have := fillV_sound (E := E) (n := n) (place' := fun j => some (j * i.size, i.size)) (by intro i x _ y hy; exact hy) hl (SV.okn_cells hz2) hcs
          refine ⟨?_, this.2⟩
          have h1 := this.1
          simp only [Instr.build, Sem.run_bind, hz1, Result.andThen_ok, run_underlying hu, run_sizeOf hi, hzc, h1]
          rfl
        · exact (gives_bad h).elim
      · exact (gives_bad h).elim
    · exact (gives_bad h).elim
  · exact (gives_bad h).elim
theorem convV_sound {s d : TypeId} {x : SV} {r : ST} (h : (convV P s d x).gives r) : (convert s d (x.den E)).run P w = .ok (r.den E) w ∧ r.okn E n := by
  unfold convV at h
  split at h
  · rename_i sd hs
    split at h
    · rename_i k k' m hd
      obtain rfl := gives_ok h
      refine ⟨?_, rfl⟩
      simp only [SV.den, SC.den, ST.den, convert, Sem.run_bind, run_underlying hs, run_underlying hd, Result.andThen_ok]
      cases sd <;> simp [Conv.intToInt]
    · exact (gives_bad h).elim
  · exact (gives_bad h).elim
theorem unV_sound {op : UnOp} {x : SV} {r : ST} (h : (unV op x).gives r) : (Op.unary op (x.den E)).run P w = .ok (r.den E) w ∧ r.okn E n := by
  unfold unV at h
  split at h
  · obtain rfl := gives_ok h
    exact ⟨rfl, rfl⟩
  · obtain rfl := gives_ok h
    exact ⟨by simp [SV.den, SC.den, ST.den, Op.unary, Op.intArith], rfl⟩
  · exact (gives_bad h).elim
theorem extractV_sound {x r : ST} {i : Nat} (hx : x.okn E n) (h : (extractV x i).gives r) : (Instr.extract (x.den E) i).run P w = .ok (r.den E) w ∧ r.okn E n := by
  unfold extractV at h
  split at h
  · rename_i xs
    split at h
    · rename_i y hy
      obtain rfl := gives_ok h
      refine ⟨?_, hx y (List.mem_of_getElem? hy)⟩
      simp [ST.den, Instr.extract, hy]
    · exact (gives_bad h).elim
  · exact (gives_bad h).elim
theorem pickV_sound (hT : TR E st a) {c x y : Operand} {b : Bool} {r : ST} (h : (pickV b (evalV st x) (evalV st y)).gives r) : (if b then a.eval x else a.eval y) = r.den E ∧ r.okn E st.n := by
  cases hx : evalV st x with
  | none =>
    cases hy : evalV st y with
    | none => rw [hx, hy] at h; exact (gives_bad h).elim
    | some v =>
      obtain ⟨h1, h2⟩ := evalV_sound hT hy
      rw [hx, hy] at h
      obtain ⟨h3, rfl⟩ := gives_chk h
      have : b = false := by simpa using h3
      subst this
      exact ⟨h1, h2⟩
  | some u =>
    obtain ⟨h1, h2⟩ := evalV_sound hT hx
    cases hy : evalV st y with
    | none =>
      rw [hx, hy] at h
      unfold pickV at h
      split at h
      · rename_i he; cases he
      · rename_i he; cases he
      · rename_i z he1 he2
        injection he1 with he1
        subst he1
        obtain ⟨h3, rfl⟩ := gives_chk h
        subst h3
        exact ⟨h1, h2⟩
      · rename_i he; cases he
      · exact (gives_bad h).elim
    | some v =>
      obtain ⟨h3, h4⟩ := evalV_sound hT hy
      rw [hx, hy] at h
      unfold pickV at h
      split at h
      · rename_i p q he1 he2
        injection he1 with he1
        injection he2 with he2
        subst he1; subst he2
        obtain rfl := gives_ok h
        refine ⟨?_, rfl⟩
        cases b
        · exact h3
        · exact h1
      · rename_i k p k' q he1 he2
        injection he1 with he1
        injection he2 with he2
        subst he1; subst he2
        split at h
        · rename_i hk
          subst hk
          obtain rfl := gives_ok h
          refine ⟨?_, rfl⟩
          cases b
          · exact h3
          · exact h1
        · exact (gives_bad h).elim
      · rename_i he; cases he
      · rename_i he _; cases he
      · exact (gives_bad h).elim
end
section
variable {γ : Type} [Gh γ] {P : Program} {E : Env} {st : St γ} {a : Act} {w : World} {B : Nat}
/-- A pointer that the executor has made of a known block leads to it. -/
def PtrOK (E : Env) (st : St γ) : Prop :=
  (∀ id b, look st.heap id = some b → (∀ g, b ≠ .ext g) → b ≠ .gone → ∃ g, E.addr id = some ⟨g, 0, none⟩)
end
end Go.Sx
