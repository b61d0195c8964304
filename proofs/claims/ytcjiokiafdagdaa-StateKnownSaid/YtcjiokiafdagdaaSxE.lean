/- The executor's answers are the model's: one operation, and what it does to memory. -/
import Derived.Test.YtcjiokiafdagdaaSxD
namespace Go.Sx
open Go.RowKit
set_option linter.unusedVariables false
set_option linter.unusedSimpArgs false
theorem look_cons {α : Type} (k : Nat) (x : α) (l : List (Nat × α)) (d : Nat) : look ((k, x) :: l) d = if k = d then some x else look l d := by
  simp only [look]
  by_cases h : k = d
  · subst h; simp [Nat.beq_eq_true_eq]
  · have : Nat.beq k d = false := by
      cases hb : Nat.beq k d with
      | false => rfl
      | true => exact absurd (Nat.eq_of_beq_eq_true hb) h
    simp [this, h]
section
variable {γ : Type} [Gh γ] {P : Program} {E : Env} {st : St γ} {a : Act} {w : World} {B n : Nat}
theorem pureOp_sound {eqs : TypeId → Bool} (he : EqOK P eqs) (hT : TR E st a) (hH : HR E st.n st.heap B w) {o : Oper} {r : ST} (h : (pureOp P eqs st o.op).gives r) :
    (execOp a.eval o).run P w = .ok (.value (r.den E)) w ∧ r.okn E st.n := by
  obtain ⟨dst, op, type, pos, after, guard⟩ := o
  cases op <;> simp only [pureOp] at h
  case move x =>
    split at h
    · rename_i y hy
      obtain rfl := gives_ok h
      obtain ⟨h1, h2⟩ := evalO_sound hT hy
      exact ⟨by simp [execOp, h1], h2⟩
    · exact (gives_bad h).elim
  case assign x =>
    split at h
    · rename_i y hy
      obtain rfl := gives_ok h
      obtain ⟨h1, h2⟩ := evalO_sound hT hy
      exact ⟨by simp [execOp, h1], h2⟩
    · exact (gives_bad h).elim
  case pick c x y =>
    split at h
    · rename_i b hb
      obtain ⟨h1, _⟩ := evalV_sound hT hb
      obtain ⟨h2, h3⟩ := pickV_sound hT (c := c) h
      exact ⟨by simp [execOp, h1, SV.den, SC.den, asBool, h2], h3⟩
    · exact (gives_bad h).elim
  case load t x =>
    split at h
    · rename_i y hy
      obtain ⟨h1, _⟩ := evalV_sound hT hy
      obtain ⟨h2, h3⟩ := loadV_sound hH h
      exact ⟨by simp [execOp, h1, h2], h3⟩
    · exact (gives_bad h).elim
  case fieldAddr t x f =>
    split at h
    · rename_i y hy
      obtain ⟨h1, h0⟩ := evalV_sound hT hy
      obtain ⟨h2, h3⟩ := fieldAddrV_sound (w := w) h0 h
      exact ⟨by simp [execOp, h1, h2], h3⟩
    · exact (gives_bad h).elim
  case field t x f =>
    split at h
    · rename_i y hy
      obtain ⟨h1, h0⟩ := evalV_sound hT hy
      obtain ⟨h2, h3⟩ := fieldV_sound (w := w) h0 h
      exact ⟨by simp [execOp, h1, h2], h3⟩
    · exact (gives_bad h).elim
  case indexAddr t x ix =>
    split at h
    · rename_i y z hy hz
      obtain ⟨h1, h0⟩ := evalV_sound hT hy
      obtain ⟨h4, _⟩ := evalV_sound hT hz
      obtain ⟨h2, h3⟩ := indexAddrV_sound hH h0 h
      exact ⟨by simp [execOp, h1, h4, h2], h3⟩
    · exact (gives_bad h).elim
  case index t x ix =>
    split at h
    · rename_i y z hy hz
      obtain ⟨h1, h0⟩ := evalV_sound hT hy
      obtain ⟨h4, _⟩ := evalV_sound hT hz
      obtain ⟨h2, h3⟩ := indexV_sound (w := w) h0 h
      exact ⟨by simp [execOp, h1, h4, h2], h3⟩
    · exact (gives_bad h).elim
  case binOp op t x y ty =>
    split at h
    · rename_i u v hu hv
      obtain ⟨h1, _⟩ := evalV_sound hT hu
      obtain ⟨h4, _⟩ := evalV_sound hT hv
      obtain ⟨h2, h3⟩ := binV_sound (E := E) (w := w) (n := st.n) he (x := x) (y := y) h
      refine ⟨?_, h3⟩
      simp only [execOp, h1, h4, Sem.run_bind] at h2 ⊢
      rw [h2]
      rfl
    · exact (gives_bad h).elim
  case unOp op t x =>
    split at h
    · rename_i y hy
      obtain ⟨h1, _⟩ := evalV_sound hT hy
      obtain ⟨h2, h3⟩ := unV_sound (P := P) (E := E) (w := w) (n := st.n) h
      exact ⟨by simp [execOp, h1, h2], h3⟩
    · exact (gives_bad h).elim
  case convert s d x =>
    split at h
    · rename_i y hy
      obtain ⟨h1, _⟩ := evalV_sound hT hy
      obtain ⟨h2, h3⟩ := convV_sound (E := E) (w := w) (n := st.n) h
      exact ⟨by simp [execOp, h1, h2], h3⟩
    · exact (gives_bad h).elim
  case extract x i =>
    split at h
    · rename_i y hy
      obtain ⟨h1, h0⟩ := evalO_sound hT hy
      obtain ⟨h2, h3⟩ := extractV_sound (P := P) (w := w) h0 h
      exact ⟨by simp [execOp, h1, h2], h3⟩
    · exact (gives_bad h).elim
  case build t ps =>
    split at h
    · rename_i l hl
      obtain ⟨h1, h0⟩ := evalParts_sound hT hl
      obtain ⟨h2, h3⟩ := buildV_sound (E := E) (w := w) h0 h
      refine ⟨?_, h3⟩
      have : (ps.map fun x => (x.1, a.eval x.2)) = (l.map fun p => (p.1, p.2.den E)).toArray := by
        rw [← h1]
        apply Array.ext'
        simp
      simp only [execOp, Sem.run_bind, this, h2]
      rfl
    · exact (gives_bad h).elim
  case call c =>
    obtain ⟨callee, args, argTypes⟩ := c
    unfold callV at h
    split at h
    · rename_i heq
      dsimp only at heq
      subst heq
      split at h
      · rename_i x t hx ht
        split at h
        · rename_i y hy
          obtain ⟨h1, _⟩ := evalV_sound hT hy
          have hx' : args = #[x] := by apply Array.ext'; simpa using hx
          have ht' : argTypes = #[t] := by apply Array.ext'; simpa using ht
          subst hx'; subst ht'
          obtain ⟨h2, h3⟩ := lenV_sound (ty := type) hH h
          refine ⟨?_, h3⟩
          simp [execOp, resolve, invoke, builtin, h1, h2]
        · exact (gives_bad h).elim
      · exact (gives_bad h).elim
    · rename_i heq
      dsimp only at heq
      subst heq
      split at h
      · rename_i x y hx
        split at h
        · rename_i k u k' v hy hz
          obtain ⟨h1, _⟩ := evalV_sound hT hy
          obtain ⟨h2, _⟩ := evalV_sound hT hz
          have hx' : args = #[x, y] := by apply Array.ext'; simpa using hx
          subst hx'
          obtain rfl := gives_ok h
          refine ⟨?_, rfl⟩
          simp [execOp, resolve, invoke, builtin, h1, h2, SV.den, SC.den, ST.den, Builtin.min_, Builtin.min2]
        · exact (gives_bad h).elim
      · exact (gives_bad h).elim
    · rename_i heq
      dsimp only at heq
      subst heq
      split at h
      · rename_i x y hx
        split at h
        · rename_i k u k' v hy hz
          obtain ⟨h1, _⟩ := evalV_sound hT hy
          obtain ⟨h2, _⟩ := evalV_sound hT hz
          have hx' : args = #[x, y] := by apply Array.ext'; simpa using hx
          subst hx'
          obtain rfl := gives_ok h
          refine ⟨?_, rfl⟩
          simp [execOp, resolve, invoke, builtin, h1, h2, SV.den, SC.den, ST.den, Builtin.max_, Builtin.max2]
        · exact (gives_bad h).elim
      · exact (gives_bad h).elim
    · exact (gives_bad h).elim
  all_goals exact (gives_bad h).elim

/-! ### Memory -/
/-- Where a call began. -/
structure Beg where
  w : World
  E : Env
  n : Nat
structure Rep (E : Env) (st : St γ) (B : Nat) (w0 : Beg) (w : World) (a : Act) : Prop where
  tr : TR E st a
  hr : HR E st.n st.heap B w
  below : Below B w0.w w
  base : B ≤ w.heap.size
  ag : Ag w0.n w0.E E
  le : w0.n ≤ st.n
  fresh : ∀ id g ad, look st.heap id = some (.ext g) → w0.n ≤ id → E.addr id = some ad → B ≤ ad.block
omit [Gh γ] in
theorem TR.put (hT : TR E st a) {d : Option Nat} {x : ST} (hx : x.okn E st.n) : TR E (st.put d x) (a.put d (x.den E)) := by
  cases d with
  | none => exact hT
  | some d =>
    simp only [St.put]
    cases hb : Nat.blt d st.nt with
    | true =>
      have hlt : d < st.nt := by simpa using hb
      refine ⟨by simp [Act.put, hT.size], fun e y hy => ?_, fun e y hy => ?_, hT.defs⟩
      · simp only [look_cons] at hy
        simp only [Act.put]
        split at hy
        · rename_i he
          subst he
          injection hy with hy
          subst hy
          have := hT.size
          simp [Array.getElem?_setIfInBounds]
          omega
        · rename_i he
          rw [Array.getElem?_setIfInBounds_ne he]
          exact hT.get _ _ hy
      · simp only [look_cons] at hy
        split at hy
        · injection hy with hy
          subst hy
          exact hx
        · exact hT.ok _ _ hy
    | false =>
      have hge : ¬ d < st.nt := by
        intro h
        have : Nat.blt d st.nt = true := by simpa using h
        rw [hb] at this
        cases this
      have : a.put (some d) (x.den E) = a := by
        simp only [Act.put]
        have hs := hT.size
        have : a.tmps.setIfInBounds d (x.den E) = a.tmps := Array.setIfInBounds_eq_of_size_le (by omega)
        rw [this]
      rw [this]
      exact hT
theorem ext_there {g : γ} {i j : Nat} {c : SC} (hi : i < Gh.len g) (hc : (Gh.row g i)[j]? = some c) : 0 < Gh.len g ∧ 0 < Gh.sz g := by
  have h1 := Gh.row_len g i
  have h2 := (List.getElem?_eq_some_iff.1 hc).1
  omega
theorem row_den {g : γ} {i j : Nat} {c : SC} (hc : (Gh.row g i)[j]? = some c) (E E' : Env) : c.den E' = c.den E := by
  obtain ⟨x, rfl, _⟩ := Gh.row_one g i c (List.mem_of_getElem? hc)
  rfl
/-- What is said of a world holds of whatever has grown out of it, with whatever more addresses. -/
theorem HR.grow {H : List (Nat × Blk γ)} {E' : Env} {w' : World} (h : HR E n H B w) (hA : Ag n E E') (hb : ∀ k, k < w.heap.size → w'.heap[k]? = w.heap[k]?) : HR E' n H B w' := by
  have hlt : ∀ {g cs ty fr}, w.heap[g]? = some (Obj.cells cs ty fr) → g < w.heap.size := fun hg => (Array.getElem?_eq_some_iff.1 hg).1
  refine ⟨?_, ?_, ?_, ?_, h.ids, ?_⟩
  · intro id ty cs hl
    obtain ⟨g, h1, h2, h3⟩ := h.own id ty cs hl
    refine ⟨g, by rw [hA.addr _ (h.ids _ _ hl)]; exact h1, h2, ?_⟩
    rw [hb g (hlt h3), h3, map_den_ag (h.okc id ty cs (.inl hl)) hA]
  · intro id ty cs hl
    obtain ⟨g, h1, h3⟩ := h.ro id ty cs hl
    refine ⟨g, by rw [hA.addr _ (h.ids _ _ hl)]; exact h1, ?_⟩
    rw [hb g (hlt h3), h3, map_den_ag (h.okc id ty cs (.inr hl)) hA]
  · intro id g hl
    obtain ⟨h1, h2⟩ := h.ext id g hl
    refine ⟨by rw [hA.len _ (h.ids _ _ hl)]; exact h1, fun i hi => ?_⟩
    obtain ⟨ad, h3, h4⟩ := h2 i hi
    refine ⟨ad, by rw [hA.addr _ (h.ids _ _ hl)]; exact h3, fun j c hc => ?_⟩
    have h5 := h4 j c hc
    rw [World.cell?_of_block (w := w) (hb _ (block_lt_of_cell h5)), h5, row_den hc E E']
  · intro i j ty cs b x y hij hi hj hbt hx hy
    rw [hA.addr _ (h.ids _ _ hi)] at hx
    rw [hA.addr _ (h.ids _ _ hj)] at hy
    exact h.sep i j ty cs b x y hij hi hj hbt hx hy
  · intro id ty cs hl c hc
    exact (h.okc id ty cs hl c hc).ag (Nat.le_refl _) hA
/-- The block of whatever is there stands. -/
theorem HR.stands {H : List (Nat × Blk γ)} (h : HR E n H B w) {j : Nat} {b : Blk γ} {y : Addr} (hj : look H j = some b) (hb : b.there) (hy : E.addr j = some y) : y.block < w.heap.size := by
  cases b with
  | gone => exact hb.elim
  | own ty cs =>
    obtain ⟨g, h1, _, h3⟩ := h.own _ _ _ hj
    rw [h1] at hy
    injection hy with hy
    subst hy
    exact (Array.getElem?_eq_some_iff.1 h3).1
  | ro ty cs =>
    obtain ⟨g, h1, h3⟩ := h.ro _ _ _ hj
    rw [h1] at hy
    injection hy with hy
    subst hy
    exact (Array.getElem?_eq_some_iff.1 h3).1
  | ext g =>
    obtain ⟨_, h2⟩ := h.ext _ _ hj
    obtain ⟨ad, h3, h4⟩ := h2 0 hb.1
    rw [h3] at hy
    injection hy with hy
    subst hy
    have hr := Gh.row_len g 0
    have : 0 < (Gh.row g 0).length := by rw [hr]; exact hb.2
    have h5 := h4 0 _ (List.getElem?_eq_getElem this)
    simp only [Nat.zero_mul, Nat.add_zero, Addr.add_zero'] at h5
    exact block_lt_of_cell h5
def Env.set (E : Env) (k : Nat) (ad : Option Addr) (l c : Nat) : Env := ⟨fun i => if i = k then ad else E.addr i, fun i => if i = k then l else E.len i, fun i => if i = k then c else E.cap i⟩
theorem Env.set_ag (E : Env) (k : Nat) (ad : Option Addr) (l c : Nat) : Ag k E (E.set k ad l c) :=
  ⟨fun i hi => by simp [Env.set, Nat.ne_of_lt hi], fun i hi => by simp [Env.set, Nat.ne_of_lt hi], fun i hi => by simp [Env.set, Nat.ne_of_lt hi]⟩
theorem HR.alloc {H : List (Nat × Blk γ)} (h : HR E n H B w) (hB : B ≤ w.heap.size) {cs : List SC} {t : TypeId} (hcs : ∀ c ∈ cs, c.okn E n) :
    HR (E.set n (some ⟨w.heap.size, 0, none⟩) 0 0) (n + 1) ((n, .own t cs) :: H) B (w.alloc (.cells (cs.map (SC.den E)).toArray t)) := by
  have hA := E.set_ag n (some ⟨w.heap.size, 0, none⟩) 0 0
  have g := h.grow (w' := w.alloc (.cells (cs.map (SC.den E)).toArray t)) hA (fun k hk => Below.heap_alloc w _ k hk)
  have hnew : ∀ id b, look H id = some b → n ≠ id := fun id b hl e => by have := h.ids _ _ hl; omega
  refine ⟨?_, ?_, ?_, ?_, ?_, ?_⟩
  · intro id ty cs' hl
    rw [look_cons] at hl
    split at hl
    · rename_i e
      subst e
      injection hl with hl
      injection hl with h1 h2
      subst h1; subst h2
      refine ⟨w.heap.size, by simp [Env.set], hB, ?_⟩
      rw [heap_alloc_new, map_den_ag hcs hA]
    · exact g.own id ty cs' hl
  · intro id ty cs' hl
    rw [look_cons] at hl
    split at hl
    · injection hl with hl; cases hl
    · exact g.ro id ty cs' hl
  · intro id gg hl
    rw [look_cons] at hl
    split at hl
    · injection hl with hl; cases hl
    · exact g.ext id gg hl
  · intro i j ty cs' b x y hij hi hj hbt hx hy
    rw [look_cons] at hi hj
    split at hi
    · rename_i e
      subst e
      split at hj
      · rename_i e2; exact absurd e2 hij
      · have h3 := h.ids _ _ hj
        have hy' : E.addr j = some y := by rw [← hA.addr _ h3]; exact hy
        have := h.stands hj hbt hy'
        have hx' : x = ⟨w.heap.size, 0, none⟩ := by simpa [Env.set] using hx.symm
        subst hx'
        exact Nat.ne_of_gt this
    · split at hj
      · rename_i e2
        subst e2
        have h3 := h.ids _ _ hi
        have hx' : E.addr i = some x := by rw [← hA.addr _ h3]; exact hx
        have := h.stands hi (b := .own ty cs') trivial hx'
        have hy' : y = ⟨w.heap.size, 0, none⟩ := by simpa [Env.set] using hy.symm
        subst hy'
        exact Nat.ne_of_lt this
      · exact g.sep i j ty cs' b x y hij hi hj hbt hx hy
  · intro id b hl
    rw [look_cons] at hl
    split at hl
    · omega
    · have := h.ids _ _ hl; omega
  · intro id ty cs' hl c hc
    rw [look_cons] at hl
    split at hl
    · rcases hl with hl | hl
      · injection hl with hl
        injection hl with h1 h2
        subst h2
        exact (hcs c hc).ag (Nat.le_succ _) hA
      · injection hl with hl; cases hl
    · exact (h.okc id ty cs' hl c hc).ag (Nat.le_succ _) hA
theorem HR.store {H : List (Nat × Blk γ)} (h : HR E n H B w) {id : Nat} {ty : TypeId} {old new : List SC} {g : Nat} (hl : look H id = some (.own ty old)) (hg : E.addr id = some ⟨g, 0, none⟩)
    (hnew : ∀ c ∈ new, c.okn E n) : HR E n ((id, .own ty new) :: H) B (w.setRow g (new.map (SC.den E)).toArray) := by
  obtain ⟨g', h1, h2, h3⟩ := h.own _ _ _ hl
  rw [hg] at h1
  injection h1 with h1
  injection h1 with h1
  subst h1
  have other : ∀ {j b y}, id ≠ j → look H j = some b → b.there → E.addr j = some y → y.block ≠ g := fun hij hj hb hy e => by
    exact h.sep _ _ _ _ _ _ _ hij hl hj hb hg hy e.symm
  refine ⟨?_, ?_, ?_, ?_, ?_, ?_⟩
  · intro j ty' cs' hj
    rw [look_cons] at hj
    split at hj
    · rename_i e
      subst e
      injection hj with hj
      injection hj with e1 e2
      subst e1; subst e2
      exact ⟨g, hg, h2, setRow_heap w g _ _ _ _ h3⟩
    · rename_i e
      obtain ⟨k, k1, k2, k3⟩ := h.own _ _ _ hj
      refine ⟨k, k1, k2, ?_⟩
      rw [setRow_other w g k _ (other e hj (b := .own ty' cs') trivial k1)]
      exact k3
  · intro j ty' cs' hj
    rw [look_cons] at hj
    split at hj
    · injection hj with hj; cases hj
    · rename_i e
      obtain ⟨k, k1, k3⟩ := h.ro _ _ _ hj
      refine ⟨k, k1, ?_⟩
      rw [setRow_other w g k _ (other e hj (b := .ro ty' cs') trivial k1)]
      exact k3
  · intro j gg hj
    rw [look_cons] at hj
    split at hj
    · injection hj with hj; cases hj
    · rename_i e
      obtain ⟨k1, k2⟩ := h.ext _ _ hj
      refine ⟨k1, fun i hi => ?_⟩
      obtain ⟨ad, k3, k4⟩ := k2 i hi
      refine ⟨ad, k3, fun m c hc => ?_⟩
      have hne : ad.block ≠ g := other e hj (b := .ext gg) (ext_there hi hc) k3
      have hbl : (ad.add (i * Gh.sz gg + m)).block = ad.block := by unfold Addr.add; split <;> rfl
      rw [← k4 m c hc]
      exact World.cell?_of_block (w := w) (setRow_other w g _ _ (by rw [hbl]; exact hne))
  · intro i j ty' cs' b x y hij hi hj hbt hx hy
    rw [look_cons] at hi hj
    have hi' : ∃ ty2 cs2, look H i = some (.own ty2 cs2) := by
      split at hi
      · rename_i e; subst e; exact ⟨_, _, hl⟩
      · exact ⟨_, _, hi⟩
    obtain ⟨ty2, cs2, hi'⟩ := hi'
    split at hj
    · rename_i e
      subst e
      exact h.sep i id ty2 cs2 _ x y hij hi' hl trivial hx hy
    · exact h.sep i j ty2 cs2 b x y hij hi' hj hbt hx hy
  · intro j b hj
    rw [look_cons] at hj
    split at hj
    · rename_i e; subst e; exact h.ids _ _ hl
    · exact h.ids _ _ hj
  · intro j ty' cs' hj c hc
    rw [look_cons] at hj
    split at hj
    · rcases hj with hj | hj
      · injection hj with hj
        injection hj with e1 e2
        subst e2
        exact hnew c hc
      · injection hj with hj; cases hj
    · exact h.okc _ _ _ hj c hc
end
end Go.Sx
