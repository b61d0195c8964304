/- The executor's answers are the model's: whole regions that draw their order. -/
import Derived.Test.YtcjiokiafdagdaaSxH2
namespace Go.Sx
open Go.RowKit
set_option linter.unusedVariables false
set_option linter.unusedSimpArgs false
set_option linter.unusedSectionVars false
/-! ### What has come up -/
theorem setAll_set (i : Nat) : ∀ (l : List Nat) (listed : Array Bool), (setAll listed l).setIfInBounds i true = setAll (listed.setIfInBounds i true) l
  | [], _ => rfl
  | j :: r, listed => by
    rw [setAll, setAll_set i r, setAll]
    by_cases e : i = j
    · subst e; rfl
    · rw [Array.setIfInBounds_comm _ _ (Ne.symm e)]
theorem setAll_get : ∀ (l : List Nat) (listed : Array Bool) (j : Nat), (setAll listed l)[j]? = if j ∈ l then (if j < listed.size then some true else none) else listed[j]?
  | [], _, _ => by simp [setAll]
  | i :: r, listed, j => by
    rw [setAll, setAll_get r]
    by_cases h : j ∈ r
    · simp [h]
    · rw [if_neg h]
      by_cases e : j = i
      · subst e
        simp [Array.getElem?_setIfInBounds]
      · rw [Array.getElem?_setIfInBounds_ne (Ne.symm e)]
        simp [e, h]
theorem setAll_size : ∀ (l : List Nat) (listed : Array Bool), (setAll listed l).size = listed.size
  | [], _ => rfl
  | i :: r, listed => by rw [setAll, setAll_size r]; simp
theorem setAll_mem {l l' : List Nat} (h : ∀ j, j ∈ l ↔ j ∈ l') (listed : Array Bool) : setAll listed l = setAll listed l' := by
  apply Array.ext_getElem?
  intro j
  rw [setAll_get, setAll_get]
  by_cases e : j ∈ l
  · rw [if_pos e, if_pos ((h j).1 e)]
  · rw [if_neg e, if_neg (fun h' => e ((h j).2 h'))]
theorem setAll_un {l : List Nat} {listed : Array Bool} {j : Nat} (h : (setAll listed l).getD j true = false) : listed.getD j true = false ∧ j ∉ l := by
  rw [Array.getD_eq_getD_getElem?] at h ⊢
  rw [setAll_get] at h
  by_cases e : j ∈ l
  · rw [if_pos e] at h
    split at h <;> simp at h
  · rw [if_neg e] at h
    exact ⟨h, e⟩
theorem setAll_app : ∀ (l l' : List Nat) (listed : Array Bool), setAll (setAll listed l) l' = setAll listed (l ++ l')
  | [], _, _ => rfl
  | i :: r, l', listed => by rw [setAll, setAll_app r, List.cons_append, setAll]
theorem ready_setAll {ops : Array Oper} {j : Nat} : ∀ {l : List Nat} {listed : Array Bool}, j ∈ Region.ready .any ops listed → j ∉ l → j ∈ Region.ready .any ops (setAll listed l)
  | [], _, h, _ => h
  | i :: r, listed, h, hn => ready_setAll (l := r) (ready_mono h (fun e => hn (by simp [e]))) (fun h' => hn (by simp [h']))
theorem nodup_le : ∀ (l l' : List Nat), l.Nodup → (∀ x ∈ l, x ∈ l') → l.length ≤ l'.length
  | [], _, _, _ => Nat.zero_le _
  | x :: r, l', h, hs => by
    obtain ⟨h1, h2⟩ := List.nodup_cons.1 h
    have hx := hs x (by simp)
    have := nodup_le r (l'.erase x) h2 (fun y hy => (List.mem_erase_of_ne (fun e => h1 (by rw [← e]; exact hy))).2 (hs y (by simp [hy])))
    rw [List.length_erase_of_mem hx] at this
    have : 0 < l'.length := List.length_pos_of_mem hx
    simp only [List.length_cons]
    omega
theorem nodupB_ok : ∀ {l : List Nat}, nodupB l = true → l.Nodup
  | [], _ => List.nodup_nil
  | i :: r, h => by
    simp only [nodupB, Bool.and_eq_true, Bool.not_eq_true', List.contains_eq_mem, decide_eq_false_iff_not] at h
    exact List.nodup_cons.2 ⟨h.1, nodupB_ok h.2⟩
section
variable {γ : Type} [Gh γ] {cx : Cx γ} {E : Env} {st : St γ} {a : Act} {w : World} {w0 : Beg} {B n m : Nat} {Q : Exit → Act → World → Prop} {ids : List Nat} {ops : Array Oper} {al : List Nat}
theorem HR.adopt {H : List (Nat × Blk γ)} (h : HR E n H B w) {g : Nat} (hB : B ≤ g) {cs : List SC} {t : TypeId} (hw : w.heap[g]? = some (.cells (cs.map (SC.den E)).toArray t (0, 0)))
    (hne : ∀ id b x, look H id = some b → b.there → E.addr id = some x → x.block ≠ g) (hcs : ∀ c ∈ cs, c.okn E n) :
    HR (E.set n (some ⟨g, 0, none⟩) 0 0) (n + 1) ((n, .own t cs) :: H) B w := by
  have hA := E.set_ag n (some ⟨g, 0, none⟩) 0 0
  have k := h.grow (w' := w) hA (fun _ _ => rfl)
  refine ⟨?_, ?_, ?_, ?_, ?_, ?_⟩
  · intro id ty cs' hl
    rw [look_cons] at hl
    split at hl
    · rename_i e
      subst e
      injection hl with hl
      injection hl with h1 h2
      subst h1; subst h2
      exact ⟨g, by simp [Env.set], hB, by rw [hw, map_den_ag hcs hA]⟩
    · exact k.own id ty cs' hl
  · intro id ty cs' hl
    rw [look_cons] at hl
    split at hl
    · injection hl with hl; cases hl
    · exact k.ro id ty cs' hl
  · intro id gg hl
    rw [look_cons] at hl
    split at hl
    · injection hl with hl; cases hl
    · exact k.ext id gg hl
  · intro i j ty cs' b x y hij hi hj hbt hx hy
    rw [look_cons] at hi hj
    split at hi
    · rename_i e
      subst e
      split at hj
      · rename_i e2; exact absurd e2 hij
      · have hy' : E.addr j = some y := by rw [← hA.addr _ (h.ids _ _ hj)]; exact hy
        have := hne j b y hj hbt hy'
        have hx' : x = ⟨g, 0, none⟩ := by simpa [Env.set] using hx.symm
        subst hx'
        exact fun e => this e.symm
    · split at hj
      · rename_i e2
        subst e2
        have hx' : E.addr i = some x := by rw [← hA.addr _ (h.ids _ _ hi)]; exact hx
        have := hne i (.own ty cs') x hi trivial hx'
        have hy' : y = ⟨g, 0, none⟩ := by simpa [Env.set] using hy.symm
        subst hy'
        exact this
      · exact k.sep i j ty cs' b x y hij hi hj hbt hx hy
  · intro id b hl
    rw [look_cons] at hl
    split at hl
    · omega
    · have := h.ids _ _ hl; omega
  · intro id ty cs' hl c hc
    rw [look_cons] at hl
    split at hl
    · rcases hl with hl | hl
      · injection hl with hl
        injection hl with h1 h2
        subst h2
        exact (hcs c hc).ag (Nat.le_succ _) hA
      · injection hl with hl; cases hl
    · exact (h.okc id ty cs' hl c hc).ag (Nat.le_succ _) hA
/-! ### Variables that have come up early -/
/-- Of an early variable: number k of the region, block g. -/
structure Dk (cx : Cx γ) (ops : Array Oper) (B : Nat) (E : Env) (st : St γ) (a : Act) (k g : Nat) : Prop where
  tm : ∀ o d, ops[k]? = some o → o.dst = some d → a.tmps[d]? = some (.pointer (some ⟨g, 0, none⟩))
  base : B ≤ g
  ne : ∀ id b x, look st.heap id = some b → b.there → E.addr id = some x → x.block ≠ g
def Dw (cx : Cx γ) (ops : Array Oper) (k g : Nat) (w : World) : Prop := ∀ o t z, ops[k]? = some o → o.op = .alloc t → zeroV cx.P t = some z → ∀ E : Env, w.heap[g]? = some (.cells (z.cells.map (SC.den E)).toArray t (0, 0))
def CD (cx : Cx γ) (ops : Array Oper) (E : Env) (st : St γ) (B : Nat) (w0 : Beg) (D : List (Nat × Nat)) (w : World) : Prop := Cls E st.n st.heap B w0 w ∧ ∀ x ∈ D, Dw cx ops x.1 x.2 w ∧ x.2 < w.heap.size
theorem CD.cl {D : List (Nat × Nat)} : Cl (CD cx ops E st B w0 D) := by
  intro w w' h hb
  refine ⟨h.1.below hb, fun x hx => ⟨fun o t z h1 h2 h3 E => ?_, Nat.lt_of_lt_of_le (h.2 x hx).2 hb.size⟩⟩
  rw [hb.block _ (h.2 x hx).2]
  exact (h.2 x hx).1 o t z h1 h2 h3 E
def Sq (E : Env) (st : St γ) (ids : List Nat) (m B : Nat) (w0 : Beg) (w : World) : Prop := Cls E st.n (hide ids m st.heap) B w0 w
theorem CD.sq {D : List (Nat × Nat)} (h : CD cx ops E st B w0 D w) : Sq E st ids m B w0 w := ⟨h.1.1.hide, h.1.2⟩
/-- Of a variable of the region. -/
structure AlOK (cx : Cx γ) (ops : Array Oper) (nt k : Nat) : Prop where
  op : ∃ o t z d, ops[k]? = some o ∧ o.op = .alloc t ∧ o.guard = none ∧ o.dst = some d ∧ d < nt ∧ zeroV cx.P t = some z
  apart : ∀ o j oj, ops[k]? = some o → ops[j]? = some oj → j ≠ k → (∀ e ∈ oj.after, Region.binds .any e = true → e.on ≠ k) → o.apart ops oj = true
structure Inv (cx : Cx γ) (ops : Array Oper) (al : List Nat) (B : Nat) (w0 : Beg) (listed : Array Bool) (E : Env) (st : St γ) (a : Act) (D : List (Nat × Nat)) : Prop where
  rep : ∀ w, Cls E st.n st.heap B w0 w → Rep E st B w0 w a
  ex : ∃ w, CD cx ops E st B w0 D w
  dk : ∀ x ∈ D, Dk cx ops B E st a x.1 x.2
  nd : (D.map Prod.fst).Nodup
  sub : ∀ x ∈ D, x.1 ∈ al
  sep : D.Pairwise (fun x y => x.2 ≠ y.2)
  tmn : ∀ k ∈ al, ∀ o d, ops[k]? = some o → o.dst = some d → look st.tmps d = none
  rd : ∀ k ∈ al, k ∈ Region.ready .any ops listed
  size : listed.size = ops.size
variable {listed : Array Bool} {D : List (Nat × Nat)}
theorem Inv.len (h : Inv cx ops al B w0 listed E st a D) : D.length ≤ al.length := by
  have := nodup_le _ al h.nd (fun x hx => by
    obtain ⟨y, hy, rfl⟩ := List.mem_map.1 hx
    exact h.sub y hy)
  simpa using this
/-- Not all of them are there yet, or all are. -/
theorem Inv.more (h : Inv cx ops al B w0 listed E st a D) (hnd : al.Nodup) (hlt : D.length < al.length) : ∃ k ∈ al, k ∉ D.map Prod.fst := by
  apply Classical.byContradiction
  intro hno
  have : ∀ k ∈ al, k ∈ D.map Prod.fst := fun k hk => Classical.byContradiction fun h' => hno ⟨k, hk, h'⟩
  have := nodup_le al _ hnd this
  simp at this
  omega
theorem Inv.all (h : Inv cx ops al B w0 listed E st a D) (hge : al.length ≤ D.length) : ∀ k, k ∈ D.map Prod.fst ↔ k ∈ al := by
  intro k
  refine ⟨fun hk => ?_, fun hk => ?_⟩
  · obtain ⟨y, hy, rfl⟩ := List.mem_map.1 hk
    exact h.sub y hy
  · apply Classical.byContradiction
    intro hno
    have := nodup_le (k :: D.map Prod.fst) al (List.nodup_cons.2 ⟨hno, h.nd⟩) (fun x hx => by
      rcases List.mem_cons.1 hx with rfl | hx
      · exact hk
      · obtain ⟨y, hy, rfl⟩ := List.mem_map.1 hx
        exact h.sub y hy)
    simp at this
    omega
theorem put_get_same {a : Act} {d : Nat} {v : Value} (h : a.tmps[d]? = some v) : a.put (some d) v = a := by
  simp only [Act.put]
  have : a.tmps.setIfInBounds d v = a.tmps := by
    apply Array.ext_getElem?
    intro i
    by_cases hi : d = i
    · subst hi
      rw [h]
      have := (Array.getElem?_eq_some_iff.1 h).1
      simp [Array.getElem?_setIfInBounds, this]
    · rw [Array.getElem?_setIfInBounds_ne hi]
  rw [this]
theorem put_get_other {a : Act} {e : Nat} {x : Option Nat} {v : Value} (h : x ≠ some e) : (a.put x v).tmps[e]? = a.tmps[e]? := by
  cases x with
  | none => rfl
  | some d => exact Array.getElem?_setIfInBounds_ne (fun e' => h (by rw [e']))
/-- A variable comes up. -/
theorem al_step (hI : Inv cx ops al B w0 listed E st a D) {j : Nat} (hal : ∀ k ∈ al, AlOK cx ops st.nt k) (hj : j ∈ al) (hjD : j ∉ D.map Prod.fst) {w : World} (hw : CD cx ops E st B w0 D w) {K : Act → World → Prop}
    (hK : ∀ a' g, Inv cx ops al B w0 listed E st a' ((j, g) :: D) → ∀ w', CD cx ops E st B w0 ((j, g) :: D) w' → K a' w') : wpOp cx.P ops Q j K a w := by
  obtain ⟨o, t, z, d, ho, hop, hgd, hd, hdn, hz⟩ := (hal j hj).op
  have hR := hI.rep w hw.1
  unfold wpOp
  simp only [ho, Region.wanted, hgd, if_true]
  left
  obtain ⟨h1, h2⟩ := run_zeroV (E := E) hz st.n w
  have hcells := SV.den_cells h2
  unfold Oper.wp execOp
  simp only [hop, Instr.alloc, Sem.run_bind, h1, Result.andThen_ok, newVar, newRow, run_newObj, Sem.run_pure, hcells, Oper.upon, hd]
  have hdistinct : ∀ k ∈ al, k ≠ j → ∀ o' d', ops[k]? = some o' → o'.dst = some d' → d' ≠ d := by
    intro k hk hkj o' d' ho' hd' e
    subst e
    have hap := (hal j hj).apart o k o' ho ho' hkj (fun e he hb heq => by
      obtain ⟨_, o'', ho'', hall⟩ := mem_ready.1 (hI.rd k hk)
      rw [ho'] at ho''
      injection ho'' with e'
      subst e'
      have h3 := hall e he hb
      rw [heq] at h3
      have h4 := (mem_ready.1 (hI.rd j hj)).1
      rw [Array.getD_eq_getD_getElem?] at h3 h4
      cases hx : listed[j]? with
      | none => rw [hx] at h3; cases h3
      | some b => rw [hx] at h3 h4; simp at h3 h4; rw [h3] at h4; cases h4)
    exact (Oper.apart_spec hap).2.1 d' hd hd'
  have hclass : CD cx ops E st B w0 ((j, w.heap.size) :: D) (w.alloc (.cells (z.cells.map (SC.den E)).toArray t)) := by
    have hb : Below w.heap.size w (w.alloc (.cells (z.cells.map (SC.den E)).toArray t)) := Below.alloc (Below.refl _ _) (Nat.le_refl _) _
    obtain ⟨c1, c2⟩ := CD.cl w _ hw hb
    refine ⟨c1, fun x hx => ?_⟩
    rcases List.mem_cons.1 hx with rfl | hx
    · refine ⟨fun o' t' z' h3 h4 h5 E1 => ?_, by simp⟩
      rw [ho] at h3
      injection h3 with h3
      subst h3
      rw [hop] at h4
      injection h4 with h4
      subst h4
      rw [hz] at h5
      injection h5 with h5
      subst h5
      have e1 := SV.den_cells (run_zeroV (E := E1) hz 0 w).2
      have e2 : z.den E1 = z.den E := by
        have k1 := (run_zeroV (E := E1) hz 0 w).1
        rw [(run_zeroV (E := E) hz 0 w).1] at k1
        injection k1 with k1 _
        exact k1.symm
      rw [e2, hcells] at e1
      have : (z.cells.map (SC.den E1)).toArray = (z.cells.map (SC.den E)).toArray := e1.symm
      rw [this]
      exact heap_alloc_new _ _
    · exact c2 x hx
  refine hK _ _ ⟨?_, ⟨_, hclass⟩, ?_, ?_, ?_, ?_, hI.tmn, hI.rd, hI.size⟩ _ hclass
  · intro w' hw'
    have hR' := hI.rep w' hw'
    refine ⟨⟨by simp [Act.put, hR'.tr.size], fun e x hx => ?_, hR'.tr.ok, hR'.tr.defs⟩, hR'.hr, hR'.below, hR'.base, hR'.ag, hR'.le, hR'.fresh⟩
    rw [put_get_other]
    · exact hR'.tr.get e x hx
    · intro e'
      injection e' with e'
      subst e'
      rw [hI.tmn j hj o d ho hd] at hx
      cases hx
  · intro x hx
    rcases List.mem_cons.1 hx with rfl | hx
    · refine ⟨fun o' d' h3 h4 => ?_, hw.1.2.2, fun id b x hl hb hx => ?_⟩
      · rw [ho] at h3
        injection h3 with h3
        subst h3
        rw [hd] at h4
        injection h4 with h4
        subst h4
        have : d < a.tmps.size := by rw [hR.tr.size]; exact hdn
        simp [Act.put, Array.getElem?_setIfInBounds, this]
      · exact Nat.ne_of_lt (hw.1.1.stands hl hb hx)
    · have hxk := hI.dk x hx
      refine ⟨fun o' d' h3 h4 => ?_, hxk.base, hxk.ne⟩
      rw [put_get_other]
      · exact hxk.tm o' d' h3 h4
      · intro e
        injection e with e
        exact hdistinct x.1 (hI.sub x hx) (fun e' => hjD (List.mem_map.2 ⟨x, hx, e'⟩)) o' d' h3 h4 e.symm
  · simp only [List.map_cons]
    exact List.nodup_cons.2 ⟨hjD, hI.nd⟩
  · intro x hx
    rcases List.mem_cons.1 hx with rfl | hx
    · exact hj
    · exact hI.sub x hx
  · refine List.pairwise_cons.2 ⟨fun x hx => ?_, hI.sep⟩
    exact (Nat.ne_of_lt (hw.2 x hx).2).symm
end
end Go.Sx
