/- The executor's answers are the model's: the operations that leave memory alone. -/
import Derived.Test.YtcjiokiafdagdaaSxA
import Derived.Laws.CopyRow
namespace Go.Sx
open Go.RowKit
set_option linter.unusedVariables false
set_option linter.unusedSimpArgs false


/-- The same addresses below n. -/
structure Ag (n : Nat) (E E' : Env) : Prop where
  addr : ∀ i, i < n → E'.addr i = E.addr i
  len : ∀ i, i < n → E'.len i = E.len i
  cap : ∀ i, i < n → E'.cap i = E.cap i
theorem Ag.refl (n : Nat) (E : Env) : Ag n E E := ⟨fun _ _ => rfl, fun _ _ => rfl, fun _ _ => rfl⟩
theorem Ag.trans {n : Nat} {a b c : Env} (h : Ag n a b) (k : Ag n b c) : Ag n a c :=
  ⟨fun i hi => (k.addr i hi).trans (h.addr i hi), fun i hi => (k.len i hi).trans (h.len i hi), fun i hi => (k.cap i hi).trans (h.cap i hi)⟩
theorem Ag.mono {n m : Nat} {a b : Env} (h : Ag n a b) (hm : m ≤ n) : Ag m a b :=
  ⟨fun i hi => h.addr i (by omega), fun i hi => h.len i (by omega), fun i hi => h.cap i (by omega)⟩
def SC.okn (E : Env) (n : Nat) : SC → Prop
  | .v x => x.oneCell' = true
  | .p id _ => id < n ∧ ∃ g, E.addr id = some ⟨g, 0, none⟩
  | .q id _ _ _ => id < n ∧ ∃ a, E.addr id = some a
  | .s id _ => id < n ∧ ∃ g, E.addr id = some ⟨g, 0, none⟩
  | .r id => id < n
def SV.okn (E : Env) (n : Nat) : SV → Prop
  | .c x => x.okn E n
  | .a cs => ∀ c ∈ cs, c.okn E n
def ST.okn (E : Env) (n : Nat) : ST → Prop
  | .v x => x.okn E n
  | .t xs => ∀ x ∈ xs, x.okn E n
theorem SC.okn.ag {n m : Nat} {E E' : Env} {x : SC} (h : x.okn E n) (hm : n ≤ m) (hA : Ag n E E') : x.okn E' m := by
  cases x with
  | v x => exact h
  | p id o => exact ⟨by have := h.1; omega, by rw [hA.addr _ h.1]; exact h.2⟩
  | q id sz i j => exact ⟨by have := h.1; omega, by rw [hA.addr _ h.1]; exact h.2⟩
  | s id l => exact ⟨by have := h.1; omega, by rw [hA.addr _ h.1]; exact h.2⟩
  | r id => exact Nat.lt_of_lt_of_le h hm
theorem SV.okn.ag {n m : Nat} {E E' : Env} {x : SV} (h : x.okn E n) (hm : n ≤ m) (hA : Ag n E E') : x.okn E' m := by
  cases x with
  | c x => exact SC.okn.ag (x := x) h hm hA
  | a cs => exact fun c hc => (h c hc).ag hm hA
theorem ST.okn.ag {n m : Nat} {E E' : Env} {x : ST} (h : x.okn E n) (hm : n ≤ m) (hA : Ag n E E') : x.okn E' m := by
  cases x with
  | v x => exact SV.okn.ag (x := x) h hm hA
  | t xs => exact fun c hc => SV.okn.ag (h c hc) hm hA
theorem SC.okn.lt {n : Nat} {E E' : Env} {x : SC} (h : x.okn E n) (hA : Ag n E E') : x.den E' = x.den E := by
  cases x with
  | v x => rfl
  | p id o => simp only [SC.den]; rw [hA.addr _ h.1]
  | q id sz i j => simp only [SC.den]; rw [hA.addr _ h.1]
  | s id l => simp only [SC.den]; rw [hA.addr _ h.1]
  | r id => simp only [SC.den]; rw [hA.addr _ h, hA.len _ h, hA.cap _ h]
theorem SC.den_ag {n : Nat} {E E' : Env} {x : SC} (h : x.okn E n) (hA : Ag n E E') : x.den E' = x.den E := h.lt hA
theorem map_den_ag {n : Nat} {E E' : Env} {cs : List SC} (h : ∀ c ∈ cs, c.okn E n) (hA : Ag n E E') : cs.map (SC.den E') = cs.map (SC.den E) :=
  List.map_congr_left fun c hc => SC.den_ag (h c hc) hA
theorem SV.den_ag {n : Nat} {E E' : Env} {x : SV} (h : x.okn E n) (hA : Ag n E E') : x.den E' = x.den E := by
  cases x with
  | c x => exact SC.den_ag (x := x) h hA
  | a cs => simp only [SV.den]; rw [map_den_ag h hA]
theorem ST.den_ag {n : Nat} {E E' : Env} {x : ST} (h : x.okn E n) (hA : Ag n E E') : x.den E' = x.den E := by
  cases x with
  | v x => exact SV.den_ag (x := x) h hA
  | t xs => simp only [ST.den]; rw [List.map_congr_left fun c hc => SV.den_ag (h c hc) hA]
theorem SC.den_one {n : Nat} {E : Env} {x : SC} (h : x.okn E n) : (x.den E).oneCell' = true := by
  cases x <;> simp only [SC.okn] at h <;> first | exact h | rfl
theorem cells_one {v : Value} (h : v.oneCell' = true) : v.cells = #[v] := by
  cases v <;> first | rfl | simp [Value.oneCell'] at h
theorem SV.den_cells {n : Nat} {E : Env} {x : SV} (h : x.okn E n) : (x.den E).cells = (x.cells.map (SC.den E)).toArray := by
  cases x with
  | c x => simp only [SV.den, SV.cells, List.map_cons, List.map_nil]; exact cells_one (SC.den_one h)
  | a cs => rfl
theorem SV.okn_cells {E : Env} {n : Nat} {x : SV} (h : x.okn E n) : ∀ c ∈ x.cells, c.okn E n := by
  cases x with
  | c x => intro c hc; simp [SV.cells] at hc; subst hc; exact h
  | a cs => exact h
section
variable {γ : Type} [Gh γ]
/-- A row that came from outside, as it is read. -/
def ExtAt (E : Env) (id : Nat) (g : γ) (w : World) : Prop :=
  E.len id = Gh.len g ∧ ∀ i, i < Gh.len g → ∃ a, E.addr id = some a ∧ ∀ j c, (Gh.row g i)[j]? = some c → w.cell? (a.add (i * Gh.sz g + j)) = some (c.den E)
def Blk.there : Blk γ → Prop
  | .gone => False
  | .own _ _ => True
  | .ro _ _ => True
  | .ext g => 0 < Gh.len g ∧ 0 < Gh.sz g
/-- What the symbolic heap says of the world. -/
structure HR (E : Env) (n : Nat) (H : List (Nat × Blk γ)) (B : Nat) (w : World) : Prop where
  own : ∀ id ty cs, look H id = some (.own ty cs) → ∃ g, E.addr id = some ⟨g, 0, none⟩ ∧ B ≤ g ∧ w.heap[g]? = some (.cells (cs.map (SC.den E)).toArray ty (0, 0))
  ro : ∀ id ty cs, look H id = some (.ro ty cs) → ∃ g, E.addr id = some ⟨g, 0, none⟩ ∧ w.heap[g]? = some (.cells (cs.map (SC.den E)).toArray ty (0, 0))
  ext : ∀ id g, look H id = some (.ext g) → ExtAt E id g w
  sep : ∀ i j ty cs b x y, i ≠ j → look H i = some (.own ty cs) → look H j = some b → b.there → E.addr i = some x → E.addr j = some y → x.block ≠ y.block
  ids : ∀ id b, look H id = some b → id < n
  okc : ∀ id ty cs, look H id = some (.own ty cs) ∨ look H id = some (.ro ty cs) → ∀ c ∈ cs, c.okn E n
structure TR (E : Env) (st : St γ) (a : Act) : Prop where
  size : a.tmps.size = st.nt
  get : ∀ d x, look st.tmps d = some x → a.tmps[d]? = some (x.den E)
  ok : ∀ d x, look st.tmps d = some x → x.okn E st.n
  defs : a.defers = []

def OR.gives (r : OR) (x : ST) : Prop := r = .ok x ∨ r = .chk true x

variable {P : Program} {E : Env} {st : St γ} {a : Act} {w : World} {B : Nat}
theorem ofValue_sound {v : Value} {y : SV} (h : ofValue v = some y) (n : Nat) : y.den E = v ∧ y.okn E n := by
  unfold ofValue at h
  cases v with
  | agg cs =>
    simp only [frc_eq] at h
    split at h
    · rename_i hall
      injection h with h
      subst h
      refine ⟨?_, ?_⟩
      · simp only [SV.den, List.map_map]
        have : (SC.den E ∘ SC.v) = id := by funext x; rfl
        rw [this, List.map_id]
      · intro c hc
        simp only [List.mem_map] at hc
        obtain ⟨x, hx, rfl⟩ := hc
        exact (List.all_eq_true.1 hall) x hx
    · cases h
  | tuple vs => cases h
  | _ => injection h with h; subst h; exact ⟨rfl, rfl⟩
omit [Gh γ] in
theorem evalO_sound (hT : TR E st a) {o : Operand} {x : ST} (h : evalO st o = some x) : a.eval o = x.den E ∧ x.okn E st.n := by
  cases o with
  | tmp t =>
    simp only [evalO] at h
    refine ⟨?_, hT.ok _ _ h⟩
    have := hT.get _ _ h
    simp [Act.eval, this]
  | const v =>
    simp only [evalO] at h
    split at h
    · rename_i y hy
      injection h with h
      subst h
      obtain ⟨h1, h2⟩ := ofValue_sound (E := E) hy st.n
      exact ⟨h1.symm, h2⟩
    · cases h
  | global g => cases h
  | func f =>
    simp only [evalO] at h
    injection h with h
    subst h
    exact ⟨rfl, rfl⟩
omit [Gh γ] in
theorem evalV_sound (hT : TR E st a) {o : Operand} {x : SV} (h : evalV st o = some x) : a.eval o = x.den E ∧ x.okn E st.n := by
  unfold evalV at h
  split at h
  · rename_i y hy
    injection h with h
    subst h
    exact evalO_sound hT hy
  · cases h
omit [Gh γ] in
theorem evalVs_sound (hT : TR E st a) : ∀ {l : List Operand} {xs : List SV}, evalVs st l = some xs → l.map a.eval = xs.map (SV.den E) ∧ ∀ x ∈ xs, x.okn E st.n
  | [], xs, h => by
    simp only [evalVs] at h
    injection h with h
    subst h
    exact ⟨rfl, fun _ h => by cases h⟩
  | o :: l, xs, h => by
    simp only [evalVs] at h
    split at h
    · rename_i y hy
      split at h
      · rename_i ys hys
        injection h with h
        subst h
        obtain ⟨h1, h2⟩ := evalV_sound hT hy
        obtain ⟨h3, h4⟩ := evalVs_sound hT hys
        refine ⟨by simp [h1, h3], fun x hx => ?_⟩
        cases hx with
        | head => exact h2
        | tail _ hx => exact h4 x hx
      · cases h
    · cases h
theorem run_isAgg {t : TypeId} {b : Bool} (h : aggB (P.underlying t) = some b) (w : World) : (isAgg t).run P w = .ok b w := by
  cases hu : P.underlying t with
  | none => rw [hu] at h; cases h
  | some d =>
    rw [hu] at h
    unfold isAgg
    simp only [Sem.run_bind, run_underlying hu, Result.andThen_ok]
    cases d <;> simp only [aggB] at h <;> injection h with h <;> subst h <;> rfl
theorem run_sizeOf {t : TypeId} {i : TypeInfo} (h : P.info? t = some i) (w : World) : (sizeOf t).run P w = .ok i.size w := by
  simp [sizeOf, typeInfo, h]
theorem run_zeroV {t : TypeId} {z : SV} (h : zeroV P t = some z) (n : Nat) (w : World) : (zeroValue t).run P w = .ok (z.den E) w ∧ z.okn E n := by
  unfold zeroV at h
  split at h
  · rename_i i hi
    split at h
    · rename_i v hv
      obtain ⟨h1, h2⟩ := ofValue_sound (E := E) h n
      refine ⟨?_, h2⟩
      rw [h1]
      simp [zeroValue, typeInfo, hi, hv]
    · cases h
  · cases h
theorem addr_add (g o j : Nat) : (⟨g, o, none⟩ : Addr).add j = ⟨g, o + j, none⟩ := by
  unfold Addr.add
  split <;> simp_all
theorem add_twice (a : Addr) (x y : Nat) : (a.add x).add y = a.add (x + y) := by
  unfold Addr.add
  by_cases hy : y = 0
  · subst hy; simp
  · by_cases hx : x = 0
    · subst hx; simp [hy]
    · have : x + y ≠ 0 := by omega
      simp [hx, hy, this]
      omega
theorem drop_take_den (cs : List SC) (off k : Nat) : (((cs.drop off).take k).map (SC.den E)) = (((cs.map (SC.den E)).drop off).take k) := by
  rw [List.map_take, List.map_drop]
theorem mem_drop_take {cs : List SC} {off k : Nat} {c : SC} (h : c ∈ (cs.drop off).take k) : c ∈ cs := List.mem_of_mem_drop (List.mem_of_mem_take h)
/-- A load out of a block that is known whole. -/
theorem load_known {t : TypeId} {i : TypeInfo} {cs : List SC} {g off : Nat} {ty : TypeId} {x : ST} {n : Nat} (hi : P.info? t = some i) (hg : w.heap[g]? = some (.cells (cs.map (SC.den E)).toArray ty (0, 0)))
    (hok : ∀ c ∈ cs, c.okn E n)
    (h : (match aggB (P.underlying t) with
      | some true => if off + i.size ≤ cs.length then frc ((cs.drop off).take i.size) (fun l => .ok (.v (.a l))) else .bad
      | some false => match cs[off]? with
        | some c => .ok (.v (.c c))
        | none => .bad
      | none => .bad : OR).gives x) : (loadVar t ⟨g, off, none⟩).run P w = .ok (x.den E) w ∧ x.okn E n := by
  have hcell : ∀ j c, cs[j]? = some c → w.cell? ⟨g, j, none⟩ = some (c.den E) := by
    intro j c hc
    rw [cell_of_row w g j _ ty _ hg]
    simp [hc]
  cases hb : aggB (P.underlying t) with
  | none => rw [hb] at h; rcases h with h | h <;> cases h
  | some b =>
    rw [hb] at h
    cases b with
    | true =>
      simp only [frc_eq] at h
      split at h
      · rename_i hle
        rcases h with h | h
        · injection h with h
          subst h
          refine ⟨?_, fun c hc => hok c (mem_drop_take hc)⟩
          unfold loadVar
          simp only [Sem.run_bind, run_isAgg hb, Result.andThen_ok, if_true, run_sizeOf hi]
          have hl : (((cs.map (SC.den E)).drop off).take i.size).length = i.size := by simp; omega
          have := run_loadCells_list (P := P) w ⟨g, off, none⟩ (((cs.map (SC.den E)).drop off).take i.size) (fun j v hv => by
            rw [addr_add]
            rw [List.getElem?_take] at hv
            split at hv
            · rw [List.getElem?_drop, List.getElem?_map] at hv
              cases hc : cs[off + j]? with
              | none => rw [hc] at hv; cases hv
              | some c => rw [hc] at hv; rw [hcell _ c hc]; exact hv
            · cases hv)
          rw [hl] at this
          rw [this]
          simp only [Result.andThen_ok, Sem.run_pure, ST.den, SV.den, drop_take_den]
        · cases h
      · rcases h with h | h <;> cases h
    | false =>
      simp only at h
      cases hc : cs[off]? with
      | none => rw [hc] at h; rcases h with h | h <;> cases h
      | some c =>
        rw [hc] at h
        rcases h with h | h
        · injection h with h
          subst h
          refine ⟨?_, hok c (List.mem_of_getElem? hc)⟩
          unfold loadVar
          simp [run_isAgg hb, hcell _ _ hc, ST.den, SV.den]
        · cases h
theorem loadV_sound (hH : HR E st.n st.heap B w) {t : TypeId} {y : SV} {x : ST} (h : (loadV P st.heap t y).gives x) : (Instr.loadAt t (y.den E)).run P w = .ok (x.den E) w ∧ x.okn E st.n := by
  unfold loadV at h
  split at h
  · rename_i id off i hi
    cases hl : look st.heap id with
    | none => rw [hl] at h; rcases h with h | h <;> cases h
    | some b =>
      rw [hl] at h
      cases b with
      | gone => rcases h with h | h <;> cases h
      | own ty cs =>
        obtain ⟨g, hg, _, hw⟩ := hH.own _ _ _ hl
        have := load_known (E := E) (off := off) hi hw (hH.okc _ _ _ (.inl hl)) h
        simp only [SV.den, SC.den, hg, Option.map_some, addr_add, Nat.zero_add]
        simpa [Instr.loadAt, Instr.sureAddr] using this
      | ro ty cs =>
        obtain ⟨g, hg, hw⟩ := hH.ro _ _ _ hl
        have := load_known (E := E) (off := off) hi hw (hH.okc _ _ _ (.inr hl)) h
        simp only [SV.den, SC.den, hg, Option.map_some, addr_add, Nat.zero_add]
        simpa [Instr.loadAt, Instr.sureAddr] using this
      | ext g => rcases h with h | h <;> cases h
  · rename_i id sz e j i hi
    cases hl : look st.heap id with
    | none => rw [hl] at h; rcases h with h | h <;> cases h
    | some b =>
      rw [hl] at h
      cases b with
      | gone => rcases h with h | h <;> cases h
      | own ty cs => rcases h with h | h <;> cases h
      | ro ty cs => rcases h with h | h <;> cases h
      | ext g =>
        simp only [frc_eq] at h
        split at h
        · rename_i hsz
          subst hsz
          have hx := (hH.ext _ _ hl).2
          have hrow : ∀ c ∈ Gh.row g e, c.okn E st.n := fun c hc => by
            obtain ⟨z, rfl, hz⟩ := Gh.row_one g e c hc
            exact hz
          cases hb : aggB (P.underlying t) with
          | none => rw [hb] at h; rcases h with h | h <;> cases h
          | some b =>
            rw [hb] at h
            cases b with
            | true =>
              simp only at h
              split at h
              · rename_i hle
                rcases h with h | h
                · cases h
                · injection h with h1 h2
                  subst h2
                  have hlt : e < Gh.len g := of_decide_eq_true h1
                  obtain ⟨ad, had, hc⟩ := hx e hlt
                  refine ⟨?_, fun c hc => hrow c (mem_drop_take hc)⟩
                  have hrl := Gh.row_len g e
                  have hl : ((((Gh.row g e).map (SC.den E)).drop j).take i.size).length = i.size := by simp; omega
                  have := run_loadCells_list (P := P) w (ad.add (e * Gh.sz g + j)) ((((Gh.row g e).map (SC.den E)).drop j).take i.size) (fun k v hv => by
                    rw [List.getElem?_take] at hv
                    split at hv
                    · rw [List.getElem?_drop, List.getElem?_map] at hv
                      cases hc2 : (Gh.row g e)[j + k]? with
                      | none => rw [hc2] at hv; cases hv
                      | some c =>
                        rw [hc2] at hv
                        have h3 := hc _ _ hc2
                        have h4 : (ad.add (e * Gh.sz g + j)).add k = ad.add (e * Gh.sz g + (j + k)) := by
                          rw [add_twice, Nat.add_assoc]
                        rw [h4, h3]
                        exact hv
                    · cases hv)
                  rw [hl] at this
                  simp only [SV.den, SC.den, had, Option.map_some, Instr.loadAt, Instr.sureAddr]
                  unfold loadVar
                  simp only [Sem.run_bind, Sem.run_pure, Result.andThen_ok, run_isAgg hb, if_true, run_sizeOf hi, this, ST.den, SV.den, drop_take_den]
              · rcases h with h | h <;> cases h
            | false =>
              simp only at h
              cases hc2 : (Gh.row g e)[j]? with
              | none => rw [hc2] at h; rcases h with h | h <;> cases h
              | some c =>
                rw [hc2] at h
                rcases h with h | h
                · cases h
                · injection h with h1 h2
                  subst h2
                  have hlt : e < Gh.len g := of_decide_eq_true h1
                  obtain ⟨ad, had, hc⟩ := hx e hlt
                  refine ⟨?_, hrow c (List.mem_of_getElem? hc2)⟩
                  simp only [SV.den, SC.den, had, Option.map_some, Instr.loadAt, Instr.sureAddr]
                  unfold loadVar
                  simp [run_isAgg hb, hc _ _ hc2, ST.den, SV.den]
        · rcases h with h | h <;> cases h
  · rcases h with h | h <;> cases h
end
end Go.Sx
