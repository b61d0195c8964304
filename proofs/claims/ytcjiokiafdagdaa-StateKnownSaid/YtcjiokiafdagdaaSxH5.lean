/- The executor's answers are the model's: whole texts. -/
import Derived.Test.YtcjiokiafdagdaaSxH4
namespace Go.Sx
open Go.RowKit
set_option linter.unusedVariables false
set_option linter.unusedSimpArgs false
set_option linter.unusedSectionVars false
section
variable {γ : Type} [Gh γ] {cx : Cx γ} {E : Env} {st : St γ} {a : Act} {w : World} {w0 : Beg} {B n m nt : Nat} {Q : Exit → Act → World → Prop} {ids : List Nat} {ops : Array Oper} {al : List Nat}
variable {listed : Array Bool} {D : List (Nat × Nat)}
/-- The early variables are laid into the symbolic state. -/
theorem adopt {K : St γ → Prop} {C : World → Prop} (hsep : ∀ x ∈ D, ∀ y ∈ D, x.1 ≠ y.1 → x.2 ≠ y.2) : ∀ (l : List Nat) (st : St γ) (E : Env), execAl cx ops l st K → (∀ k ∈ l, ∃ g, (k, g) ∈ D) → l.Nodup → (∀ k ∈ l, AlOK cx ops nt k) → st.nt = nt →
    (∀ w, Cls E st.n st.heap B w0 w → Rep E st B w0 w a) → (∀ w, C w → Cls E st.n st.heap B w0 w ∧ ∀ x ∈ D, Dw cx ops x.1 x.2 w) → (∃ w, C w) → (∀ k ∈ l, ∀ g, (k, g) ∈ D → Dk cx ops B E st a k g) →
    ∃ (E2 : Env) (st2 : St γ), K st2 ∧ st2.nt = nt ∧ (∀ w, Cls E2 st2.n st2.heap B w0 w → Rep E2 st2 B w0 w a) ∧ (∀ w, C w → Cls E2 st2.n st2.heap B w0 w) ∧ Ag st.n E E2 ∧ (∀ id b, look st.heap id = some b → look st2.heap id = some b)
  | [], st, E, h, _, _, _, hnt, hrep, hC, _, _ => ⟨E, st, h, hnt, hrep, fun w hw => (hC w hw).1, Ag.refl _ _, fun _ _ h => h⟩
  | k :: r, st, E, h, hD, hnd, hal, hnt, hrep, hC, hex, hdk => by
    obtain ⟨o, t, z, d, ho, hop, hgd, hd, hdn, hz⟩ := (hal k (by simp)).op
    obtain ⟨g, hg⟩ := hD k (by simp)
    have hk := hdk k (by simp) g hg
    obtain ⟨w1, hw1⟩ := hex
    have hR1 := hrep w1 (hC w1 hw1).1
    simp only [execAl, ho] at h
    unfold step at h
    simp only [hop, hz, newK_eq, putK_eq, frc_eq, hd] at h
    have hA := E.set_ag st.n (some ⟨g, 0, none⟩) 0 0
    have hzo := SV.okn_cells (run_zeroV (E := E) hz st.n w1).2
    have hdb : Nat.blt d st.nt = true := by rw [hnt]; simpa using hdn
    have est : (st.new (.own t z.cells)).put (some d) (.v (.c (.p st.n 0))) = ⟨st.nt, (d, .v (.c (.p st.n 0))) :: st.tmps, st.n + 1, (st.n, .own t z.cells) :: st.heap⟩ := by
      simp only [St.put, St.new, hdb]
    rw [est] at h
    have hT1 : TR (E.set st.n (some ⟨g, 0, none⟩) 0 0) (⟨st.nt, (d, .v (.c (.p st.n 0))) :: st.tmps, st.n + 1, (st.n, .own t z.cells) :: st.heap⟩ : St γ) a := by
      have h2 : TR (E.set st.n (some ⟨g, 0, none⟩) 0 0) (st.new (.own t z.cells)) a := hR1.tr.ag (Nat.le_succ _) hA
      have h3 := h2.put (d := some d) (x := .v (.c (.p st.n 0))) ⟨Nat.lt_succ_self _, g, by simp [Env.set]⟩
      rw [est] at h3
      have h4 : (ST.v (.c (.p st.n 0))).den (E.set st.n (some ⟨g, 0, none⟩) 0 0) = .pointer (some ⟨g, 0, none⟩) := by simp [ST.den, SV.den, SC.den, Env.set, Addr.add]
      rw [h4, put_get_same (hk.tm o d ho hd)] at h3
      exact h3
    obtain ⟨hkr, hnr⟩ := List.nodup_cons.1 hnd
    have old : ∀ {id b}, look st.heap id = some b → look ((st.n, Blk.own t z.cells) :: st.heap) id = some b := fun {id b} hl => by
      have := hR1.hr.ids _ _ hl
      rw [look_cons, if_neg (by omega)]
      exact hl
    obtain ⟨E2, st2, h1, h2, h3, h4, h5, h6⟩ := adopt hsep r _ (E.set st.n (some ⟨g, 0, none⟩) 0 0) h (fun k' hk' => hD k' (by simp [hk'])) hnr (fun k' hk' => hal k' (by simp [hk'])) hnt
      (fun w hw => ⟨hT1, hw.1, hw.2.1, hw.2.2, hR1.ag.trans (hA.mono hR1.le), Nat.le_succ_of_le hR1.le, fun id gg ad hl h0 h1 => by
        rw [look_cons] at hl
        split at hl
        · injection hl with hl; cases hl
        · rw [hA.addr _ (hR1.hr.ids _ _ hl)] at h1
          exact hR1.fresh id gg ad hl h0 h1⟩)
      (fun w hw => ⟨⟨(hC w hw).1.1.adopt hk.base ((hC w hw).2 _ hg o t z ho hop hz E) hk.ne hzo, (hC w hw).1.2⟩, (hC w hw).2⟩) ⟨w1, hw1⟩
      (fun k' hk' g' hg' => by
        have hkk := hdk k' (by simp [hk']) g' hg'
        refine ⟨hkk.tm, hkk.base, fun id b x hl hb hx => ?_⟩
        rw [look_cons] at hl
        split at hl
        · rename_i e
          subst e
          have hx' : x = ⟨g, 0, none⟩ := by simpa [Env.set] using hx.symm
          subst hx'
          exact hsep _ hg _ hg' (fun e => hkr (by dsimp only at e; rw [e]; exact hk'))
        · rw [hA.addr _ (hR1.hr.ids _ _ hl)] at hx
          exact hkk.ne id b x hl hb hx)
    exact ⟨E2, st2, h1, h2, h3, h4, hA.trans (h5.mono (Nat.le_succ _)), fun id b hl => h6 id b (old hl)⟩
theorem phaseA (hsel : Region.noSelect ops = true) (hnd : al.Nodup) (hal : ∀ k ∈ al, AlOK cx ops nt k) (hlast : ∀ k ∈ al, Region.ready .any ops (setAll listed (al.filter (· != k))) = [k]) (f0 : Nat) {K : St γ → Prop} :
    ∀ (N : Nat) (E : Env) (st : St γ) (a : Act) (D : List (Nat × Nat)), al.length - D.length = N → st.nt = nt → Inv cx ops al B w0 listed E st a D → execAl cx ops al st K →
      (∀ (E' : Env) (st' : St γ) (a' : Act), st'.nt = nt → (∀ w, Cls E' st'.n st'.heap B w0 w → Rep E' st' B w0 w a') → (∃ w, Cls E' st'.n st'.heap B w0 w) → K st' → wpAnyC cx.P ops Q (Sq E' st' ids m B w0) f0 (setAll listed al) (Cls E' st'.n st'.heap B w0) a') →
      wpAnyC cx.P ops Q (Sq E st ids m B w0) (N + f0) (setAll listed (D.map Prod.fst)) (CD cx ops E st B w0 D) a := by
  intro N
  induction N with
  | zero =>
    intro E st a D hN hnt hI h hfin
    have hall := hI.all (by omega)
    obtain ⟨w1, hw1⟩ := hI.ex
    have hR1 := hI.rep w1 hw1.1
    have hsep : ∀ x ∈ D, ∀ y ∈ D, x.1 ≠ y.1 → x.2 ≠ y.2 := by
      have hp := hI.sep
      intro x hx y hy hne
      have key : ∀ {l : List (Nat × Nat)}, l.Pairwise (fun x y => x.2 ≠ y.2) → ∀ x ∈ l, ∀ y ∈ l, x.1 ≠ y.1 → x.2 ≠ y.2 := by
        intro l hl
        induction hl with
        | nil => intro x hx; cases hx
        | cons h1 h2 ih =>
          intro x hx y hy hne
          rcases List.mem_cons.1 hx with e1 | hx1
          · rcases List.mem_cons.1 hy with e2 | hy1
            · rw [e1, e2] at hne
              exact absurd rfl hne
            · rw [e1]
              exact h1 y hy1
          · rcases List.mem_cons.1 hy with e2 | hy1
            · rw [e2]
              exact (h1 x hx1).symm
            · exact ih x hx1 y hy1 hne
      exact key hp x hx y hy hne
    obtain ⟨E2, st2, h1, h2, h3, h4, h5, h6⟩ := adopt (C := CD cx ops E st B w0 D) (B := B) (w0 := w0) (a := a) hsep al st E h (fun k hk => by
      obtain ⟨y, hy, e⟩ := List.mem_map.1 ((hall k).2 hk)
      exact ⟨y.2, by rw [← e]; exact hy⟩) hnd hal hnt hI.rep (fun w hw => ⟨hw.1, fun x hx => (hw.2 x hx).1⟩) hI.ex (fun k hk g hg => hI.dk _ hg)
    rw [Nat.zero_add, setAll_mem hall]
    refine wpAnyC_weaken (fun w h => ⟨h.1.earlier h5 hR1.hr.ids hR1.hr.okc (fun id b hl => .inl (h6 id b hl)), h.2⟩) _ _ _ _ (wpAnyC_sub h4 _ _ _ (hfin E2 st2 a h2 h3 ⟨w1, h4 w1 hw1⟩ h1))
  | succ N ih =>
    intro E st a D hN hnt hI h hfin
    rw [show N + 1 + f0 = (N + f0) + 1 from by omega]
    obtain ⟨k, hk, hkD⟩ := hI.more hnd (by omega)
    refine ⟨fun h0 => ?_, fun j hj w hw => ?_⟩
    · have := ready_setAll (hI.rd k hk) hkD
      rw [h0] at this
      cases this
    · have hja : j ∈ al := by
        apply Classical.byContradiction
        intro hja
        have h1 := ready_setAll (l := al.filter (· != k)) hj (fun hm => hja (List.mem_filter.1 hm).1)
        rw [setAll_app] at h1
        rw [setAll_mem (l := D.map Prod.fst ++ al.filter (· != k)) (l' := al.filter (· != k)) (fun i => by
          simp only [List.mem_append]
          refine ⟨fun hi => hi.elim (fun hi => ?_) (fun h => h), .inr⟩
          refine List.mem_filter.2 ⟨?_, ?_⟩
          · obtain ⟨y, hy, e⟩ := List.mem_map.1 hi
            exact e ▸ hI.sub y hy
          · have : i ≠ k := fun e => hkD (e ▸ hi)
            simpa using this), hlast k hk] at h1
        have : j = k := by simpa using h1
        exact hja (this ▸ hk)
      have hjD := (setAll_un (mem_ready.1 hj).1).2
      refine al_step hI (by rw [hnt]; exact hal) hja hjD hw (fun a' g hI' w' hw' => ⟨_, ⟨CD.cl, fun w h => h.sq⟩, hw', ?_⟩)
      have hlen := hI'.len
      simp only [List.length_cons] at hlen
      have := ih E st a' ((j, g) :: D) (by simp only [List.length_cons]; omega) hnt hI' h hfin
      rw [setAll_set]
      exact this
theorem dropT_look {ds : List Nat} {d : Nat} {x : ST} : ∀ {l : List (Nat × ST)}, look (dropT ds l) d = some x → look l d = some x ∧ d ∉ ds
  | [], h => by cases h
  | (e, y) :: r, h => by
    simp only [dropT] at h
    split at h
    · rename_i hm
      obtain ⟨h1, h2⟩ := dropT_look h
      rw [look_cons, if_neg (fun e' => h2 (by rw [← e']; simpa using hm))]
      exact ⟨h1, h2⟩
    · rename_i hm
      rw [look_cons] at h ⊢
      split at h
      · rename_i e'
        rw [if_pos e']
        exact ⟨h, by rw [← e']; simpa using hm⟩
      · rename_i e'
        rw [if_neg e']
        exact dropT_look h
theorem alDsts_mem {k d : Nat} {o : Oper} (ho : ops[k]? = some o) (hd : o.dst = some d) : ∀ {l : List Nat}, k ∈ l → d ∈ alDsts ops l
  | i :: r, h => by
    rcases List.mem_cons.1 h with rfl | h
    · simp [alDsts, ho, hd]
    · have := alDsts_mem ho hd h
      simp only [alDsts]
      split
      · split
        · simp [this]
        · exact this
      · exact this
theorem zerosB_mem {P : Program} {k : Nat} : ∀ {l : List Nat}, zerosB P ops l = true → k ∈ l → ∀ o t, ops[k]? = some o → o.op = .alloc t → ∃ z, zeroV P t = some z
  | i :: r, h, hk, o, t, ho, hop => by
    simp only [zerosB, Bool.and_eq_true] at h
    rcases List.mem_cons.1 hk with rfl | hk
    · have h1 := h.1
      rw [ho] at h1
      dsimp only at h1
      rw [hop] at h1
      exact Option.isSome_iff_exists.1 h1
    · exact zerosB_mem h.2 hk o t ho hop
theorem drawn_sound (hm : cx.P.follows .mixedOrders = true) (he : EqOK cx.P cx.eqs) (hc : CallsOK cx) {id : Nat} {pl : Plan} {tm : List (Nat × ST)} {H : List (Nat × Blk γ)} {K : St γ → Prop}
    (hB : (planB ops pl && (alDsts ops pl.al).all (fun d => Nat.blt d nt) && zerosB cx.P ops pl.al) = true)
    (h : execPlan cx ids m ops pl.p1 ⟨nt, dropT (alDsts ops pl.al) tm, n, H⟩ (fun st1 => execAl cx ops pl.al st1 (fun st2 => execPlan cx ids m ops pl.p2 st2 K)))
    (hR : Rep E ⟨nt, tm, n, H⟩ B w0 w a) (hQ : ∀ (st' : St γ) (E' : Env) (a' : Act) (w' : World), K st' → Rep E' st' B w0 w' a' → Q .normal a' w') : (Code.region id ops true).wp cx.P Q a w := by
  simp only [planB, Bool.and_eq_true, decide_eq_true_eq, List.all_eq_true] at hB
  obtain ⟨⟨⟨⟨⟨⟨⟨⟨⟨⟨hsel, hnd⟩, hlt⟩, halB⟩, hg1⟩, hlast⟩, hg2⟩, hend⟩, hfuel⟩, hdst⟩, hzero⟩ := hB
  have hndl := nodupB_ok hnd
  have l0 : ∀ j, j < ops.size → (Array.replicate ops.size false).getD j true = false := fun j hj => by simp [hj]
  have hal : ∀ k ∈ pl.al, AlOK cx ops nt k := by
    intro k hk
    have h1 := halB k hk
    unfold alB at h1
    split at h1
    · rename_i o ho
      simp only [Bool.and_eq_true] at h1
      obtain ⟨⟨⟨⟨h2, h3⟩, h4⟩, h5⟩, h6⟩ := h1
      split at h2
      · rename_i t hop
        obtain ⟨d, hd⟩ := Option.isSome_iff_exists.1 h4
        obtain ⟨z, hz⟩ := zerosB_mem hzero hk o t ho hop
        have hdl := hdst d (alDsts_mem ho hd hk)
        refine ⟨⟨o, t, z, d, ho, hop, by simpa using h3, hd, by simpa using hdl, hz⟩, fun o' j oj ho' hj hne hno => ?_⟩
        exact Region.free_spec ho' h6 j oj hj hne (l0 j (Array.getElem?_eq_some_iff.1 hj).1) hno
      · cases h2
    · cases h1
  have hrd : ∀ k ∈ pl.al, k ∈ Region.ready .any ops (Array.replicate ops.size false) := by
    intro k hk
    have h1 := halB k hk
    unfold alB at h1
    split at h1
    · simp only [Bool.and_eq_true, List.contains_eq_mem, decide_eq_true_eq] at h1
      exact h1.1.2
    · cases h1
  have hcls : Cls E n H B w0 { w with drawn := w.drawn + 1 } :=
    ⟨hR.hr.grow (Ag.refl _ _) (fun _ _ => rfl), ⟨hR.below.os, hR.below.tape, hR.below.output, hR.below.size, hR.below.block⟩, hR.base⟩
  have hI : Inv cx ops pl.al B w0 (Array.replicate ops.size false) E (⟨nt, dropT (alDsts ops pl.al) tm, n, H⟩ : St γ) a [] := by
    refine ⟨fun w1 h1 => ⟨⟨hR.tr.size, fun d x hd => hR.tr.get d x (dropT_look hd).1, fun d x hd => hR.tr.ok d x (dropT_look hd).1, hR.tr.defs⟩, h1.1, h1.2.1, h1.2.2, hR.ag, hR.le, hR.fresh⟩, ⟨_, hcls, fun x hx => by cases hx⟩, fun x hx => (by cases hx), List.nodup_nil, fun x hx => (by cases hx), List.Pairwise.nil, fun k hk o d ho hd => ?_, hrd, by simp⟩
    cases hl : look (dropT (alDsts ops pl.al) tm) d with
    | none => rfl
    | some x => exact absurd (alDsts_mem ho hd hk) (dropT_look hl).2
  have main : wpAnyC cx.P ops (fun e a w => e = .normal ∧ Q .normal a w) (Sq E (⟨nt, dropT (alDsts ops pl.al) tm, n, H⟩ : St γ) ids m B w0) (pl.p1.length + pl.al.length + pl.p2.length) (Array.replicate ops.size false) (CD cx ops E (⟨nt, dropT (alDsts ops pl.al) tm, n, H⟩ : St γ) B w0 []) a := by
    have hp := phase (Q := fun e a w => e = .normal ∧ Q .normal a w) (nt := nt) he hc hsel (fun c a w a' h => by cases h.1) hndl hal pl.p2.length (pl.p1.length + (pl.al.length - 0)) pl.p1 (Array.replicate ops.size false) E ⟨nt, dropT (alDsts ops pl.al) tm, n, H⟩ a [] rfl rfl hg1 hI h ?_
    · rw [Nat.sub_zero] at hp
      exact hp
    · intro E1 st1 a1 D1 hnt1 hI1 h1
      refine phaseA (Q := fun e a w => e = .normal ∧ Q .normal a w) (nt := nt) hsel hndl hal hlast pl.p2.length _ E1 st1 a1 D1 rfl hnt1 hI1 h1 ?_
      intro E2 st2 a2 hnt2 hrep2 hex2 h2
      obtain ⟨w2, hw2⟩ := hex2
      have hI2 : Inv cx ops [] B w0 (setAll (setAll (Array.replicate ops.size false) (pl.p1.map (·.1))) pl.al) E2 st2 a2 [] :=
        ⟨hrep2, ⟨w2, hw2, fun x hx => by cases hx⟩, fun x hx => (by cases hx), List.nodup_nil, fun x hx => (by cases hx), List.Pairwise.nil, fun k hk => (by cases hk), fun k hk => (by cases hk), by simp [setAll_size]⟩
      have hp2 := phase (Q := fun e a w => e = .normal ∧ Q .normal a w) (nt := nt) (al := []) he hc hsel (fun c a w a' h => by cases h.1) List.nodup_nil (fun k hk => by cases hk) 0 pl.p2.length pl.p2 _ E2 st2 a2 [] (by simp) hnt2 hg2 hI2 h2 (by
        intro E3 st3 a3 D3 hnt3 hI3 h3
        have hD3 : D3 = [] := by
          cases D3 with
          | nil => rfl
          | cons x r => exact absurd (hI3.sub x (by simp)) (by simp)
        subst hD3
        exact ⟨hend, fun w3 hw3 => ⟨rfl, hQ st3 E3 a3 w3 h3 (hI3.rep w3 hw3.1)⟩⟩)
      exact wpAnyC_sub (fun w hw => ⟨hw, fun x hx => by cases hx⟩) _ _ _ hp2
  have more : ∀ k, wpAnyC cx.P ops (fun e a w => e = .normal ∧ Q .normal a w) (Sq E (⟨nt, dropT (alDsts ops pl.al) tm, n, H⟩ : St γ) ids m B w0) (pl.p1.length + pl.al.length + pl.p2.length + k) (Array.replicate ops.size false) (CD cx ops E (⟨nt, dropT (alDsts ops pl.al) tm, n, H⟩ : St γ) B w0 []) a := by
    intro k
    induction k with
    | zero => exact main
    | succ k ih => exact wpAnyC_more _ _ _ _ ih
  refine Code.wp_mono (Q := fun e a w => e = .normal ∧ Q .normal a w) (fun e a w h => by obtain ⟨rfl, h⟩ := h; exact h) (wp_region_any hm ?_)
  have := more (ops.size - (pl.p1.length + pl.al.length + pl.p2.length))
  rw [show pl.p1.length + pl.al.length + pl.p2.length + (ops.size - (pl.p1.length + pl.al.length + pl.p2.length)) = ops.size from by omega] at this
  exact wpAny_of_C _ _ _ _ _ this ⟨hcls, fun x hx => by cases hx⟩
theorem drw_elim {b : Bool} {p : Prop} (h : drw b p) : b = true ∧ p := ⟨h.ok, h.go⟩
theorem drw_intro {b : Bool} {p : Prop} (h1 : b = true) (h2 : p) : drw b p := ⟨h1, h2⟩
/-- What holds of a loop: as its summary says. -/
def LoopOK (cx : Cx γ) (F : St γ → (SExit → St γ → Prop) → Prop) (body : Code) : Prop :=
  ∀ (st : St γ) (K : SExit → St γ → Prop), F st K → ∀ (E : Env) (a : Act) (w : World) (w0 : Beg) (B : Nat) (Q : Exit → Act → World → Prop), w0.n = cx.n0 → Rep E st B w0 w a →
    (∀ (e : SExit) (st' : St γ) (E' : Env) (a' : Act) (w' : World), K e st' → Rep E' st' B w0 w' a' → Q e.ex a' w') → (Code.loop body).wp cx.P Q a w
def codeAt (fc : Code) : List Nat → Option Code
  | [] => some fc
  | d :: pt => match codeAt fc pt with
    | some (.seq a b) => if d = 0 then some a else some b
    | some (.cond _ a b) => if d = 0 then some a else some b
    | some (.block _ b) => some b
    | some (.loop b) => some b
    | _ => none
def LoopsOK (cx : Cx γ) (fc : Code) : Prop := ∀ pt F body, cx.loops pt = some F → codeAt fc pt = some (.loop body) → LoopOK cx F body
theorem unroll_sound {body : Code} {X : St γ → (SExit → St γ → Prop) → Prop}
    (hX : ∀ (st : St γ) (K : SExit → St γ → Prop), X st K → ∀ (E : Env) (a : Act) (w : World) (w0 : Beg) (B : Nat) (Q : Exit → Act → World → Prop), w0.n = cx.n0 → Rep E st B w0 w a →
      (∀ (e : SExit) (st' : St γ) (E' : Env) (a' : Act) (w' : World), K e st' → Rep E' st' B w0 w' a' → Q e.ex a' w') → body.wp cx.P Q a w) :
    ∀ (m : Nat) (st : St γ) (K : SExit → St γ → Prop), unroll X m st K → ∀ (E : Env) (a : Act) (w : World) (w0 : Beg) (B : Nat) (Q : Exit → Act → World → Prop), w0.n = cx.n0 → Rep E st B w0 w a →
      (∀ (e : SExit) (st' : St γ) (E' : Env) (a' : Act) (w' : World), K e st' → Rep E' st' B w0 w' a' → Q e.ex a' w') → Code.rounds cx.P body Q m a w
  | 0, _, _, h => h.elim
  | m + 1, st, K, h => fun E a w w0 B Q h0 hR hQ => by
    rw [rounds_succ]
    refine hX st _ h E a w w0 B _ h0 hR fun e st' E' a' w' hk hR' => ?_
    cases e with
    | normal => exact unroll_sound hX m st' K hk E' a' w' w0 B Q h0 hR' hQ
    | exit id => exact hQ _ _ _ _ _ hk hR'
    | ret => exact hQ _ _ _ _ _ hk hR'
/-- THE WHOLE. -/
theorem exec_sound (hm : cx.P.follows .mixedOrders = true) (he : EqOK cx.P cx.eqs) (hc : CallsOK cx) {fc : Code} (hl : LoopsOK cx fc) :
    ∀ (c : Code) (pt : List Nat), codeAt fc pt = some c → ∀ (st : St γ) (K : SExit → St γ → Prop), exec cx pt c st K → ∀ (E : Env) (a : Act) (w : World) (w0 : Beg) (B : Nat) (Q : Exit → Act → World → Prop), w0.n = cx.n0 → Rep E st B w0 w a →
      (∀ (e : SExit) (st' : St γ) (E' : Env) (a' : Act) (w' : World), K e st' → Rep E' st' B w0 w' a' → Q e.ex a' w') → c.wp cx.P Q a w := by
  intro c
  induction c with
  | skip => intro pt _ st K h E a w w0 B Q h0 hR hQ; exact wp_skip (hQ .normal _ _ _ _ h hR)
  | region id ops draw =>
    intro pt _ st K h E a w w0 B Q h0 hR hQ
    cases draw with
    | false =>
      refine wp_region_list ?_
      exact execOps_sound he hc (fun st' E' a' w' h1 h2 => hQ .normal st' E' a' w' h1 h2) ops.toList st E a w h hR
    | true =>
      simp only [exec] at h
      split at h
      · rename_i pl hpl
        obtain ⟨nt, tm, n, H⟩ := st
        dsimp only at h
        obtain ⟨hB, h⟩ := drw_elim h
        rw [frc_eq, frc_eq] at h
        exact drawn_sound hm he hc hB h hR (fun st' E' a' w' h1 h2 => hQ .normal st' E' a' w' h1 h2)
      · exact h.elim
  | seq x y ihx ihy =>
    intro pt hpt st K h E a w w0 B Q h0 hR hQ
    refine wp_seq (ihx (0 :: pt) (by simp [codeAt, hpt]) st _ h E a w w0 B _ h0 hR fun e st' E' a' w' hk hR' => ?_)
    cases e with
    | normal => exact ihy (1 :: pt) (by simp [codeAt, hpt]) st' K hk E' a' w' w0 B Q h0 hR' hQ
    | exit id => exact hQ _ _ _ _ _ hk hR'
    | ret => exact hQ _ _ _ _ _ hk hR'
  | cond c x y ihx ihy =>
    intro pt hpt st K h E a w w0 B Q h0 hR hQ
    simp only [exec] at h
    split at h
    · rename_i t ht
      obtain ⟨h1, _⟩ := evalV_sound hR.tr ht
      refine wp_cond_split (t := t) h1 (fun hb => ?_) (fun hb => ?_)
      · rcases br_elim h with ⟨_, h⟩ | ⟨hb', _⟩
        · exact ihx (0 :: pt) (by simp [codeAt, hpt]) st K h E a w w0 B Q h0 hR hQ
        · rw [hb] at hb'; cases hb'
      · rcases br_elim h with ⟨hb', _⟩ | ⟨_, h⟩
        · rw [hb] at hb'; cases hb'
        · exact ihy (1 :: pt) (by simp [codeAt, hpt]) st K h E a w w0 B Q h0 hR hQ
    · exact h.elim
  | block id body ih =>
    intro pt hpt st K h E a w w0 B Q h0 hR hQ
    refine wp_block (ih (0 :: pt) (by simp [codeAt, hpt]) st _ h E a w w0 B _ h0 hR fun e st' E' a' w' hk hR' => ?_)
    cases e with
    | normal => exact hQ _ _ _ _ _ hk hR'
    | exit id' =>
      simp only [SExit.ex, Exit.inBlock]
      dsimp only at hk
      split at hk
      · rename_i e
        rw [if_pos e]
        exact hQ .normal _ _ _ _ hk hR'
      · rename_i e
        rw [if_neg e]
        exact hQ (.exit id') _ _ _ _ hk hR'
    | ret => exact hQ _ _ _ _ _ hk hR'
  | loop body ih =>
    intro pt hpt st K h E a w w0 B Q h0 hR hQ
    simp only [exec] at h
    split at h
    · rename_i F hF
      exact hl pt F body hF hpt st K h E a w w0 B Q h0 hR hQ
    · exact wp_loop_rounds cx.turns (unroll_sound (fun st K h E a w w0 B Q h0 hR hQ => ih (0 :: pt) (by simp [codeAt, hpt]) st K h E a w w0 B Q h0 hR hQ) cx.turns st K h E a w w0 B Q h0 hR hQ)
  | exit id => intro pt _ st K h E a w w0 B Q h0 hR hQ; exact wp_exit (hQ (.exit id) _ _ _ _ h hR)
  | ret => intro pt _ st K h E a w w0 B Q h0 hR hQ; exact wp_ret (hQ .ret _ _ _ _ h hR)
  | rangeFunc f ps x y ihx ihy => intro pt _ st K h; exact h.elim
  | scope x ih => intro pt _ st K h; exact h.elim
  | label l => intro pt _ st K h; exact h.elim
  | goto l => intro pt _ st K h; exact h.elim
  | refuse why => intro pt _ st K h; exact h.elim
end
end Go.Sx
