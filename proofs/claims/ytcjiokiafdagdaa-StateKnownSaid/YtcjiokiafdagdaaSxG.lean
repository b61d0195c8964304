/- The executor's answers are the model's: regions, and whole texts. -/
import Derived.Test.YtcjiokiafdagdaaSxF
namespace Go.Sx
open Go.RowKit
set_option linter.unusedVariables false
set_option linter.unusedSimpArgs false
section
variable {γ : Type} [Gh γ] {cx : Cx γ} {E : Env} {st : St γ} {a : Act} {w : World} {w0 : Beg} {B n : Nat} {Q : Exit → Act → World → Prop}
theorem run_callFunc_op {P : Program} {o : Oper} {c : Call} {f : FuncId} (ho : o.op = .call c) (hc : c.callee = .value (.func f)) :
    (execOp a.eval o).run P w = (callFunc f (c.args.map a.eval)).run P w := by
  unfold execOp
  rw [ho]
  simp only [resolve, hc]
  have : a.eval (.func f) = .func (.func f) #[] #[] := rfl
  rw [this]
  simp [Deferred.ofValue, invoke]
theorem flatten_cells (z : List Value) (m : Nat) (hz : 0 < z.length) : (Array.range (m * z.length)).map (z.toArray[· % z.toArray.size]!) = (List.replicate m z).flatten.toArray := by
  apply Array.ext'
  simp only [Array.toList_map, Array.toList_range]
  apply List.ext_getElem?
  intro j
  rw [List.getElem?_map]
  rcases Nat.lt_or_ge j (m * z.length) with hj | hj
  · rw [List.getElem?_range hj]
    simp only [Option.map_some]
    have hjm : j % z.length < z.length := Nat.mod_lt _ hz
    have hl : (List.replicate m z).flatten.length = m * z.length := by simp
    induction m generalizing j with
    | zero => simp at hj
    | succ m ih =>
      rw [List.replicate_succ, List.flatten_cons]
      rcases Nat.lt_or_ge j z.length with h | h
      · rw [List.getElem?_append_left h, List.getElem?_eq_getElem h]
        simp [Nat.mod_eq_of_lt h, h]
      · rw [List.getElem?_append_right h]
        have h2 : j - z.length < m * z.length := by rw [Nat.succ_mul] at hj; omega
        have h3 := ih (j - z.length) h2 (Nat.mod_lt _ hz) (by simp)
        rw [← h3]
        have : (j - z.length) % z.length = j % z.length := by rw [Nat.mod_eq_sub_mod h]
        simp only [List.size_toArray, this]
  · rw [List.getElem?_eq_none (by simpa using hj), List.getElem?_eq_none (by simpa using hj)]
    rfl
/-- One operation. -/
theorem step_sound (he : EqOK cx.P cx.eqs) (hc : CallsOK cx) {o : Oper} {k : St γ → Prop} (h : step cx o st k) (hR : Rep E st B w0 w a) {Next : Act → World → Prop}
    (hk : ∀ (st' : St γ) (E' : Env) (a' : Act) (w' : World), k st' → Rep E' st' B w0 w' a' → Fr E st w a o E' st' w' a' → Next a' w') : o.wp cx.P a w Next Q := by
  have pureCase : ∀ {r : OR}, pureOp cx.P cx.eqs st o.op = r → (match r with
      | .ok x => k (st.put o.dst x)
      | .chk b x => br b (k (st.put o.dst x)) False
      | .bad => False) → o.wp cx.P a w Next Q := by
    intro r hr h
    have : ∃ x, r.gives x ∧ k (st.put o.dst x) := by
      cases r with
      | ok x => exact ⟨x, .inl rfl, h⟩
      | chk b x =>
        rcases br_elim h with ⟨hb, h1⟩ | ⟨_, h1⟩
        · subst hb
          exact ⟨x, .inr rfl, h1⟩
        · exact h1.elim
      | bad => exact h.elim
    obtain ⟨x, hx, hkx⟩ := this
    rw [← hr] at hx
    obtain ⟨h1, h2⟩ := pureOp_sound he hR.tr hR.hr hx
    unfold Oper.wp
    rw [h1]
    exact hk _ E _ _ hkx (hR.pure h2) (Fr.pure x _)
  unfold step at h
  simp only [putK_eq, newK_eq, setK_eq, newsK_eq, frc_eq] at h
  split at h
  · rename_i t hop
    split at h
    · rename_i z hz
      obtain ⟨h1, h2⟩ := run_zeroV (E := E) hz st.n w
      have hcells := SV.den_cells h2
      obtain ⟨E', ⟨hA', hE'⟩, hR'⟩ := hR.alloc (t := t) (cs := z.cells) (SV.okn_cells h2) o.dst (.v (.c (.p st.n 0))) (.pointer (some ⟨w.heap.size, 0, none⟩))
        (fun E' hE => ⟨⟨Nat.lt_succ_self _, _, hE⟩, by simp [ST.den, SV.den, SC.den, hE, Addr.add]⟩)
      unfold Oper.wp execOp
      simp only [hop, Instr.alloc, Sem.run_bind, h1, Result.andThen_ok, newVar, newRow, run_newObj, Sem.run_pure, hcells]
      exact hk _ _ _ _ h hR' (Fr.alloc hR.hr hA' hE' _ _ _)
    · exact h.elim
  · rename_i t x hop
    split at h
    · rename_i y hy
      obtain ⟨h1, h2⟩ := evalV_sound hR.tr hy
      have hcells := SV.den_cells h2
      obtain ⟨E', ⟨hA', hE'⟩, hR'⟩ := hR.alloc (t := t) (cs := y.cells) (SV.okn_cells h2) o.dst (.v (.c (.p st.n 0))) (.pointer (some ⟨w.heap.size, 0, none⟩))
        (fun E' hE => ⟨⟨Nat.lt_succ_self _, _, hE⟩, by simp [ST.den, SV.den, SC.den, hE, Addr.add]⟩)
      unfold Oper.wp execOp
      simp only [hop, Instr.box, Sem.run_bind, h1, Result.andThen_ok, newVar, newRow, run_newObj, Sem.run_pure, hcells]
      exact hk _ _ _ _ h hR' (Fr.alloc hR.hr hA' hE' _ _ _)
    · exact h.elim
  · rename_i t x y hop
    split at h
    · rename_i id off z i hx hz hi
      split at h
      · rename_i ty cs hl
        split at h
        · rename_i hsz
          obtain ⟨h1, h1'⟩ := evalV_sound hR.tr hx
          obtain ⟨h2, h2'⟩ := evalV_sound hR.tr hz
          obtain ⟨g, hg, hBg, hw⟩ := hR.hr.own _ _ _ hl
          have hcells := SV.den_cells h2'
          have hokz := SV.okn_cells h2'
          have hokc := hR.hr.okc _ _ _ (.inl hl)
          have hst := run_storeCells_at cx.P g off ty (z.cells.map (SC.den E)) 0 _ w hw (by simp; omega) (by
            intro v hv
            simp only [List.mem_map] at hv
            obtain ⟨c, hc, rfl⟩ := hv
            exact SC.den_one (hokz c hc))
          have hnew := hR.hr.store (new := setCs cs off z.cells) hl hg (setCs_okn hokc hokz)
          rw [setCs_den] at hnew
          have hR2 : Rep E ⟨st.nt, st.tmps, st.n, (id, .own ty (setCs cs off z.cells)) :: st.heap⟩ B w0 (w.setRow g ((cs.map (SC.den E)).take off ++ z.cells.map (SC.den E) ++ (cs.map (SC.den E)).drop (off + (z.cells.map (SC.den E)).length)).toArray) a := by
            refine ⟨hR.tr.ag (Nat.le_refl _) (Ag.refl _ _), hnew, ?_, by simpa using hR.base, hR.ag, hR.le, fun j gg ad hj h0 h1 => by
              simp only [look_cons] at hj
              split at hj
              · injection hj with hj; cases hj
              · exact hR.fresh j gg ad hj h0 h1⟩
            refine hR.below.trans ⟨rfl, rfl, rfl, by simp, fun k hk => setRow_other w g k _ (by omega)⟩
          have hR3 := hR2.pure (d := o.dst) (x := .t []) (fun _ h => by cases h)
          unfold Oper.wp execOp
          have hsz2 : (z.den E).cells.size = i.size := by rw [hcells]; simpa using hsz.1
          simp only [hop, Instr.storeAt, h1, SV.den, SC.den, hg, Option.map_some, addr_add, Nat.zero_add, Instr.sureAddr, Sem.run_bind, Sem.run_pure, Result.andThen_ok, storeVar, run_sizeOf hi]
          have e2 : a.eval y = z.den E := h2
          rw [e2, if_neg (by rw [hsz2]; simp), hcells]
          simp only [Nat.add_zero] at hst
          rw [hst]
          exact hk _ E _ _ h hR3 (Fr.store hR.hr hop hx hl hg _ _ _)
        · exact h.elim
      · exact h.elim
    · exact h.elim
  · rename_i t m ps hop
    split at h
    · rename_i l el hl hu
      split at h
      · rename_i i z hi hz
        split at h
        · rename_i hsz
          split at h
          · rename_i cs hcs
            obtain ⟨h1, h2⟩ := evalParts_sound hR.tr hl
            obtain ⟨hz1, hz2⟩ := run_zeroV (E := E) hz st.n w
            have hzc := SV.den_cells hz2
            have hflat : ∀ c ∈ (List.replicate m z.cells).flatten, c.okn E st.n := by
              intro c hc
              rw [List.mem_flatten] at hc
              obtain ⟨l', hl', hc'⟩ := hc
              rw [List.mem_replicate] at hl'
              rw [hl'.2] at hc'
              exact SV.okn_cells hz2 c hc'
            obtain ⟨hf, hok⟩ := fillV_sound (E := E) (n := st.n) (place' := fun j => some (j * i.size, i.size)) (by intro j x _ y hy; exact hy) h2 hflat hcs
            obtain ⟨E', ⟨hA', hE'⟩, hR'⟩ := hR.alloc (t := el) (cs := cs) hok o.dst (.v (.c (.s st.n m))) (.slice (some ⟨w.heap.size, 0, none⟩) m m)
              (fun E' hE => ⟨⟨Nat.lt_succ_self _, _, hE⟩, by simp [ST.den, SV.den, SC.den, hE]⟩)
            have hps : (ps.map fun x => (x.1, a.eval x.2)) = (l.map fun p => (p.1, p.2.den E)).toArray := by
              rw [← h1]
              apply Array.ext'
              simp
            have hzl : 0 < (z.cells.map (SC.den E)).length := by
              have : 0 < m * i.size := hsz.2.2
              rw [hsz.2.1] at this
              simpa using Nat.pos_of_mul_pos_left this
            have hfl := flatten_cells (z.cells.map (SC.den E)) m hzl
            have hrep : (List.replicate m (z.cells.map (SC.den E))).flatten = ((List.replicate m z.cells).flatten).map (SC.den E) := by
              rw [List.map_flatten, List.map_replicate]
            unfold Oper.wp execOp
            have h16 : ¬ (m * i.size > 2 ^ 24) := by have := hsz.1; omega
            have hne : ¬ (m * i.size = 0) := by have := hsz.2.2; omega
            have hsz' : m * i.size = m * (z.cells.map (SC.den E)).length := by rw [hsz.2.1]; simp
            simp only [hop, Instr.buildSlice, Sem.run_bind, run_underlying hu, Result.andThen_ok, run_sizeOf hi, if_neg h16, if_neg hne, hz1, Sem.run_pure, hps, hzc]
            rw [hsz', hfl, hrep, hf]
            simp only [newRow, Sem.run_bind, run_newObj, Result.andThen_ok, Sem.run_pure]
            exact hk _ _ _ _ h hR' (Fr.alloc hR.hr hA' hE' _ _ _)
          · exact h.elim
        · exact h.elim
      · exact h.elim
    · exact h.elim
  · rename_i t x y hop
    split at h
    · rename_i kx lx ky ly el hx hy hu
      split at h
      · rename_i i z hi hz
        split at h
        · rename_i hsz
          obtain ⟨⟨rfl, h0⟩, ⟨h16, hsl, hpos⟩, hb, h63⟩ := hsz
          have ex : a.eval x = .int kx lx := (evalV_sound hR.tr hx).1
          have ey : a.eval y = .int ky lx := (evalV_sound hR.tr hy).1
          obtain ⟨hz1, hz2⟩ := run_zeroV (E := E) hz st.n w
          have hzc := SV.den_cells hz2
          have hflat : ∀ c ∈ (List.replicate lx.toNat z.cells).flatten, c.okn E st.n := by
            intro c hc
            rw [List.mem_flatten] at hc
            obtain ⟨l', hl', hc'⟩ := hc
            rw [List.mem_replicate] at hl'
            rw [hl'.2] at hc'
            exact SV.okn_cells hz2 c hc'
          obtain ⟨E', ⟨hA', hE'⟩, hR'⟩ := hR.alloc (t := el) (cs := (List.replicate lx.toNat z.cells).flatten) hflat o.dst (.v (.c (.s st.n lx.toNat))) (.slice (some ⟨w.heap.size, 0, none⟩) lx.toNat lx.toNat)
            (fun E' hE => ⟨⟨Nat.lt_succ_self _, _, hE⟩, by simp [ST.den, SV.den, SC.den, hE]⟩)
          have hzl : 0 < (z.cells.map (SC.den E)).length := by
            rw [hsl] at hpos
            simpa using Nat.pos_of_mul_pos_left hpos
          have hfl := flatten_cells (z.cells.map (SC.den E)) lx.toNat hzl
          have hrep : (List.replicate lx.toNat (z.cells.map (SC.den E))).flatten = ((List.replicate lx.toNat z.cells).flatten).map (SC.den E) := by
            rw [List.map_flatten, List.map_replicate]
          obtain ⟨zv, hzv, hzd⟩ : ∃ zv, i.zero = some zv ∧ zv = z.den E := by
            unfold zeroV at hz
            rw [hi] at hz
            dsimp only at hz
            split at hz
            · rename_i v hv
              exact ⟨v, hv, ((ofValue_sound (E := E) hz st.n).1).symm⟩
            · cases hz
          have hrun := run_makeSlice (P := cx.P) w t el i zv hu hi hzv kx ky lx lx h0 (Int.le_refl _) h16 hb h63
          have hmade : madeCells zv.cells (lx.toNat * i.size) = (((List.replicate lx.toNat z.cells).flatten).map (SC.den E)).toArray := by
            rw [hzd, hzc, ← hrep, ← hfl, hsl]
            simp [madeCells]
          rw [hmade] at hrun
          unfold Oper.wp execOp
          simp only [hop, ex, ey, Sem.run_bind, hrun, Result.andThen_ok, Sem.run_pure]
          exact hk _ _ _ _ h hR' (Fr.alloc hR.hr hA' hE' _ _ _)
        · exact h.elim
      · exact h.elim
    · exact h.elim
  · rename_i c hop
    split at h
    · rename_i f hcal
      split at h
      · rename_i l hl
        split at h
        · rename_i r hr
          rcases br_elim h with ⟨hpre, h⟩ | ⟨_, h⟩
          · obtain ⟨h1, h2⟩ := evalVs_sound hR.tr hl
            have hargs : c.args.map a.eval = (l.map (SV.den E)).toArray := by
              rw [← h1]
              apply Array.ext'
              simp
            have hd := hc f st.n st.heap l r hr hpre E w (hR.hr.still) h2
            unfold Oper.wp
            rw [run_callFunc_op hop hcal, hargs]
            rcases hd with ⟨hent, hcalls⟩ | ⟨v, hv, E', hA, hev, hok, hb, hn⟩
            · rw [hent]
              refine hcalls.mono ?_
              rintro e w' ⟨E', hA, rfl, hok, hb, hn⟩
              exact hk _ E' _ _ h (hR.call hA hok hb hn o.dst) (Fr.call hR.hr hA hb hn _ _)
            · rw [hv]
              injection hev with hev
              rw [hev]
              exact hk _ E' _ _ h (hR.call hA hok hb hn o.dst) (Fr.call hR.hr hA hb hn _ _)
          · exact h.elim
        · exact h.elim
      · exact h.elim
    · refine pureCase (r := callV cx.P st c) ?_ h
      rw [hop]
      rfl
  · exact pureCase rfl h
omit [Gh γ] in
theorem guard_no (hT : TR E st a) {ops : Array Oper} {o : Oper} {j : Nat} {pol : Bool} (hg : o.guard = some (j, pol)) (hgv : guardV ops.toList st j = .no) : ¬ (Region.wanted o (yielded ops a.tmps) = true) := by
  unfold guardV at hgv
  split at hgv
  · rename_i oj hoj
    split at hgv
    · rename_i d hd
      split at hgv
      · cases hgv
      · rename_i hl
        have := hT.get _ _ hl
        have hoj' : ops[j]? = some oj := by simpa using hoj
        simp [Region.wanted, hg, yielded, hoj', hd, this, ST.den]
      · cases hgv
    · cases hgv
  · cases hgv
omit [Gh γ] in
theorem guard_yes (hT : TR E st a) {ops : Array Oper} {o : Oper} {j : Nat} {pol b : Bool} {d : Nat} (hg : o.guard = some (j, pol)) (hgv : guardV ops.toList st j = .yes b d) :
    (∀ c, b = c → TR E (st.put (some d) (.v (.c (.v (.bool c))))) a) ∧ Region.wanted o (yielded ops a.tmps) = (b == pol) := by
  have hfacts : look st.tmps d = some (.v (.c (.v (.bool b)))) ∧ yielded ops a.tmps j = some b := by
    unfold guardV at hgv
    split at hgv
    · rename_i oj hoj
      split at hgv
      · rename_i d' hd
        split at hgv
        · rename_i b' hl
          injection hgv with e1 e2
          subst e1; subst e2
          have := hT.get _ _ hl
          have hoj' : ops[j]? = some oj := by simpa using hoj
          refine ⟨hl, ?_⟩
          simp [yielded, hoj', hd, this, ST.den, SV.den, SC.den]
        · cases hgv
        · cases hgv
      · cases hgv
    · cases hgv
  obtain ⟨hl, hy⟩ := hfacts
  refine ⟨fun c hbc => ?_, ?_⟩
  · subst hbc
    have := hT.put (d := some d) (x := .v (.c (.v (.bool b)))) rfl
    have e : a.put (some d) ((ST.v (.c (.v (.bool b)))).den E) = a := by
      have h1 := hT.get _ _ hl
      simp only [Act.put]
      have : a.tmps.setIfInBounds d ((ST.v (.c (.v (.bool b)))).den E) = a.tmps := by
        apply Array.ext_getElem?
        intro i
        by_cases hi : d = i
        · subst hi
          rw [h1]
          have := (Array.getElem?_eq_some_iff.1 h1).1
          simp [Array.getElem?_setIfInBounds, this]
        · rw [Array.getElem?_setIfInBounds_ne hi]
      rw [this]
    rwa [e] at this
  · simp only [Region.wanted, hg, hy]
    cases b <;> cases pol <;> rfl
/-- A region in the order of the text. -/
theorem execOps_sound (he : EqOK cx.P cx.eqs) (hc : CallsOK cx) {ops : Array Oper} {K : St γ → Prop} (hQ : ∀ (st' : St γ) (E' : Env) (a' : Act) (w' : World), K st' → Rep E' st' B w0 w' a' → Q .normal a' w') :
    ∀ (l : List Oper) (st : St γ) (E : Env) (a : Act) (w : World), execOps (step cx) ops.toList l st K → Rep E st B w0 w a → wpList cx.P ops Q l a w
  | [], st, E, a, w, h, hR => hQ st E a w h hR
  | o :: rest, st, E, a, w, h, hR => by
    have ih := execOps_sound (ops := ops) he hc hQ rest
    refine wpList_step fun K' hK' => ?_
    simp only [execOps, putK_eq] at h
    split at h
    · rename_i hg
      simp only [Region.wanted, hg, if_true]
      exact step_sound he hc h hR fun st' E' a' w' h1 h2 _ => hK' _ _ (ih st' E' a' w' h1 h2)
    · rename_i j pol hg
      have hskip : ∀ (st2 : St γ), Rep E st2 B w0 w a → execOps (step cx) ops.toList rest (st2.put o.dst (.t [])) K → K' (a.put o.dst undef) w := fun st2 hR2 h2 =>
        hK' _ _ (ih _ E _ _ h2 (hR2.pure (x := .t []) (fun _ h => by cases h)))
      cases hgv : guardV ops.toList st j with
      | bad => rw [hgv] at h; exact h.elim
      | no =>
        rw [hgv] at h
        have hno := guard_no hR.tr hg hgv
        rw [if_neg hno]
        exact hskip st hR h
      | yes b d =>
        rw [hgv] at h
        obtain ⟨hlit0, hw⟩ := guard_yes hR.tr hg hgv
        have hlit : ∀ c, b = c → Rep E (st.put (some d) (.v (.c (.v (.bool c))))) B w0 w a := fun c hbc => by
          have h1 : (st.put (some d) (.v (.c (.v (.bool c))))).n = st.n ∧ (st.put (some d) (.v (.c (.v (.bool c))))).heap = st.heap := by simp only [St.put]; split <;> exact ⟨rfl, rfl⟩
          exact ⟨hlit0 c hbc, by rw [h1.1, h1.2]; exact hR.hr, hR.below, hR.base, hR.ag, by rw [h1.1]; exact hR.le, by rw [h1.2]; exact hR.fresh⟩
        rw [hw]
        rcases br_elim h with ⟨hb, h⟩ | ⟨hb, h⟩
        · cases pol with
          | true =>
            rw [hb]
            simp only [beq_self_eq_true, if_true]
            exact step_sound he hc h (hlit true hb) fun st' E' a' w' h1 h2 _ => hK' _ _ (ih st' E' a' w' h1 h2)
          | false =>
            rw [hb]
            rw [if_neg (by decide)]
            exact hskip _ (hlit true hb) h
        · cases pol with
          | false =>
            rw [hb]
            simp only [beq_self_eq_true, if_true]
            exact step_sound he hc h (hlit false hb) fun st' E' a' w' h1 h2 _ => hK' _ _ (ih st' E' a' w' h1 h2)
          | true =>
            rw [hb]
            rw [if_neg (by decide)]
            exact hskip _ (hlit false hb) h
end
end Go.Sx
