/- The executor's answers are the model's: what is asked of one operation of a region that draws. -/
import Derived.Test.YtcjiokiafdagdaaSxH
namespace Go.Sx
open Go.RowKit
set_option linter.unusedVariables false
set_option linter.unusedSimpArgs false
set_option linter.unusedSectionVars false
section
variable {γ : Type} [Gh γ] {cx : Cx γ} {E : Env} {st : St γ} {a : Act} {w : World} {w0 : Beg} {B n : Nat} {Q : Exit → Act → World → Prop}
/-- The worlds of which the symbolic heap is true. -/
def Cls (E : Env) (m : Nat) (H : List (Nat × Blk γ)) (B : Nat) (w0 : Beg) (w : World) : Prop := HR E m H B w ∧ Below B w0.w w ∧ B ≤ w.heap.size
theorem Cls.below {m : Nat} {H : List (Nat × Blk γ)} {w' : World} (h : Cls E m H B w0 w) (hb : Below w.heap.size w w') : Cls E m H B w0 w' :=
  ⟨h.1.grow (Ag.refl _ _) (fun k hk => hb.block k hk), h.2.1.trans (hb.mono h.2.2), Nat.le_trans h.2.2 hb.size⟩
theorem stepQ_sound (he : EqOK cx.P cx.eqs) (hc : CallsOK cx) {o : Oper} {k : St γ → Prop} (h : stepQ cx o st k) (hT : TR E st a) (hne : ∃ w, Cls E st.n st.heap B w0 w) :
    ∃ x, k (st.put o.dst x) ∧ x.okn E st.n ∧ ∀ w, Cls E st.n st.heap B w0 w → o.quietAt cx.P a (fun w' => Below w.heap.size w w') w (x.den E) := by
  have pureCase : ∀ {r : OR}, pureOp cx.P cx.eqs st o.op = r → (match r with
      | .ok x => k (st.put o.dst x)
      | .chk b x => br b (k (st.put o.dst x)) False
      | .bad => False) → ∃ x, k (st.put o.dst x) ∧ x.okn E st.n ∧ ∀ w, Cls E st.n st.heap B w0 w → o.quietAt cx.P a (fun w' => Below w.heap.size w w') w (x.den E) := by
    intro r hr h
    have : ∃ x, r.gives x ∧ k (st.put o.dst x) := by
      cases r with
      | ok x => exact ⟨x, .inl rfl, h⟩
      | chk b x =>
        rcases br_elim h with ⟨hb, h1⟩ | ⟨_, h1⟩
        · subst hb
          exact ⟨x, .inr rfl, h1⟩
        · exact h1.elim
      | bad => exact h.elim
    obtain ⟨x, hx, hkx⟩ := this
    rw [← hr] at hx
    obtain ⟨w1, hw1⟩ := hne
    have hok := (pureOp_sound he hT hw1.1 hx).2
    refine ⟨x, hkx, hok, fun w' hw' => ?_⟩
    obtain ⟨h1, _⟩ := pureOp_sound he hT hw'.1 hx
    unfold Oper.quietAt
    rw [h1]
    exact ⟨rfl, rfl⟩
  unfold stepQ at h
  simp only [putK_eq] at h
  split at h
  · rename_i c hop
    split at h
    · rename_i f hcal
      split at h
      · rename_i l hl
        split at h
        · rename_i r hr
          split at h
          · rename_i hnew
            rcases br_elim h with ⟨hpre, h⟩ | ⟨_, h⟩
            · obtain ⟨h1, h2⟩ := evalVs_sound hT hl
              have hargs : c.args.map a.eval = (l.map (SV.den E)).toArray := by
                rw [← h1]
                apply Array.ext'
                simp
              have hd := hc f st.n st.heap l r hr hpre
              -- the result has no address beyond those that are known
              have hres : ∀ w', Cls E st.n st.heap B w0 w' → Does cx.P f (l.map (SV.den E)).toArray w' fun e w'' => e = .returned (r.res.den E) ∧ r.res.okn E st.n ∧ Below w'.heap.size w' w'' := by
                intro w' hw'
                have hback : ∀ (e : Ending) (w'' : World), (∃ E', Ag st.n E E' ∧ e = .returned (r.res.den E') ∧ r.res.okn E' (st.n + r.new.length) ∧ Below w'.heap.size w' w'' ∧ NewOK E' st.n r.new w' w'') →
                    e = .returned (r.res.den E) ∧ r.res.okn E st.n ∧ Below w'.heap.size w' w'' := by
                  rintro e w'' ⟨E', hA, rfl, hok, hb, _⟩
                  rw [hnew] at hok
                  have hA' : Ag st.n E' E := ⟨fun i hi => (hA.addr i hi).symm, fun i hi => (hA.len i hi).symm, fun i hi => (hA.cap i hi).symm⟩
                  have hok' : r.res.okn E st.n := hok.ag (Nat.le_refl _) hA'
                  exact ⟨by rw [ST.den_ag hok' hA], hok', hb⟩
                rcases hd E w' (hw'.1.still) h2 with ⟨hent, hcalls⟩ | ⟨v, hv, hR⟩
                · exact .inl ⟨hent, hcalls.mono hback⟩
                · exact .inr ⟨v, hv, hback _ _ hR⟩
              have hokn : r.res.okn E st.n := by
                obtain ⟨w1, hw1⟩ := hne
                rcases hres w1 hw1 with ⟨_, hcalls⟩ | ⟨v, _, _, hok, _⟩
                · obtain ⟨e, w', fr, ⟨_, hok, _⟩, _⟩ := hcalls []
                  exact hok
                · exact hok
              refine ⟨r.res, h, hokn, fun w' hw' => ?_⟩
              unfold Oper.quietAt
              rw [run_callFunc_op hop hcal, hargs]
              rcases hres w' hw' with ⟨hent, hcalls⟩ | ⟨v, hv, hev, _, hcl⟩
              · rw [hent]
                exact ⟨rfl, hcalls.mono fun e w'' ⟨h1, _, h3⟩ => ⟨h1, h3⟩⟩
              · rw [hv]
                injection hev with hev
                exact ⟨rfl, hev⟩
            · exact h.elim
          · exact h.elim
        · exact h.elim
      · exact h.elim
    · refine pureCase (r := callV cx.P st c) ?_ h
      rw [hop]
      rfl
  · exact pureCase rfl h

/-! ### What is hidden -/
theorem look_hide (ids : List Nat) (m : Nat) (H : List (Nat × Blk γ)) (id : Nat) : look (hide ids m H) id = (look H id).map (hideB ids m id) := by
  induction H with
  | nil => rfl
  | cons x H ih =>
    obtain ⟨k, b⟩ := x
    simp only [hide, List.map_cons, look_cons]
    split
    · rename_i e
      subst e
      rfl
    · exact ih
def hid (ids : List Nat) (m id : Nat) : Bool := ids.contains id || Nat.ble m id
theorem hide_back {ids : List Nat} {m : Nat} {H : List (Nat × Blk γ)} {id : Nat} {b : Blk γ} (h : look (hide ids m H) id = some b) (hb : b ≠ .gone) : look H id = some b ∧ ((∃ t cs, b = .own t cs) → hid ids m id = false) := by
  rw [look_hide] at h
  cases hl : look H id with
  | none => rw [hl] at h; cases h
  | some c =>
    rw [hl] at h
    injection h with h
    cases c with
    | gone => exact absurd h.symm hb
    | own t cs =>
      simp only [hideB] at h
      split at h
      · exact absurd h.symm hb
      · rename_i e
        subst h
        exact ⟨rfl, fun _ => e⟩
    | ro t cs => exact ⟨by rw [← h]; rfl, fun ⟨t, cs, e⟩ => by rw [← h] at e; cases e⟩
    | ext g => exact ⟨by rw [← h]; rfl, fun ⟨t, cs, e⟩ => by rw [← h] at e; cases e⟩
theorem hide_fwd {ids : List Nat} {m : Nat} {H : List (Nat × Blk γ)} {id : Nat} {b : Blk γ} (h : look H id = some b) (hb : (∃ t cs, b = .own t cs) → hid ids m id = false) : look (hide ids m H) id = some b := by
  rw [look_hide, h]
  cases b with
  | own t cs =>
    have := hb ⟨t, cs, rfl⟩
    simp only [hid] at this
    simp only [Option.map_some, hideB, this]
  | gone => rfl
  | ro t cs => rfl
  | ext g => rfl
theorem there_ne {b : Blk γ} (h : b.there) : b ≠ .gone := by rintro rfl; exact h
/-- What is told of a later heap tells of an earlier one what is not written to in between. -/
theorem HR.earlier {ids : List Nat} {m n' : Nat} {H H' : List (Nat × Blk γ)} {E' : Env} (h : HR E' n' (hide ids m H') B w) (hA : Ag n E E') (hids : ∀ id b, look H id = some b → id < n)
    (hokc : ∀ id ty cs, look H id = some (.own ty cs) ∨ look H id = some (.ro ty cs) → ∀ c ∈ cs, c.okn E n)
    (hg : ∀ id b, look H id = some b → look H' id = some b ∨ (hid ids m id = true ∧ ∃ ty cs, b = .own ty cs)) : HR E n (hide ids m H) B w := by
  have fwd : ∀ {id b}, look (hide ids m H) id = some b → b ≠ .gone → look (hide ids m H') id = some b ∧ look H id = some b := by
    intro id b hl hb
    obtain ⟨h1, h2⟩ := hide_back hl hb
    refine ⟨?_, h1⟩
    rcases hg id b h1 with h3 | ⟨h3, h4⟩
    · exact hide_fwd h3 h2
    · rw [h2 h4] at h3; cases h3
  refine ⟨?_, ?_, ?_, ?_, ?_, ?_⟩
  · intro id ty cs hl
    obtain ⟨h1, h2⟩ := fwd hl (by simp)
    obtain ⟨g, k1, k2, k3⟩ := h.own id ty cs h1
    exact ⟨g, by rw [← hA.addr _ (hids _ _ h2)]; exact k1, k2, by rw [k3, map_den_ag (hokc id ty cs (.inl h2)) hA]⟩
  · intro id ty cs hl
    obtain ⟨h1, h2⟩ := fwd hl (by simp)
    obtain ⟨g, k1, k3⟩ := h.ro id ty cs h1
    exact ⟨g, by rw [← hA.addr _ (hids _ _ h2)]; exact k1, by rw [k3, map_den_ag (hokc id ty cs (.inr h2)) hA]⟩
  · intro id g hl
    obtain ⟨h1, h2⟩ := fwd hl (by simp)
    obtain ⟨k1, k2⟩ := h.ext id g h1
    refine ⟨by rw [← hA.len _ (hids _ _ h2)]; exact k1, fun i hi => ?_⟩
    obtain ⟨ad, k3, k4⟩ := k2 i hi
    refine ⟨ad, by rw [← hA.addr _ (hids _ _ h2)]; exact k3, fun j c hc => ?_⟩
    rw [k4 j c hc, row_den hc E E']
  · intro i j ty cs b x y hij hi hj hbt hx hy
    obtain ⟨h1, h2⟩ := fwd hi (by simp)
    obtain ⟨h3, h4⟩ := fwd hj (there_ne hbt)
    rw [← hA.addr _ (hids _ _ h2)] at hx
    rw [← hA.addr _ (hids _ _ h4)] at hy
    exact h.sep i j ty cs b x y hij h1 h3 hbt hx hy
  · intro id b hl
    rw [look_hide] at hl
    cases hc : look H id with
    | none => rw [hc] at hl; cases hl
    | some c => exact hids _ _ hc
  · intro id ty cs hl c hc
    rcases hl with hl | hl
    · exact hokc id ty cs (.inl (hide_back hl (by simp)).1) c hc
    · exact hokc id ty cs (.inr (hide_back hl (by simp)).1) c hc
theorem HR.hide {ids : List Nat} {m : Nat} {H : List (Nat × Blk γ)} (h : HR E n H B w) : HR E n (Sx.hide ids m H) B w := by
  refine ⟨?_, ?_, ?_, ?_, ?_, ?_⟩
  · exact fun id ty cs hl => h.own id ty cs (hide_back hl (by simp)).1
  · exact fun id ty cs hl => h.ro id ty cs (hide_back hl (by simp)).1
  · exact fun id g hl => h.ext id g (hide_back hl (by simp)).1
  · exact fun i j ty cs b x y hij hi hj hbt hx hy => h.sep i j ty cs b x y hij (hide_back hi (by simp)).1 (hide_back hj (there_ne hbt)).1 hbt hx hy
  · intro id b hl
    rw [look_hide] at hl
    cases hc : look H id with
    | none => rw [hc] at hl; cases hl
    | some c => exact h.ids _ _ hc
  · intro id ty cs hl c hc
    rcases hl with hl | hl
    · exact h.okc id ty cs (.inl (hide_back hl (by simp)).1) c hc
    · exact h.okc id ty cs (.inr (hide_back hl (by simp)).1) c hc
theorem stepH_sound (he : EqOK cx.P cx.eqs) (hc : CallsOK cx) {ids : List Nat} {m : Nat} {o : Oper} {k : St γ → Prop} (h : stepH cx ids m o st k) (hT : TR E st a) (hne : ∃ w, Cls E st.n (hide ids m st.heap) B w0 w) :
    ∃ x, k (st.put o.dst x) ∧ x.okn E st.n ∧ ∀ w, Cls E st.n (hide ids m st.heap) B w0 w → o.quietAt cx.P a (fun w' => Below w.heap.size w w') w (x.den E) := by
  obtain ⟨nt, tm, n, H⟩ := st
  obtain ⟨x, h1, h2, h3⟩ := stepQ_sound (st := ⟨nt, tm, n, hide ids m H⟩) (B := B) (w0 := w0) he hc h ⟨hT.size, hT.get, hT.ok, hT.defs⟩ hne
  refine ⟨x, ?_, h2, h3⟩
  cases hd : o.dst with
  | none => rw [hd] at h1; exact h1
  | some d =>
    rw [hd] at h1
    simp only [St.put] at h1 ⊢
    cases hb : Nat.blt d nt with
    | true => rw [hb] at h1; exact h1
    | false => rw [hb] at h1; exact h1
theorem guard_look {ops : List Oper} {j d : Nat} {b : Bool} (h : guardV ops st j = .yes b d) : look st.tmps d = some (.v (.c (.v (.bool b)))) := by
  unfold guardV at h
  split at h
  · split at h
    · split at h
      · rename_i hl
        injection h with e1 e2
        subst e1; subst e2
        exact hl
      · cases h
      · cases h
    · cases h
  · cases h
/-- A guard's value, laid down once more. -/
theorem put_same {d : Nat} {x : ST} (h : look st.tmps d = some x) (e : Nat) : look (st.put (some d) x).tmps e = look st.tmps e := by
  simp only [St.put]
  split
  · simp only [look_cons]
    split
    · rename_i e'; subst e'; exact h.symm
    · rfl
  · rfl
/-- One operation that only reads. -/
theorem quiet_one (he : EqOK cx.P cx.eqs) (hc : CallsOK cx) {ids : List Nat} {m : Nat} {ops : Array Oper} {o : Oper} {K : St γ → Prop} (h : execOps (stepH cx ids m) ops.toList [o] st K) (hT : TR E st a)
    (hne : ∃ w, Cls E st.n (hide ids m st.heap) B w0 w) :
    ∃ st' v, K st' ∧ TR E st' (a.put o.dst v) ∧ st'.n = st.n ∧ st'.heap = st.heap ∧ (∀ d, o.dst ≠ some d → look st'.tmps d = look st.tmps d) ∧ QY cx.P ops (Cls E st.n (hide ids m st.heap) B w0) o v a := by
  simp only [execOps, putK_eq] at h
  split at h
  · rename_i hg
    obtain ⟨x, h1, h2, h3⟩ := stepH_sound (B := B) (w0 := w0) he hc h hT hne
    exact ⟨_, _, h1, hT.put h2, (put_heap _ _ _).1, (put_heap _ _ _).2, fun d hd => put_tm _ _ _ _ hd, .inl ⟨by simp [Region.wanted, hg], h3⟩⟩
  · rename_i j pol hg
    cases hgv : guardV ops.toList st j with
    | bad => rw [hgv] at h; exact h.elim
    | no =>
      rw [hgv] at h
      refine ⟨_, _, h, hT.put (x := .t []) (fun _ h => by cases h), (put_heap _ _ _).1, (put_heap _ _ _).2, fun d hd => put_tm _ _ _ _ hd, .inr ⟨?_, rfl⟩⟩
      simpa using guard_no hT hg hgv
    | yes b d =>
      rw [hgv] at h
      obtain ⟨hlit, hw⟩ := guard_yes hT hg hgv
      have hl := guard_look hgv
      have run : ∀ c, b = c → stepH cx ids m o (st.put (some d) (.v (.c (.v (.bool c))))) (fun st' => K st') → (b == pol) = true →
          ∃ st' v, K st' ∧ TR E st' (a.put o.dst v) ∧ st'.n = st.n ∧ st'.heap = st.heap ∧ (∀ d, o.dst ≠ some d → look st'.tmps d = look st.tmps d) ∧ QY cx.P ops (Cls E st.n (hide ids m st.heap) B w0) o v a := by
        intro c hbc h hp
        obtain ⟨e1, e2⟩ := put_heap st (some d) (.v (.c (.v (.bool c))))
        obtain ⟨x, h1, h2, h3⟩ := stepH_sound (B := B) (w0 := w0) he hc h (hlit c hbc) (by rw [e1, e2]; exact hne)
        refine ⟨_, _, h1, (hlit c hbc).put h2, (put_heap _ _ _).1.trans e1, (put_heap _ _ _).2.trans e2, fun f hf => (put_tm _ _ _ _ hf).trans (put_same (by rw [hl, hbc]) f), .inl ⟨by rw [hw]; exact hp, ?_⟩⟩
        rw [e1, e2] at h3
        exact h3
      have skip : ∀ c, b = c → K ((st.put (some d) (.v (.c (.v (.bool c))))).put o.dst (.t [])) → (b == pol) = false →
          ∃ st' v, K st' ∧ TR E st' (a.put o.dst v) ∧ st'.n = st.n ∧ st'.heap = st.heap ∧ (∀ d, o.dst ≠ some d → look st'.tmps d = look st.tmps d) ∧ QY cx.P ops (Cls E st.n (hide ids m st.heap) B w0) o v a := by
        intro c hbc h hp
        obtain ⟨e1, e2⟩ := put_heap st (some d) (.v (.c (.v (.bool c))))
        exact ⟨_, _, h, (hlit c hbc).put (x := .t []) (fun _ h => by cases h), (put_heap _ _ _).1.trans e1, (put_heap _ _ _).2.trans e2, fun f hf => (put_tm _ _ _ _ hf).trans (put_same (by rw [hl, hbc]) f), .inr ⟨by rw [hw]; exact hp, rfl⟩⟩
      rcases br_elim h with ⟨hb, h⟩ | ⟨hb, h⟩
      · cases pol with
        | true => exact run true hb h (by rw [hb]; rfl)
        | false => exact skip true hb h (by rw [hb]; rfl)
      · cases pol with
        | false => exact run false hb h (by rw [hb]; rfl)
        | true => exact skip false hb h (by rw [hb]; rfl)
/-- What one operation of a region that draws leaves alone. -/
structure FrR (ids : List Nat) (m : Nat) (E : Env) (st : St γ) (w : World) (a : Act) (o : Oper) (E' : Env) (st' : St γ) (w' : World) (a' : Act) : Prop where
  keep : ∀ b, b < w.heap.size → (∀ id ty cs x, look st.heap id = some (.own ty cs) → E.addr id = some x → x.block ≠ b) → w'.heap[b]? = w.heap[b]?
  own : ∀ id b x, look st'.heap id = some b → b.there → E'.addr id = some x → (∃ b, look st.heap id = some b ∧ b.there ∧ E.addr id = some x) ∨ w.heap.size ≤ x.block
  size : w.heap.size ≤ w'.heap.size
  put : ∃ v, a' = a.put o.dst v
  ag : Ag st.n E E'
  le : st.n ≤ st'.n
  grown : ∀ id b, look st.heap id = some b → look st'.heap id = some b ∨ (hid ids m id = true ∧ ∃ ty cs, b = .own ty cs)
  tm : ∀ d, o.dst ≠ some d → look st'.tmps d = look st.tmps d
theorem stepR_step {ids : List Nat} {m : Nat} {o : Oper} {k : St γ → Prop} (h : stepR cx ids m o st k) : step cx o st k ∧ ∀ t x y id off, o.op = .store t x y → evalV st x = some (.c (.p id off)) → hid ids m id = true := by
  unfold stepR at h
  split at h
  · rename_i t x y hop
    split at h
    · rename_i id off hx
      split at h
      · rename_i hb
        refine ⟨h, fun t' x' y' id' off' h1 h2 => ?_⟩
        rw [hop] at h1
        injection h1 with _ h1 _
        subst h1
        rw [hx] at h2
        injection h2 with h2
        injection h2 with h2
        injection h2 with h2
        subst h2
        exact hb
      · exact h.elim
    · exact h.elim
  · rename_i hno
    exact ⟨h, fun t x y id off h1 => absurd h1 (hno t x y)⟩
theorem FrR.of {ids : List Nat} {m : Nat} {o : Oper} {E' : Env} {st' : St γ} {w' : World} {a' : Act} (h : Fr E st w a o E' st' w' a')
    (hs : ∀ t x y id off, o.op = .store t x y → evalV st x = some (.c (.p id off)) → hid ids m id = true) : FrR ids m E st w a o E' st' w' a' :=
  ⟨h.keep, h.own, h.size, h.put, h.ag, h.le, fun id b hl => (h.grown id b hl).imp (fun h => h) fun ⟨t, x, y, off, ty, cs, h1, h2, h3⟩ => ⟨hs t x y id off h1 h2, ty, cs, h3⟩, h.tm⟩
theorem FrR.idle {ids : List Nat} {m : Nat} {o : Oper} {st' : St γ} (hn : st'.n = st.n) (hh : st'.heap = st.heap) (ht : ∀ d, o.dst ≠ some d → look st'.tmps d = look st.tmps d) (v : Value) : FrR ids m E st w a o E st' w (a.put o.dst v) :=
  ⟨fun _ _ _ => rfl, fun id b x hl hb hx => .inl ⟨b, by rw [← hh]; exact hl, hb, hx⟩, Nat.le_refl _, ⟨v, rfl⟩, Ag.refl _ _, by rw [hn]; exact Nat.le_refl _, fun id b hl => .inl (by rw [hh]; exact hl), ht⟩
theorem FrR.over {ids : List Nat} {m : Nat} {o : Oper} {E' : Env} {st1 st' : St γ} {w' : World} {a' : Act} (h : FrR ids m E st1 w a o E' st' w' a') (hn : st1.n = st.n) (hh : st1.heap = st.heap) (ht : ∀ d, look st1.tmps d = look st.tmps d) :
    FrR ids m E st w a o E' st' w' a' :=
  ⟨by rw [← hh]; exact h.keep, by rw [← hh]; exact h.own, h.size, h.put, by rw [← hn]; exact h.ag, by rw [← hn]; exact h.le, by rw [← hh]; exact h.grown, fun d hd => (h.tm d hd).trans (ht d)⟩
/-- One operation that may do more. -/
theorem eff_one (he : EqOK cx.P cx.eqs) (hc : CallsOK cx) {ids : List Nat} {m : Nat} {ops : Array Oper} {o : Oper} {K : St γ → Prop} (h : execOps (stepR cx ids m) ops.toList [o] st K) (hR : Rep E st B w0 w a) {K' : Act → World → Prop}
    (hk : ∀ (st' : St γ) (E' : Env) (a' : Act) (w' : World), K st' → Rep E' st' B w0 w' a' → FrR ids m E st w a o E' st' w' a' → K' a' w') :
    if Region.wanted o (yielded ops a.tmps) = true then o.wp cx.P a w K' Q else K' (a.put o.dst undef) w := by
  simp only [execOps, putK_eq] at h
  split at h
  · rename_i hg
    simp only [Region.wanted, hg, if_true]
    obtain ⟨h1, h2⟩ := stepR_step h
    exact step_sound he hc h1 hR fun st' E' a' w' k1 k2 k3 => hk st' E' a' w' k1 k2 (.of k3 h2)
  · rename_i j pol hg
    cases hgv : guardV ops.toList st j with
    | bad => rw [hgv] at h; exact h.elim
    | no =>
      rw [hgv] at h
      rw [if_neg (guard_no hR.tr hg hgv)]
      exact hk _ E _ _ h (hR.pure (x := .t []) (fun _ h => by cases h)) (.idle (put_heap _ _ _).1 (put_heap _ _ _).2 (fun d hd => put_tm _ _ _ _ hd) undef)
    | yes b d =>
      rw [hgv] at h
      obtain ⟨hlit0, hw⟩ := guard_yes hR.tr hg hgv
      have hl := guard_look hgv
      have hlit : ∀ c, b = c → Rep E (st.put (some d) (.v (.c (.v (.bool c))))) B w0 w a := fun c hbc => by
        have h1 := put_heap st (some d) (.v (.c (.v (.bool c))))
        exact ⟨hlit0 c hbc, by rw [h1.1, h1.2]; exact hR.hr, hR.below, hR.base, hR.ag, by rw [h1.1]; exact hR.le, by rw [h1.2]; exact hR.fresh⟩
      have run : ∀ c, b = c → stepR cx ids m o (st.put (some d) (.v (.c (.v (.bool c))))) (fun st' => K st') → o.wp cx.P a w K' Q := by
        intro c hbc h
        obtain ⟨e1, e2⟩ := put_heap st (some d) (.v (.c (.v (.bool c))))
        obtain ⟨h1, h2⟩ := stepR_step h
        exact step_sound he hc h1 (hlit c hbc) fun st' E' a' w' k1 k2 k3 => hk st' E' a' w' k1 k2 ((FrR.of k3 h2).over e1 e2 fun f => put_same (by rw [hl, hbc]) f)
      have skip : ∀ c, b = c → K ((st.put (some d) (.v (.c (.v (.bool c))))).put o.dst (.t [])) → K' (a.put o.dst undef) w := by
        intro c hbc h
        obtain ⟨e1, e2⟩ := put_heap st (some d) (.v (.c (.v (.bool c))))
        exact hk _ E _ _ h ((hlit c hbc).pure (x := .t []) (fun _ h => by cases h)) ((FrR.idle (st := st.put (some d) (.v (.c (.v (.bool c))))) (put_heap _ _ _).1 (put_heap _ _ _).2 (fun d hd => put_tm _ _ _ _ hd) undef).over e1 e2 fun f => put_same (by rw [hl, hbc]) f)
      rw [hw]
      rcases br_elim h with ⟨hb, h⟩ | ⟨hb, h⟩
      · cases pol with
        | true =>
          rw [hb]
          exact run true hb h
        | false =>
          rw [hb, if_neg (by decide)]
          exact skip true hb h
      · cases pol with
        | false =>
          rw [hb]
          exact run false hb h
        | true =>
          rw [hb, if_neg (by decide)]
          exact skip false hb h
end
end Go.Sx
