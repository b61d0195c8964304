/- The executor's answers are the model's: what follows from a whole text. -/
import Derived.Test.YtcjiokiafdagdaaSxE
import Derived.LoopN
namespace Go.Sx
open Go.RowKit
set_option linter.unusedVariables false
set_option linter.unusedSimpArgs false
theorem br_elim {b : Bool} {p q : Prop} (h : br b p q) : (b = true ∧ p) ∨ (b = false ∧ q) := by
  cases b
  · exact .inr ⟨rfl, h.f rfl⟩
  · exact .inl ⟨rfl, h.t rfl⟩
theorem br_intro {b : Bool} {p q : Prop} (h1 : b = true → p) (h2 : b = false → q) : br b p q := by
  exact ⟨h1, h2⟩
/-- A function whose text is there, or one that the model stands in for. -/
def Enters (P : Program) (f : FuncId) : Prop := ∀ (args : Array Value) (w : World), (callFunc f args).run P w = .ok (.enter f args) w
theorem enters_of {P : Program} {f : FuncId} {fn : Func} {c : Code} (hf : P.funcs[f]? = some fn) (hn : (fn.name == "runtime.NumGoroutine") = false) (hb : fn.body = some c) : Enters P f := by
  intro args w
  have hn' : ¬ fn.name = "runtime.NumGoroutine" := by
    intro h
    rw [h] at hn
    simp at hn
  simp [callFunc, hf, hb, hn']
def Does (P : Program) (f : FuncId) (args : Array Value) (w : World) (R : Ending → World → Prop) : Prop :=
  (Enters P f ∧ Calls P f args w R) ∨ ∃ v, (callFunc f args).run P w = .ok (.value v) w ∧ R (.returned v) w
section
variable {γ : Type} [Gh γ]
def stillH (H : List (Nat × Blk γ)) : List (Nat × Blk γ) := H.map fun x => (x.1, x.2.still)
/-- Rows that a callee has made. -/
def NewOK (E : Env) (n : Nat) (new : List (Blk γ)) (w w' : World) : Prop :=
  ∀ k b, new[k]? = some b → ∃ g, b = .ext g ∧ ExtAt E (n + k) g w' ∧ ∀ ad, E.addr (n + k) = some ad → w.heap.size ≤ ad.block
/-- What a callee is said to do. -/
def CallOK (P : Program) (f : FuncId) (n : Nat) (H : List (Nat × Blk γ)) (args : List SV) (r : CR γ) : Prop :=
  ∀ (E : Env) (w : World), HR E n (stillH H) w.heap.size w → (∀ x ∈ args, x.okn E n) → Does P f (args.map (SV.den E)).toArray w fun e w' =>
    ∃ E', Ag n E E' ∧ e = .returned (r.res.den E') ∧ r.res.okn E' (n + r.new.length) ∧ Below w.heap.size w w' ∧ NewOK E' n r.new w w'
def CallsOK (cx : Cx γ) : Prop := ∀ f n H args r, cx.calls f n H args = some r → r.pre = true → CallOK cx.P f n H args r

variable {P : Program} {E : Env} {st : St γ} {a : Act} {w : World} {w0 : Beg} {B n : Nat}
omit [Gh γ] in
theorem look_still (H : List (Nat × Blk γ)) (id : Nat) : look (stillH H) id = (look H id).map Blk.still := by
  induction H with
  | nil => rfl
  | cons x H ih =>
    obtain ⟨k, b⟩ := x
    simp only [stillH, List.map_cons, look_cons]
    split
    · rfl
    · exact ih
theorem HR.still {H : List (Nat × Blk γ)} {B' : Nat} (h : HR E n H B w) : HR E n (stillH H) B' w := by
  have back : ∀ {id b}, look (stillH H) id = some b → ∃ c, look H id = some c ∧ c.still = b := by
    intro id b hl
    rw [look_still] at hl
    cases hc : look H id with
    | none => rw [hc] at hl; cases hl
    | some c => rw [hc] at hl; injection hl with hl; exact ⟨c, rfl, hl⟩
  have noown : ∀ {id ty cs}, look (stillH H) id ≠ some (.own ty cs) := by
    intro id ty cs hl
    obtain ⟨c, _, hc⟩ := back hl
    cases c <;> cases hc
  refine ⟨fun id ty cs hl => absurd hl noown, ?_, ?_, fun i j ty cs b x y _ hi => absurd hi noown, ?_, ?_⟩
  · intro id ty cs hl
    obtain ⟨c, h1, hc⟩ := back hl
    cases c with
    | gone => cases hc
    | own ty' cs' =>
      injection hc with e1 e2
      subst e1; subst e2
      obtain ⟨g, h2, _, h3⟩ := h.own _ _ _ h1
      exact ⟨g, h2, h3⟩
    | ro ty' cs' =>
      injection hc with e1 e2
      subst e1; subst e2
      exact h.ro _ _ _ h1
    | ext g => cases hc
  · intro id g hl
    obtain ⟨c, h1, hc⟩ := back hl
    cases c with
    | gone => cases hc
    | own ty' cs' => cases hc
    | ro ty' cs' => cases hc
    | ext g' =>
      injection hc with e1
      subst e1
      exact h.ext _ _ h1
  · intro id b hl
    obtain ⟨c, h1, _⟩ := back hl
    exact h.ids _ _ h1
  · intro id ty cs hl c hc
    rcases hl with hl | hl
    · exact absurd hl noown
    · obtain ⟨d, h1, hd⟩ := back hl
      cases d with
      | gone => cases hd
      | own ty' cs' =>
        injection hd with e1 e2
        subst e1; subst e2
        exact h.okc _ _ _ (.inl h1) c hc
      | ro ty' cs' =>
        injection hd with e1 e2
        subst e1; subst e2
        exact h.okc _ _ _ (.inr h1) c hc
      | ext g => cases hd
/-- One new row from outside. -/
theorem HR.push {H : List (Nat × Blk γ)} (h : HR E n H B w) {g : γ} {m : Nat} (hx : ExtAt E n g w) (hm : ∀ id ty cs x, look H id = some (.own ty cs) → E.addr id = some x → x.block < m) (hf : ∀ ad, E.addr n = some ad → m ≤ ad.block) :
    HR E (n + 1) ((n, .ext g) :: H) B w := by
  refine ⟨?_, ?_, ?_, ?_, ?_, ?_⟩
  · intro id ty cs hl
    rw [look_cons] at hl
    split at hl
    · injection hl with hl; cases hl
    · exact h.own _ _ _ hl
  · intro id ty cs hl
    rw [look_cons] at hl
    split at hl
    · injection hl with hl; cases hl
    · exact h.ro _ _ _ hl
  · intro id gg hl
    rw [look_cons] at hl
    split at hl
    · rename_i e
      subst e
      injection hl with hl
      injection hl with hl
      subst hl
      exact hx
    · exact h.ext _ _ hl
  · intro i j ty cs b x y hij hi hj hbt h1 h2
    rw [look_cons] at hi hj
    split at hi
    · injection hi with hi; cases hi
    · split at hj
      · rename_i e
        subst e
        have := hm _ _ _ _ hi h1
        have := hf _ h2
        omega
      · exact h.sep _ _ _ _ _ _ _ hij hi hj hbt h1 h2
  · intro id b hl
    rw [look_cons] at hl
    split at hl
    · omega
    · have := h.ids _ _ hl; omega
  · intro id ty cs hl c hc
    rw [look_cons] at hl
    split at hl
    · rcases hl with hl | hl <;> (injection hl with hl; cases hl)
    · exact (h.okc _ _ _ hl c hc).ag (Nat.le_succ _) (Ag.refl _ _)
omit [Gh γ] in
theorem news_facts : ∀ (new : List (Blk γ)) (st : St γ), (st.news new).nt = st.nt ∧ (st.news new).tmps = st.tmps ∧ (st.news new).n = st.n + new.length
  | [], st => ⟨rfl, rfl, rfl⟩
  | b :: r, st => by
    obtain ⟨h1, h2, h3⟩ := news_facts r (st.new b)
    refine ⟨h1, h2, ?_⟩
    simp only [St.news]
    rw [h3]
    simp only [St.new, List.length_cons]
    omega
theorem HR.news : ∀ (new : List (Blk γ)) (st : St γ) {m : Nat}, HR E st.n st.heap B w → (∀ id ty cs x, look st.heap id = some (.own ty cs) → E.addr id = some x → x.block < m) →
    (∀ k b, new[k]? = some b → ∃ g, b = .ext g ∧ ExtAt E (st.n + k) g w ∧ ∀ ad, E.addr (st.n + k) = some ad → m ≤ ad.block) → HR E (st.news new).n (st.news new).heap B w
  | [], st, m, h, _, _ => h
  | b :: r, st, m, h, hm, hn => by
    obtain ⟨g, rfl, hx, hf⟩ := hn 0 b rfl
    have h1 := h.push (g := g) hx hm hf
    refine HR.news r (st.new (.ext g)) (m := m) h1 ?_ ?_
    · intro id ty cs x hl hx'
      simp only [St.new, look_cons] at hl
      split at hl
      · injection hl with hl; cases hl
      · exact hm _ _ _ _ hl hx'
    · intro k b hk
      have := hn (k + 1) b (by simpa using hk)
      simp only [St.new]
      rwa [show st.n + 1 + k = st.n + (k + 1) from by omega]
omit [Gh γ] in
theorem TR.ag {E' : Env} (hT : TR E st a) {m : Nat} {H : List (Nat × Blk γ)} (hm : st.n ≤ m) (hA : Ag st.n E E') : TR E' ⟨st.nt, st.tmps, m, H⟩ a :=
  ⟨hT.size, fun d x h => by rw [ST.den_ag (hT.ok _ _ h) hA]; exact hT.get _ _ h, fun d x h => (hT.ok _ _ h).ag hm hA, hT.defs⟩
omit [Gh γ] in
theorem news_look : ∀ (new : List (Blk γ)) (st : St γ) (id : Nat) (b : Blk γ), look (st.news new).heap id = some b → look st.heap id = some b ∨ ∃ k, id = st.n + k ∧ new[k]? = some b
  | [], st, id, b, h => .inl h
  | c :: r, st, id, b, h => by
    rcases news_look r (st.new c) id b h with h | ⟨k, h1, h2⟩
    · simp only [St.new, look_cons] at h
      split at h
      · rename_i e
        injection h with h
        subst h
        exact .inr ⟨0, by omega, rfl⟩
      · exact .inl h
    · exact .inr ⟨k + 1, by simp only [St.new] at h1; omega, by simpa using h2⟩
omit [Gh γ] in
theorem news_old : ∀ (new : List (Blk γ)) (st : St γ) (id : Nat) (b : Blk γ), id < st.n → look st.heap id = some b → look (st.news new).heap id = some b
  | [], _, _, _, _, h => h
  | c :: r, st, id, b, hi, h => by
    refine news_old r (st.new c) id b (Nat.lt_succ_of_lt hi) ?_
    simp only [St.new, look_cons]
    rw [if_neg (by omega)]
    exact h
theorem Rep.pure (hR : Rep E st B w0 w a) {d : Option Nat} {x : ST} (hx : x.okn E st.n) : Rep E (st.put d x) B w0 w (a.put d (x.den E)) := by
  have h : (st.put d x).n = st.n ∧ (st.put d x).heap = st.heap := by
    cases d with
    | none => exact ⟨rfl, rfl⟩
    | some d => simp only [St.put]; split <;> exact ⟨rfl, rfl⟩
  exact ⟨hR.tr.put hx, by rw [h.1, h.2]; exact hR.hr, hR.below, hR.base, hR.ag, by rw [h.1]; exact hR.le, by rw [h.2]; exact hR.fresh⟩
/-- A new block, and a pointer to it. -/
theorem Rep.alloc (hR : Rep E st B w0 w a) {t : TypeId} {cs : List SC} (hcs : ∀ c ∈ cs, c.okn E st.n) (d : Option Nat) (x : ST) (v : Value)
    (hx : ∀ E' : Env, E'.addr st.n = some ⟨w.heap.size, 0, none⟩ → x.okn E' (st.n + 1) ∧ x.den E' = v) :
    ∃ E', (Ag st.n E E' ∧ E'.addr st.n = some ⟨w.heap.size, 0, none⟩) ∧ Rep E' ((st.new (.own t cs)).put d x) B w0 (w.alloc (.cells (cs.map (SC.den E)).toArray t)) (a.put d v) := by
  have hA := E.set_ag st.n (some ⟨w.heap.size, 0, none⟩) 0 0
  have h1 := hR.hr.alloc hR.base (t := t) hcs
  have h2 : TR (E.set st.n (some ⟨w.heap.size, 0, none⟩) 0 0) (st.new (.own t cs)) a := hR.tr.ag (Nat.le_succ _) hA
  obtain ⟨h3, h4⟩ := hx (E.set st.n (some ⟨w.heap.size, 0, none⟩) 0 0) (by simp [Env.set])
  have h5 : Rep (E.set st.n (some ⟨w.heap.size, 0, none⟩) 0 0) (st.new (.own t cs)) B w0 (w.alloc (.cells (cs.map (SC.den E)).toArray t)) a :=
    ⟨h2, h1, hR.below.alloc hR.base _, Nat.le_trans hR.base (by simp), hR.ag.trans (hA.mono hR.le), Nat.le_trans hR.le (Nat.le_succ _), fun id g ad hl h0 h1 => by
      simp only [St.new, look_cons] at hl
      split at hl
      · injection hl with hl; cases hl
      · rw [hA.addr _ (hR.hr.ids _ _ hl)] at h1
        exact hR.fresh id g ad hl h0 h1⟩
  exact ⟨_, ⟨hA, by simp [Env.set]⟩, h4 ▸ h5.pure h3⟩
theorem own_lt (hH : HR E n st.heap B w) : ∀ id ty cs x, look st.heap id = some (.own ty cs) → E.addr id = some x → x.block < w.heap.size :=
  fun id ty cs x hl hx => hH.stands hl (b := .own ty cs) trivial hx
/-- Behind a callee. -/
theorem Rep.call (hR : Rep E st B w0 w a) {new : List (Blk γ)} {E' : Env} {w' : World} {x : ST} (hA : Ag st.n E E') (hx : x.okn E' (st.n + new.length)) (hb : Below w.heap.size w w') (hn : NewOK E' st.n new w w') (d : Option Nat) :
    Rep E' ((st.news new).put d x) B w0 w' (a.put d (x.den E')) := by
  obtain ⟨e1, e2, e3⟩ := news_facts new st
  have h1 := hR.hr.grow (w' := w') hA (fun k hk => hb.block k hk)
  have h2 := HR.news new st (m := w.heap.size) h1 (fun id ty cs y hl hy => by
    rw [hA.addr _ (hR.hr.ids _ _ hl)] at hy
    exact own_lt hR.hr id ty cs y hl hy) hn
  have h3 : TR E' (st.news new) a := by
    have := hR.tr.ag (m := (st.news new).n) (H := (st.news new).heap) (by rw [e3]; omega) hA
    rw [← e1, ← e2] at this
    exact this
  have h4 : Rep E' (st.news new) B w0 w' a := ⟨h3, h2, hR.below.trans (hb.mono hR.base), Nat.le_trans hR.base hb.size, hR.ag.trans (hA.mono hR.le), by rw [e3]; have := hR.le; omega, fun id g ad hl h0 h1 => by
    rcases news_look new st id _ hl with hl | ⟨k, rfl, hk⟩
    · rw [hA.addr _ (hR.hr.ids _ _ hl)] at h1
      exact hR.fresh id g ad hl h0 h1
    · obtain ⟨_, _, _, hf⟩ := hn k _ hk
      exact Nat.le_trans hR.base (hf ad h1)⟩
  exact h4.pure (by rw [e3]; exact hx)
omit [Gh γ] in
theorem put_heap (st : St γ) (d : Option Nat) (x : ST) : (st.put d x).n = st.n ∧ (st.put d x).heap = st.heap := by
  cases d with
  | none => exact ⟨rfl, rfl⟩
  | some d => simp only [St.put]; split <;> exact ⟨rfl, rfl⟩
/-- What one operation leaves alone. -/
structure Fr (E : Env) (st : St γ) (w : World) (a : Act) (o : Oper) (E' : Env) (st' : St γ) (w' : World) (a' : Act) : Prop where
  keep : ∀ b, b < w.heap.size → (∀ id ty cs x, look st.heap id = some (.own ty cs) → E.addr id = some x → x.block ≠ b) → w'.heap[b]? = w.heap[b]?
  own : ∀ id b x, look st'.heap id = some b → b.there → E'.addr id = some x → (∃ b, look st.heap id = some b ∧ b.there ∧ E.addr id = some x) ∨ w.heap.size ≤ x.block
  size : w.heap.size ≤ w'.heap.size
  put : ∃ v, a' = a.put o.dst v
  ag : Ag st.n E E'
  le : st.n ≤ st'.n
  grown : ∀ id b, look st.heap id = some b → look st'.heap id = some b ∨ ∃ t x y off ty cs, o.op = .store t x y ∧ evalV st x = some (.c (.p id off)) ∧ b = .own ty cs
  ext : ∀ id g, id < st.n → look st'.heap id = some (.ext g) → look st.heap id = some (.ext g)
  tm : ∀ d, o.dst ≠ some d → look st'.tmps d = look st.tmps d
omit [Gh γ] in
theorem put_tm (st : St γ) (d : Option Nat) (x : ST) (e : Nat) (h : d ≠ some e) : look (st.put d x).tmps e = look st.tmps e := by
  cases d with
  | none => rfl
  | some d =>
    simp only [St.put]
    split
    · simp only [look_cons]
      rw [if_neg (fun e' => h (by rw [e']))]
    · rfl
theorem Fr.pure {o : Oper} (x : ST) (v : Value) : Fr E st w a o E (st.put o.dst x) w (a.put o.dst v) := by
  obtain ⟨e1, e2⟩ := put_heap st o.dst x
  exact ⟨fun _ _ _ => rfl, fun id b x hl hb hx => .inl ⟨b, by rw [e2] at hl; exact hl, hb, hx⟩, Nat.le_refl _, ⟨v, rfl⟩, Ag.refl _ _, by rw [e1]; exact Nat.le_refl _, fun id b hl => .inl (by rw [e2]; exact hl), fun id g _ hl => by rw [e2] at hl; exact hl, fun d hd => put_tm st o.dst x d hd⟩
theorem Fr.alloc (hH : HR E st.n st.heap B w) {o : Oper} {E' : Env} {t : TypeId} {cs : List SC} (hA : Ag st.n E E') (hE : E'.addr st.n = some ⟨w.heap.size, 0, none⟩) (x : ST) (v : Value) (ob : Obj) :
    Fr E st w a o E' ((st.new (.own t cs)).put o.dst x) (w.alloc ob) (a.put o.dst v) := by
  obtain ⟨e1, e2⟩ := put_heap (st.new (.own t cs)) o.dst x
  refine ⟨fun b hb _ => Below.heap_alloc w ob b hb, fun id b x hl hbt hx => ?_, by simp, ⟨v, rfl⟩, hA, by rw [e1]; exact Nat.le_succ _, fun id b hl => .inl ?_, fun id g hi hl => ?_, fun d hd => put_tm _ o.dst x d hd⟩
  · rw [e2] at hl
    simp only [St.new, look_cons] at hl
    split at hl
    · rename_i e
      subst e
      rw [hE] at hx
      injection hx with hx
      subst hx
      exact .inr (Nat.le_refl _)
    · rw [hA.addr _ (hH.ids _ _ hl)] at hx
      exact .inl ⟨_, hl, hbt, hx⟩
  · rw [e2]
    have := hH.ids _ _ hl
    simp only [St.new, look_cons]
    rw [if_neg (by omega)]
    exact hl
  · rw [e2] at hl
    simp only [St.new, look_cons] at hl
    rw [if_neg (by omega)] at hl
    exact hl
theorem Fr.call (hH : HR E st.n st.heap B w) {o : Oper} {E' : Env} {w' : World} {new : List (Blk γ)} (hA : Ag st.n E E') (hb : Below w.heap.size w w') (hn : NewOK E' st.n new w w') (x : ST) (v : Value) :
    Fr E st w a o E' ((st.news new).put o.dst x) w' (a.put o.dst v) := by
  obtain ⟨e1, e2⟩ := put_heap (st.news new) o.dst x
  obtain ⟨_, e4, e3⟩ := news_facts new st
  refine ⟨fun b hb' _ => hb.block b hb', fun id b x hl hbt hx => ?_, hb.size, ⟨v, rfl⟩, hA, by rw [e1, e3]; omega, fun id b hl => .inl ?_, fun id g hi hl => ?_, fun d hd => (put_tm _ o.dst x d hd).trans (by rw [e4])⟩
  · rw [e2] at hl
    rcases news_look new st id _ hl with hl | ⟨k, rfl, hk⟩
    · rw [hA.addr _ (hH.ids _ _ hl)] at hx
      exact .inl ⟨_, hl, hbt, hx⟩
    · obtain ⟨_, _, _, h1⟩ := hn k _ hk
      exact .inr (h1 x hx)
  · rw [e2]
    exact news_old new st id b (hH.ids _ _ hl) hl
  · rw [e2] at hl
    rcases news_look new st id _ hl with hl | ⟨k, rfl, hk⟩
    · exact hl
    · omega
theorem Fr.store (hH : HR E st.n st.heap B w) {o : Oper} {t : TypeId} {x y : Operand} {id off : Nat} {ty : TypeId} {cs new : List SC} {g : Nat} (hop : o.op = .store t x y) (hx : evalV st x = some (.c (.p id off))) (hl : look st.heap id = some (.own ty cs))
    (hg : E.addr id = some ⟨g, 0, none⟩) (r : Array Value) (u : ST) (v : Value) :
    Fr E st w a o E ((St.mk st.nt st.tmps st.n ((id, .own ty new) :: st.heap)).put o.dst u) (w.setRow g r) (a.put o.dst v) := by
  obtain ⟨e1, e2⟩ := put_heap (St.mk st.nt st.tmps st.n ((id, .own ty new) :: st.heap)) o.dst u
  refine ⟨fun b hb hno => setRow_other w g b _ ?_, fun j b x' hj hbt hx' => .inl ?_, by simp, ⟨v, rfl⟩, Ag.refl _ _, by rw [e1]; exact Nat.le_refl _, fun j b hj => ?_, fun j gg hi hj => ?_, fun d hd => put_tm _ o.dst u d hd⟩
  · exact fun e => hno id ty cs _ hl hg e.symm
  · rw [e2] at hj
    simp only [look_cons] at hj
    split at hj
    · rename_i e
      subst e
      exact ⟨_, hl, trivial, hx'⟩
    · exact ⟨_, hj, hbt, hx'⟩
  · rw [e2]
    simp only [look_cons]
    by_cases e : id = j
    · subst e
      rw [hl] at hj
      injection hj with hj
      exact .inr ⟨t, x, y, off, ty, cs, hop, hx, hj.symm⟩
    · rw [if_neg e]
      exact .inl hj
  · rw [e2] at hj
    simp only [look_cons] at hj
    split at hj
    · injection hj with hj
      cases hj
    · exact hj
end
end Go.Sx
