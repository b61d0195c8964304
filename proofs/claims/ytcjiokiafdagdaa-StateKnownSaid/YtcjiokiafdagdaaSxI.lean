/- The executor's answers are the model's: calls; loops with a relation. -/
import Derived.Test.YtcjiokiafdagdaaSxH5
namespace Go.Sx
open Go.RowKit
set_option linter.unusedVariables false
set_option linter.unusedSimpArgs false
section
variable {γ : Type} [Gh γ]
def initT : Nat → List SV → List (Nat × ST)
  | _, [] => []
  | i, x :: r => (i, .v x) :: initT (i + 1) r
def resOne (P : Program) (st : St γ) : ResultVar → Option SV
  | .tmp t => match look st.tmps t with
    | some (.v x) => some x
    | _ => none
  | .cell t ty => match look st.tmps t with
    | some (.v (.c (.p id o))) => match loadV P st.heap ty (.c (.p id o)) with
      | .ok (.v x) => some x
      | _ => none
    | _ => none
def resAll (P : Program) (st : St γ) : List ResultVar → Option (List SV)
  | [] => some []
  | x :: r => match resOne P st x with
    | some y => match resAll P st r with
      | some ys => some (y :: ys)
      | none => none
    | none => none
/-- What a call hands back. -/
def resOf (P : Program) (st : St γ) (rs : List ResultVar) : Option ST :=
  match resAll P st rs with
  | some [x] => some (.v x)
  | some xs => some (.t xs)
  | none => none
/-- New rows, by the numbers that a callee's own text has for them; none: nil. -/
def substC (n : Nat) (m : List (Option Nat)) : SC → SC
  | .r id => match Nat.blt id n with
    | true => .r id
    | false => match m[id - n]? with
      | some (some k) => .r k
      | some none => .v (.slice none 0 0)
      | none => .r id
  | x => x
def substV (n : Nat) (m : List (Option Nat)) : SV → SV
  | .c x => .c (substC n m x)
  | .a cs => .a (cs.map (substC n m))
def substT (n : Nat) (m : List (Option Nat)) : ST → ST
  | .v x => .v (substV n m x)
  | .t xs => .t (xs.map (substV n m))
def newsOK (st : St γ) : List (Option Nat) → List (Blk γ) → Prop
  | [], [] => True
  | none :: m, .ext g :: r => Gh.len g = 0 ∧ newsOK st m r
  | some k :: m, .ext g :: r => look st.heap k = some (.ext g) ∧ newsOK st m r
  | _, _ => False
def froms (n : Nat) : List (Option Nat) → Bool
  | [] => true
  | none :: r => froms n r
  | some k :: r => Nat.ble n k && froms n r
/-- An end of a text: it hands back what is said. -/
def Fin (P : Program) (rs : List ResultVar) (n : Nat) (r : CR γ) (m : List (Option Nat)) (e : SExit) (st : St γ) : Prop :=
  match e with
  | .exit _ => False
  | _ => resOf P st rs = some (substT n m r.res) ∧ newsOK st m r.new
/-- The result names what was there, or what is new. -/
def inC (n k : Nat) : SC → Bool
  | .v x => x.oneCell'
  | .p id _ => Nat.blt id n
  | .q id _ _ _ => Nat.blt id n
  | .s id _ => Nat.blt id n
  | .r id => Nat.blt id (n + k)
def inV (n k : Nat) : SV → Bool
  | .c x => inC n k x
  | .a cs => cs.all (inC n k)
def inT (n k : Nat) : ST → Bool
  | .v x => inV n k x
  | .t xs => xs.all (inV n k)
variable {cx : Cx γ} {P : Program} {E : Env} {st : St γ} {a : Act} {w : World} {w0 : Beg} {B n : Nat}
def rdRes (tmps : Array Value) (x : ResultVar) : Sem Value :=
  match x with
  | .tmp t => pure (tmps.getD t undef)
  | .cell p t => do loadVar t (← asAddr (tmps.getD p undef))
theorem results_eq (fn : Func) (tmps : Array Value) : results fn tmps = (do
    let vs ← fn.results.mapM (rdRes tmps)
    pure (if h : vs.size = 1 then vs[0] else .tuple vs)) := by
  rfl
theorem resOne_sound (hR : Rep E st B w0 w a) {x : ResultVar} {y : SV} (h : resOne P st x = some y) : (rdRes a.tmps x).run P w = .ok (y.den E) w ∧ y.okn E st.n := by
  cases x with
  | tmp t =>
    simp only [resOne] at h
    split at h
    · rename_i z hz
      injection h with h
      subst h
      have := hR.tr.get _ _ hz
      exact ⟨by simp [rdRes, this, ST.den], hR.tr.ok _ _ hz⟩
    · cases h
  | cell t ty =>
    simp only [resOne] at h
    split at h
    · rename_i id o hz
      split at h
      · rename_i z hl
        injection h with h
        subst h
        have h1 := hR.tr.get _ _ hz
        have h2 := hR.tr.ok _ _ hz
        obtain ⟨g, hg⟩ := h2.2
        obtain ⟨h3, h4⟩ := loadV_sound (P := P) (x := .v z) hR.hr (.inl hl)
        refine ⟨?_, h4⟩
        have e1 : (ST.v (SV.c (SC.p id o))).den E = .pointer (some ⟨g, o, none⟩) := by simp [ST.den, SV.den, SC.den, hg, addr_add]
        have e2 : (SV.c (SC.p id o)).den E = .pointer (some ⟨g, o, none⟩) := by simp [SV.den, SC.den, hg, addr_add]
        rw [e1] at h1
        rw [e2] at h3
        have e3 : a.tmps.getD t undef = .pointer (some ⟨g, o, none⟩) := by simp [h1]
        simp only [rdRes, e3, asAddr, Sem.run_bind, Sem.run_pure, Result.andThen_ok]
        simp only [Instr.loadAt, Instr.sureAddr, Sem.run_bind, Sem.run_pure, Result.andThen_ok] at h3
        exact h3
      · cases h
    · cases h
theorem resAll_sound (hR : Rep E st B w0 w a) : ∀ {l : List ResultVar} {ys : List SV}, resAll P st l = some ys →
    (l.mapM (rdRes a.tmps)).run P w = .ok (ys.map (SV.den E)) w ∧ ∀ y ∈ ys, y.okn E st.n
  | [], ys, h => by
    simp only [resAll] at h
    injection h with h
    subst h
    exact ⟨by simp, fun _ h => by cases h⟩
  | x :: r, ys, h => by
    simp only [resAll] at h
    split at h
    · rename_i y hy
      split at h
      · rename_i ys' hys
        injection h with h
        subst h
        obtain ⟨h1, h2⟩ := resOne_sound hR hy
        obtain ⟨h3, h4⟩ := resAll_sound hR hys
        refine ⟨?_, fun z hz => ?_⟩
        · simp only [List.mapM_cons, Sem.run_bind, h1, Result.andThen_ok, h3, Sem.run_pure, List.map_cons]
        · cases hz with
          | head => exact h2
          | tail _ hz => exact h4 z hz
      · cases h
    · cases h
theorem resOf_sound (hR : Rep E st B w0 w a) {fn : Func} {x : ST} (h : resOf P st fn.results.toList = some x) : (results fn a.tmps).run P w = .ok (x.den E) w ∧ x.okn E st.n := by
  unfold resOf at h
  have key : ∀ ys, resAll P st fn.results.toList = some ys → (results fn a.tmps).run P w = .ok (if h : (ys.map (SV.den E)).toArray.size = 1 then (ys.map (SV.den E)).toArray[0] else .tuple (ys.map (SV.den E)).toArray) w := by
    intro ys hys
    obtain ⟨h1, _⟩ := resAll_sound hR hys
    rw [results_eq, ← Array.toArray_toList (xs := fn.results)]
    simp only [List.mapM_toArray, Sem.run_bind, Sem.run_map, h1, Result.andThen_ok]
    rfl
  split at h
  · rename_i y hys
    injection h with h
    subst h
    refine ⟨?_, (resAll_sound hR hys).2 y (by simp)⟩
    rw [key _ hys]
    simp [ST.den]
  · rename_i ys hne hys
    injection h with h
    subst h
    refine ⟨?_, (resAll_sound hR hys).2⟩
    rw [key _ hys]
    have : ¬ (ys.map (SV.den E)).toArray.size = 1 := by
      intro hl
      have hl' : ys.length = 1 := by simpa using hl
      match ys, hl' with
      | [y], _ => exact hne y rfl
    rw [dif_neg this]
    rfl
  · cases h
theorem initT_look : ∀ (args : List SV) (i d : Nat) (x : ST), look (initT i args) d = some x → ∃ k y, d = i + k ∧ args[k]? = some y ∧ x = .v y
  | [], i, d, x, h => by cases h
  | y :: r, i, d, x, h => by
    simp only [initT, look_cons] at h
    split at h
    · rename_i e
      injection h with h
      exact ⟨0, y, by omega, rfl, h.symm⟩
    · obtain ⟨k, z, h1, h2, h3⟩ := initT_look r (i + 1) d x h
      exact ⟨k + 1, z, by omega, by simpa using h2, h3⟩
/-- The address of a new row, told by the numbers of the callee's own text. -/
def mapEnv (E E1 : Env) (n : Nat) (m : List (Option Nat)) : Env :=
  ⟨fun i => if i < n then E1.addr i else match m[i - n]? with
      | some (some k) => E1.addr k
      | _ => none,
   fun i => if i < n then E1.len i else match m[i - n]? with
      | some (some k) => E1.len k
      | _ => 0,
   fun i => if i < n then E1.cap i else match m[i - n]? with
      | some (some k) => E1.cap k
      | _ => 0⟩
theorem subst_den {E E1 : Env} {m : List (Option Nat)} {x : SC} {nm : Nat} (hnm : nm = n + m.length) (hx : ∀ id, x = .r id → id < nm) (hp : ∀ id o, x = .p id o → id < n) (hq : ∀ id s i j, x = .q id s i j → id < n) (hs : ∀ id l, x = .s id l → id < n) :
    x.den (mapEnv E E1 n m) = (substC n m x).den E1 := by
  cases x with
  | v x => rfl
  | p id o => simp [SC.den, substC, mapEnv, hp id o rfl]
  | q id s i j => simp [SC.den, substC, mapEnv, hq id s i j rfl]
  | s id l => simp [SC.den, substC, mapEnv, hs id l rfl]
  | r id =>
    simp only [substC]
    cases hb : Nat.blt id n with
    | true =>
      have : id < n := by simpa using hb
      simp [SC.den, mapEnv, this]
    | false =>
      have hge : ¬ id < n := by
        intro h
        have : Nat.blt id n = true := by simpa using h
        rw [hb] at this
        cases this
      have hlt : id - n < m.length := by have := hx id rfl; omega
      have hsome : m[id - n]? = some m[id - n] := List.getElem?_eq_getElem hlt
      rw [hsome]
      cases hm : m[id - n] with
      | none => simp [SC.den, mapEnv, hge, hsome, hm]
      | some k => simp [SC.den, mapEnv, hge, hsome, hm]
theorem subst_ok {E1 : Env} {m : List (Option Nat)} {x : SC} {N : Nat} (hA : ∀ i, i < n → E1.addr i = E.addr i) (hx : inC n m.length x = true) (h : (substC n m x).okn E1 N) :
    x.den (mapEnv E E1 n m) = (substC n m x).den E1 ∧ x.okn (mapEnv E E1 n m) (n + m.length) := by
  refine ⟨subst_den rfl ?_ ?_ ?_ ?_, ?_⟩
  · rintro id rfl; simpa [inC] using hx
  · rintro id o rfl; simpa [inC] using hx
  · rintro id s i j rfl; simpa [inC] using hx
  · rintro id l rfl; simpa [inC] using hx
  · cases x with
    | v x => exact hx
    | p id o =>
      have h1 : id < n := by simpa [inC] using hx
      exact ⟨by omega, by obtain ⟨g, hg⟩ := h.2; exact ⟨g, by simp only [mapEnv, if_pos h1]; exact hg⟩⟩
    | q id s i j =>
      have h1 : id < n := by simpa [inC] using hx
      exact ⟨by omega, by obtain ⟨g, hg⟩ := h.2; exact ⟨g, by simp only [mapEnv, if_pos h1]; exact hg⟩⟩
    | s id l =>
      have h1 : id < n := by simpa [inC] using hx
      exact ⟨by omega, by obtain ⟨g, hg⟩ := h.2; exact ⟨g, by simp only [mapEnv, if_pos h1]; exact hg⟩⟩
    | r id => simpa [inC, SC.okn] using hx
theorem substT_ok {E1 : Env} {m : List (Option Nat)} {x : ST} {N : Nat} (hA : ∀ i, i < n → E1.addr i = E.addr i) (hx : inT n m.length x = true) (h : (substT n m x).okn E1 N) :
    x.den (mapEnv E E1 n m) = (substT n m x).den E1 ∧ x.okn (mapEnv E E1 n m) (n + m.length) := by
  have hV : ∀ y : SV, inV n m.length y = true → (substV n m y).okn E1 N → y.den (mapEnv E E1 n m) = (substV n m y).den E1 ∧ y.okn (mapEnv E E1 n m) (n + m.length) := by
    intro y hy ho
    cases y with
    | c x => exact subst_ok hA hy ho
    | a cs =>
      have h1 : ∀ c ∈ cs, c.den (mapEnv E E1 n m) = (substC n m c).den E1 ∧ c.okn (mapEnv E E1 n m) (n + m.length) := fun c hc =>
        subst_ok hA (List.all_eq_true.1 hy c hc) (ho _ (List.mem_map.2 ⟨c, hc, rfl⟩))
      refine ⟨?_, fun c hc => (h1 c hc).2⟩
      simp only [SV.den, substV, List.map_map]
      rw [List.map_congr_left fun c hc => (h1 c hc).1]
      rfl
  cases x with
  | v y => exact hV y hx h
  | t xs =>
    have h1 : ∀ y ∈ xs, y.den (mapEnv E E1 n m) = (substV n m y).den E1 ∧ y.okn (mapEnv E E1 n m) (n + m.length) := fun y hy =>
      hV y (List.all_eq_true.1 hx y hy) (h _ (List.mem_map.2 ⟨y, hy, rfl⟩))
    refine ⟨?_, fun y hy => (h1 y hy).2⟩
    simp only [ST.den, substT, List.map_map]
    rw [List.map_congr_left fun y hy => (h1 y hy).1]
    rfl
theorem newsOK_get : ∀ {m : List (Option Nat)} {new : List (Blk γ)}, newsOK st m new → m.length = new.length ∧ ∀ (k : Nat) (b : Blk γ), new[k]? = some b → ∃ g : γ, b = Blk.ext g ∧ ((m[k]? = some none ∧ Gh.len g = 0) ∨ ∃ j : Nat, m[k]? = some (some j) ∧ look st.heap j = some (.ext g))
  | [], [], _ => ⟨rfl, fun k b h => by cases h⟩
  | none :: m, .ext g :: r, h => by
    obtain ⟨h1, h2⟩ := newsOK_get (m := m) (new := r) h.2
    refine ⟨by simp [h1], fun k b hk => ?_⟩
    cases k with
    | zero => injection hk with hk; exact ⟨g, hk.symm, .inl ⟨rfl, h.1⟩⟩
    | succ k => exact h2 k b (by simpa using hk)
  | some j :: m, .ext g :: r, h => by
    obtain ⟨h1, h2⟩ := newsOK_get (m := m) (new := r) h.2
    refine ⟨by simp [h1], fun k b hk => ?_⟩
    cases k with
    | zero => injection hk with hk; exact ⟨g, hk.symm, .inr ⟨j, rfl, h.1⟩⟩
    | succ k => exact h2 k b (by simpa using hk)
  | [], _ :: _, h => h.elim
  | none :: _, [], h => h.elim
  | some _ :: _, [], h => h.elim
  | none :: _, .gone :: _, h => h.elim
  | none :: _, .own _ _ :: _, h => h.elim
  | none :: _, .ro _ _ :: _, h => h.elim
  | some _ :: _, .gone :: _, h => h.elim
  | some _ :: _, .own _ _ :: _, h => h.elim
  | some _ :: _, .ro _ _ :: _, h => h.elim
theorem froms_get : ∀ {m : List (Option Nat)}, froms n m = true → ∀ (k j : Nat), m[k]? = some (some j) → n ≤ j
  | [], _, k, j, h => by cases h
  | none :: m, hf, k, j, h => by
    cases k with
    | zero => cases h
    | succ k => exact froms_get (m := m) hf k j (by simpa using h)
  | some i :: m, hf, k, j, h => by
    simp only [froms, Bool.and_eq_true] at hf
    cases k with
    | zero => injection h with h; injection h with h; subst h; exact Nat.le_of_ble_eq_true hf.1
    | succ k => exact froms_get (m := m) hf.2 k j (by simpa using h)
/-- A function's text gone through: what a call of it does. -/
theorem call_of_exec (h0 : n = cx.n0) (hm : cx.P.follows .mixedOrders = true) (he : EqOK cx.P cx.eqs) (hc : CallsOK cx) {f : FuncId} {fn : Func} {c : Code} (hf : cx.P.funcs[f]? = some fn) (hn : (fn.name == "runtime.NumGoroutine") = false) (hb : fn.body = some c)
    (hl : LoopsOK cx c) {args : List SV} {H : List (Nat × Blk γ)} {r : CR γ} (hlen : args.length ≤ fn.ntmps) (hin : inT n r.new.length r.res = true)
    (h : exec cx [] c ⟨fn.ntmps, initT 0 args, n, stillH H⟩ (fun e st' => ∃ m, froms n m = true ∧ Fin cx.P fn.results.toList n r m e st')) : CallOK cx.P f n H args r := by
  intro E w hH hargs
  refine .inl ⟨enters_of hf hn hb, calls_of_wp hf hb ?_⟩
  refine exec_sound hm he hc hl c [] rfl _ _ h E _ w ⟨w, E, n⟩ w.heap.size _ h0 ⟨⟨?_, ?_, ?_, rfl⟩, hH, Below.refl _ _, Nat.le_refl _, Ag.refl _ _, Nat.le_refl _, ?_⟩ ?_
  · simp; omega
  · intro d x hd
    obtain ⟨k, y, h1, h2, rfl⟩ := initT_look args 0 d x hd
    obtain rfl : d = k := by omega
    have hk := (List.getElem?_eq_some_iff.1 h2).1
    rw [Array.getElem?_append_left (by simpa using hk)]
    simp [h2, ST.den]
  · intro d x hd
    obtain ⟨k, y, h1, h2, rfl⟩ := initT_look args 0 d x hd
    exact hargs y (List.mem_of_getElem? h2)
  · intro id g ad hl' hle _
    have := hH.ids _ _ hl'
    dsimp only at hle
    omega
  · rintro e st' E1 a' w' ⟨m, hfr, hfin⟩ hR
    have fin : resOf cx.P st' fn.results.toList = some (substT n m r.res) ∧ newsOK st' m r.new → bodyPost cx.P fn (fun e w' => ∃ E', Ag n E E' ∧ e = .returned (r.res.den E') ∧ r.res.okn E' (n + r.new.length) ∧ Below w.heap.size w w' ∧ NewOK E' n r.new w w') .ret a' w' := by
      rintro ⟨h1, h2⟩
      obtain ⟨h3, h4⟩ := resOf_sound hR h1
      obtain ⟨h5, h6⟩ := newsOK_get h2
      have hag := hR.ag
      dsimp only at hag
      rw [← h5] at hin
      obtain ⟨h7, h8⟩ := substT_ok (E := E) (n := n) hag.addr hin h4
      refine ⟨hR.tr.defs, _, h3, mapEnv E E1 n m, ⟨fun i hi => ?_, fun i hi => ?_, fun i hi => ?_⟩, by rw [h7], by rw [← h5]; exact h8, hR.below, ?_⟩
      · simp [mapEnv, hi, hag.addr i hi]
      · simp [mapEnv, hi, hag.len i hi]
      · simp [mapEnv, hi, hag.cap i hi]
      · intro k b hk
        obtain ⟨g, rfl, hg⟩ := h6 k b hk
        refine ⟨g, rfl, ?_⟩
        have hge : ¬ n + k < n := by omega
        have hsub : n + k - n = k := by omega
        rcases hg with ⟨hmk, h0⟩ | ⟨j, hmk, hlj⟩
        · refine ⟨⟨by simp [mapEnv, hge, hsub, hmk, h0], fun i hi => by omega⟩, fun ad had => ?_⟩
          simp [mapEnv, hge, hsub, hmk] at had
        · obtain ⟨x1, x2⟩ := hR.hr.ext _ _ hlj
          refine ⟨⟨by simp [mapEnv, hge, hsub, hmk, x1], fun i hi => ?_⟩, fun ad had => ?_⟩
          · obtain ⟨ad, y1, y2⟩ := x2 i hi
            refine ⟨ad, by simp [mapEnv, hge, hsub, hmk, y1], fun jj c hc => ?_⟩
            rw [row_den hc E1 (mapEnv E E1 n m)]
            exact y2 jj c hc
          · simp [mapEnv, hge, hsub, hmk] at had
            exact hR.fresh j g ad hlj (froms_get hfr k j hmk) had
    cases e with
    | exit id => exact hfin.elim
    | normal => exact fin hfin
    | ret => exact fin hfin
end
end Go.Sx
