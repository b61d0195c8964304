/- A callee's rows under the caller's numbers; loops with a relation. -/
import Derived.Test.YtcjiokiafdagdaaSxJ
namespace Go.Sx
open Go.RowKit
set_option linter.unusedVariables false
set_option linter.unusedSimpArgs false
section
variable {γ : Type} [Gh γ]
/-- A callee's number under the caller's; none: what the caller has is nil. -/
def rn (s : Nat → Option Nat) (n0 n id : Nat) : Option Nat := match Nat.blt id n0 with
  | true => s id
  | false => some (n + (id - n0))
def renC (s : Nat → Option Nat) (n0 n : Nat) : SC → SC
  | .v x => .v x
  | .p id o => match rn s n0 n id with
    | some j => .p j o
    | none => .v (.pointer none)
  | .q id z i k => match rn s n0 n id with
    | some j => .q j z i k
    | none => .v (.pointer none)
  | .s id l => match rn s n0 n id with
    | some j => .s j l
    | none => .v (.slice none l l)
  | .r id => match rn s n0 n id with
    | some j => .r j
    | none => .v (.slice none 0 0)
def renV (s : Nat → Option Nat) (n0 n : Nat) : SV → SV
  | .c x => .c (renC s n0 n x)
  | .a cs => .a (cs.map (renC s n0 n))
def renT (s : Nat → Option Nat) (n0 n : Nat) : ST → ST
  | .v x => .v (renV s n0 n x)
  | .t xs => .t (xs.map (renV s n0 n))
def renB (s : Nat → Option Nat) (n0 n : Nat) : Blk γ → Blk γ
  | .gone => .gone
  | .own t cs => .own t (cs.map (renC s n0 n))
  | .ro t cs => .ro t (cs.map (renC s n0 n))
  | .ext g => .ext g
/-- Only slices may be nil. -/
def sOK (s : Nat → Option Nat) (n0 n : Nat) : SC → Bool
  | .v _ => true
  | .r _ => true
  | .p id _ => (rn s n0 n id).isSome
  | .q id _ _ _ => (rn s n0 n id).isSome
  | .s id _ => (rn s n0 n id).isSome
def sOKV (s : Nat → Option Nat) (n0 n : Nat) : SV → Bool
  | .c x => sOK s n0 n x
  | .a cs => cs.all (sOK s n0 n)
theorem rn_lt {s : Nat → Option Nat} {n0 n id : Nat} (h : id < n0) : rn s n0 n id = s id := by
  have : Nat.blt id n0 = true := by simpa using h
  simp [rn, this]
theorem rn_ge {s : Nat → Option Nat} {n0 n id : Nat} (h : ¬ id < n0) : rn s n0 n id = some (n + (id - n0)) := by
  cases hb : Nat.blt id n0 with
  | true => exact absurd (by simpa using hb) h
  | false => simp [rn, hb]
/-- The environment under other numbers. -/
structure Und (s : Nat → Option Nat) (n0 n : Nat) (E0 E : Env) : Prop where
  addr : ∀ i, E0.addr i = match rn s n0 n i with
    | some j => E.addr j
    | none => none
  len : ∀ i, E0.len i = match rn s n0 n i with
    | some j => E.len j
    | none => 0
  cap : ∀ i, E0.cap i = match rn s n0 n i with
    | some j => E.cap j
    | none => 0
variable {s : Nat → Option Nat} {n0 n : Nat} {E0 E : Env}
theorem renC_den (h : Und s n0 n E0 E) (x : SC) : (renC s n0 n x).den E = x.den E0 := by
  cases x with
  | v x => rfl
  | p id o => have ha := h.addr id; cases hj : rn s n0 n id <;> rw [hj] at ha <;> simp [renC, SC.den, hj, ha]
  | q id z i j => have ha := h.addr id; cases hj : rn s n0 n id <;> rw [hj] at ha <;> simp [renC, SC.den, hj, ha]
  | s id l => have ha := h.addr id; cases hj : rn s n0 n id <;> rw [hj] at ha <;> simp [renC, SC.den, hj, ha]
  | r id => have ha := h.addr id; have hl := h.len id; have hc := h.cap id; cases hj : rn s n0 n id <;> rw [hj] at ha hl hc <;> simp [renC, SC.den, hj, ha, hl, hc]
theorem renC_comp (h : Und s n0 n E0 E) : SC.den E ∘ renC s n0 n = SC.den E0 := funext fun x => renC_den h x
theorem renV_den (h : Und s n0 n E0 E) (x : SV) : (renV s n0 n x).den E = x.den E0 := by
  cases x with
  | c x => exact renC_den h x
  | a cs =>
    simp only [renV, SV.den, List.map_map]
    rw [renC_comp h]
theorem renV_comp (h : Und s n0 n E0 E) : SV.den E ∘ renV s n0 n = SV.den E0 := funext fun x => renV_den h x
theorem renT_den (h : Und s n0 n E0 E) (x : ST) : (renT s n0 n x).den E = x.den E0 := by
  cases x with
  | v x => exact renV_den h x
  | t xs =>
    simp only [renT, ST.den, List.map_map]
    rw [renV_comp h]
theorem rn_bound {k : Nat} (hs : ∀ i j, i < n0 → s i = some j → j < n) {i j : Nat} (h : i < n0 + k) (hj : rn s n0 n i = some j) : j < n + k := by
  by_cases hi : i < n0
  · rw [rn_lt hi] at hj; have := hs i j hi hj; omega
  · rw [rn_ge hi] at hj; injection hj with hj; omega
theorem rn_back {i j : Nat} (hj : rn s n0 n i = some j) (h : j < n) : i < n0 := by
  by_cases hi : i < n0
  · exact hi
  · rw [rn_ge hi] at hj; injection hj with hj; omega
theorem renC_ok (h : Und s n0 n E0 E) (hs : ∀ i j, i < n0 → s i = some j → j < n) {k : Nat} {x : SC} (hx : x.okn E0 (n0 + k)) : (renC s n0 n x).okn E (n + k) := by
  cases x with
  | v x => exact hx
  | p id o =>
    have ha := h.addr id
    cases hj : rn s n0 n id with
    | none => simp only [renC, hj]; rfl
    | some j =>
      rw [hj] at ha
      simp only [renC, hj]
      exact ⟨rn_bound hs hx.1 hj, by obtain ⟨g, hg⟩ := hx.2; exact ⟨g, ha.symm.trans hg⟩⟩
  | q id z i k =>
    have ha := h.addr id
    cases hj : rn s n0 n id with
    | none => simp only [renC, hj]; rfl
    | some j =>
      rw [hj] at ha
      simp only [renC, hj]
      exact ⟨rn_bound hs hx.1 hj, by obtain ⟨g, hg⟩ := hx.2; exact ⟨g, ha.symm.trans hg⟩⟩
  | s id l =>
    have ha := h.addr id
    cases hj : rn s n0 n id with
    | none => simp only [renC, hj]; rfl
    | some j =>
      rw [hj] at ha
      simp only [renC, hj]
      exact ⟨rn_bound hs hx.1 hj, by obtain ⟨g, hg⟩ := hx.2; exact ⟨g, ha.symm.trans hg⟩⟩
  | r id =>
    cases hj : rn s n0 n id with
    | none => simp only [renC, hj]; rfl
    | some j =>
      simp only [renC, hj]
      exact rn_bound hs hx hj
theorem renC_back (h : Und s n0 n E0 E) {x : SC} (hx : (renC s n0 n x).okn E n) (ho : sOK s n0 n x = true) (hr : ∀ id, x = .r id → id < n0) : x.okn E0 n0 := by
  cases x with
  | v x => exact hx
  | p id o =>
    have ha := h.addr id
    cases hj : rn s n0 n id with
    | none => simp [sOK, hj] at ho
    | some j =>
      rw [hj] at ha
      simp only [renC, hj] at hx
      exact ⟨rn_back hj hx.1, by rw [ha]; exact hx.2⟩
  | q id z i k =>
    have ha := h.addr id
    cases hj : rn s n0 n id with
    | none => simp [sOK, hj] at ho
    | some j =>
      rw [hj] at ha
      simp only [renC, hj] at hx
      exact ⟨rn_back hj hx.1, by rw [ha]; exact hx.2⟩
  | s id l =>
    have ha := h.addr id
    cases hj : rn s n0 n id with
    | none => simp [sOK, hj] at ho
    | some j =>
      rw [hj] at ha
      simp only [renC, hj] at hx
      exact ⟨rn_back hj hx.1, by rw [ha]; exact hx.2⟩
  | r id => exact hr id rfl
theorem renV_ok (h : Und s n0 n E0 E) (hs : ∀ i j, i < n0 → s i = some j → j < n) {k : Nat} {x : SV} (hx : x.okn E0 (n0 + k)) : (renV s n0 n x).okn E (n + k) := by
  cases x with
  | c x => exact renC_ok h hs (x := x) hx
  | a cs =>
    intro c hc
    obtain ⟨d, hd, rfl⟩ := List.mem_map.1 hc
    exact renC_ok h hs (hx d hd)
theorem renT_ok (h : Und s n0 n E0 E) (hs : ∀ i j, i < n0 → s i = some j → j < n) {k : Nat} {x : ST} (hx : x.okn E0 (n0 + k)) : (renT s n0 n x).okn E (n + k) := by
  cases x with
  | v x => exact renV_ok h hs (x := x) hx
  | t xs =>
    intro c hc
    obtain ⟨d, hd, rfl⟩ := List.mem_map.1 hc
    exact renV_ok h hs (hx d hd)
def rLt (n0 : Nat) : SC → Bool
  | .r id => Nat.blt id n0
  | _ => true
def rLtV (n0 : Nat) : SV → Bool
  | .c x => rLt n0 x
  | .a cs => cs.all (rLt n0)
theorem rLt_of {x : SC} (h : rLt n0 x = true) : ∀ id, x = .r id → id < n0 := by
  rintro id rfl
  simpa [rLt] using h
theorem renV_back (h : Und s n0 n E0 E) {x : SV} (hx : (renV s n0 n x).okn E n) (ho : sOKV s n0 n x = true) (hr : rLtV n0 x = true) : x.okn E0 n0 := by
  cases x with
  | c x => exact renC_back h hx ho (rLt_of hr)
  | a cs => exact fun c hc => renC_back h (hx _ (List.mem_map.2 ⟨c, hc, rfl⟩)) (List.all_eq_true.1 ho c hc) (rLt_of (List.all_eq_true.1 hr c hc))
/-- What is told of a call at numbers of its own holds at the caller's. -/
theorem call_ren {P : Program} {f : FuncId} {H0 H : List (Nat × Blk γ)} {args : List SV} {r : CR γ} (h : CallOK P f n0 H0 args r) (hs : ∀ i j, i < n0 → s i = some j → j < n) (hids : ∀ id b, look H0 id = some b → id < n0)
    (hH : ∀ id b, look (stillH H0) id = some b → match s id with
      | some j => look (stillH H) j = some (renB s n0 n b)
      | none => ∃ g, b = .ext g ∧ Gh.len g = 0)
    (hc : ∀ id ty cs, look (stillH H0) id = some (.ro ty cs) → cs.all (fun c => sOK s n0 n c && rLt n0 c) = true)
    (ha : args.all (fun x => sOKV s n0 n x && rLtV n0 x) = true) : CallOK P f n H (args.map (renV s n0 n)) ⟨r.pre, renT s n0 n r.res, r.new⟩ := by
  intro E w hE hargs
  let E0 : Env := ⟨fun i => match rn s n0 n i with
    | some j => E.addr j
    | none => none, fun i => match rn s n0 n i with
    | some j => E.len j
    | none => 0, fun i => match rn s n0 n i with
    | some j => E.cap j
    | none => 0⟩
  have hU : Und s n0 n E0 E := ⟨fun _ => rfl, fun _ => rfl, fun _ => rfl⟩
  have hid : ∀ {id b}, look (stillH H0) id = some b → id < n0 := by
    intro id b hl
    rw [look_still] at hl
    cases hc : look H0 id with
    | none => rw [hc] at hl; cases hl
    | some c => exact hids _ _ hc
  have noown : ∀ {id ty cs}, look (stillH H0) id ≠ some (.own ty cs) := by
    intro id ty cs hl
    rw [look_still] at hl
    cases hc : look H0 id with
    | none => rw [hc] at hl; cases hl
    | some c => rw [hc] at hl; injection hl with hl; cases c <;> cases hl
  have hE0 : HR E0 n0 (stillH H0) w.heap.size w := by
    refine ⟨fun id ty cs hl => absurd hl noown, ?_, ?_, fun i j ty cs b x y _ hi => absurd hi noown, fun id b hl => hid hl, ?_⟩
    · intro id ty cs hl
      have h1 := hH id _ hl
      cases hsi : s id with
      | none =>
        rw [hsi] at h1
        obtain ⟨g, hg, _⟩ := h1
        cases hg
      | some j =>
        rw [hsi] at h1
        obtain ⟨g, h2, h3⟩ := hE.ro _ _ _ h1
        refine ⟨g, by rw [hU.addr, rn_lt (hid hl), hsi]; exact h2, ?_⟩
        rw [h3, List.map_map, renC_comp hU]
    · intro id g hl
      have h1 := hH id _ hl
      cases hsi : s id with
      | none =>
        rw [hsi] at h1
        obtain ⟨g', hg, h0⟩ := h1
        injection hg with hg
        subst hg
        exact ⟨by rw [hU.len, rn_lt (hid hl), hsi]; exact h0.symm, fun i hi => by omega⟩
      | some j =>
        rw [hsi] at h1
        obtain ⟨h2, h3⟩ := hE.ext _ _ h1
        refine ⟨by rw [hU.len, rn_lt (hid hl), hsi]; exact h2, fun i hi => ?_⟩
        obtain ⟨ad, h4, h5⟩ := h3 i hi
        refine ⟨ad, by rw [hU.addr, rn_lt (hid hl), hsi]; exact h4, fun k c hc => ?_⟩
        rw [row_den hc E E0]
        exact h5 k c hc
    · intro id ty cs hl c hcm
      rcases hl with hl | hl
      · exact absurd hl noown
      · have h1 := hH id _ hl
        have h2 := List.all_eq_true.1 (hc id ty cs hl) c hcm
        simp only [Bool.and_eq_true] at h2
        cases hsi : s id with
        | none =>
          rw [hsi] at h1
          obtain ⟨g, hg, _⟩ := h1
          cases hg
        | some j =>
          rw [hsi] at h1
          exact renC_back hU (hE.okc _ _ _ (.inr h1) _ (List.mem_map.2 ⟨c, hcm, rfl⟩)) h2.1 (rLt_of h2.2)
  have hd := h E0 w hE0 (fun x hx => by
    have h2 := List.all_eq_true.1 ha x hx
    simp only [Bool.and_eq_true] at h2
    exact renV_back hU (hargs _ (List.mem_map.2 ⟨x, hx, rfl⟩)) h2.1 h2.2)
  have hargs' : ((args.map (renV s n0 n)).map (SV.den E)).toArray = (args.map (SV.den E0)).toArray := by
    rw [List.map_map, renV_comp hU]
  rw [hargs']
  have post : ∀ (e : Ending) (w' : World), (∃ E', Ag n0 E0 E' ∧ e = .returned (r.res.den E') ∧ r.res.okn E' (n0 + r.new.length) ∧ Below w.heap.size w w' ∧ NewOK E' n0 r.new w w') →
      ∃ E', Ag n E E' ∧ e = .returned ((renT s n0 n r.res).den E') ∧ (renT s n0 n r.res).okn E' (n + r.new.length) ∧ Below w.heap.size w w' ∧ NewOK E' n r.new w w' := by
    rintro e w' ⟨E1, hA, rfl, hok, hb, hn⟩
    let E' : Env := ⟨fun i => if i < n then E.addr i else E1.addr (n0 + (i - n)), fun i => if i < n then E.len i else E1.len (n0 + (i - n)), fun i => if i < n then E.cap i else E1.cap (n0 + (i - n))⟩
    have hU' : Und s n0 n E1 E' := by
      have hge : ∀ i, ¬ i < n0 → ¬ n + (i - n0) < n ∧ n0 + (n + (i - n0) - n) = i := fun i hi => ⟨by omega, by omega⟩
      refine ⟨fun i => ?_, fun i => ?_, fun i => ?_⟩ <;> by_cases hi : i < n0
      · rw [hA.addr i hi, hU.addr]
        rw [rn_lt hi]
        cases hsi : s i with
        | none => rfl
        | some j => simp only [E', if_pos (hs i j hi hsi)]
      · rw [rn_ge hi]
        obtain ⟨h1, h2⟩ := hge i hi
        simp only [E', if_neg h1, h2]
      · rw [hA.len i hi, hU.len]
        rw [rn_lt hi]
        cases hsi : s i with
        | none => rfl
        | some j => simp only [E', if_pos (hs i j hi hsi)]
      · rw [rn_ge hi]
        obtain ⟨h1, h2⟩ := hge i hi
        simp only [E', if_neg h1, h2]
      · rw [hA.cap i hi, hU.cap]
        rw [rn_lt hi]
        cases hsi : s i with
        | none => rfl
        | some j => simp only [E', if_pos (hs i j hi hsi)]
      · rw [rn_ge hi]
        obtain ⟨h1, h2⟩ := hge i hi
        simp only [E', if_neg h1, h2]
    refine ⟨E', ⟨fun i hi => by simp [E', hi], fun i hi => by simp [E', hi], fun i hi => by simp [E', hi]⟩, by rw [renT_den hU'], renT_ok hU' hs hok, hb, fun k b hk => ?_⟩
    obtain ⟨g, rfl, ⟨x1, x2⟩, x3⟩ := hn k b hk
    have hge : ¬ n + k < n := by omega
    have hsub : n + k - n = k := by omega
    refine ⟨g, rfl, ⟨by simp [E', hge, hsub, x1], fun i hi => ?_⟩, fun ad had => x3 ad (by simpa [E', hge, hsub] using had)⟩
    obtain ⟨ad, y1, y2⟩ := x2 i hi
    refine ⟨ad, by simp [E', hge, hsub, y1], fun j c hc => ?_⟩
    rw [row_den hc E1 E']
    exact y2 j c hc
  rcases hd with ⟨h1, h2⟩ | ⟨v, h1, h2⟩
  · exact .inl ⟨h1, h2.mono post⟩
  · exact .inr ⟨v, h1, post _ _ h2⟩

/-! ### Loops -/
def eqCp : SC → SC → Prop
  | .v (.int k a), .v (.int k' b) => if k = k' then a = b else False
  | .v (.bool a), .v (.bool b) => a = b
  | x, y => x = y
def eqCs : List SC → List SC → Prop
  | [], [] => True
  | x :: r, y :: t => eqCp x y ∧ eqCs r t
  | _, _ => False
def eqVp : SV → SV → Prop
  | .c x, .c y => eqCp x y
  | .a x, .a y => eqCs x y
  | _, _ => False
def eqVs : List SV → List SV → Prop
  | [], [] => True
  | x :: r, y :: t => eqVp x y ∧ eqVs r t
  | _, _ => False
def eqTp : ST → ST → Prop
  | .v x, .v y => eqVp x y
  | .t x, .t y => eqVs x y
  | _, _ => False
def eqBp : Blk γ → Blk γ → Prop
  | .own t x, .own t' y => if t = t' then eqCs x y else False
  | .ro t x, .ro t' y => if t = t' then eqCs x y else False
  | .ext g, .ext g' => g = g'
  | _, _ => False
theorem eqCp_eq {x y : SC} (h : eqCp x y) : x = y := by
  unfold eqCp at h
  split at h
  · split at h
    · rename_i e; subst e; subst h; rfl
    · exact h.elim
  · subst h; rfl
  · exact h
theorem eqCs_eq : ∀ {x y : List SC}, eqCs x y → x = y
  | [], [], _ => rfl
  | x :: r, y :: t, h => by rw [eqCp_eq h.1, eqCs_eq h.2]
  | [], _ :: _, h => h.elim
  | _ :: _, [], h => h.elim
theorem eqVp_eq {x y : SV} (h : eqVp x y) : x = y := by
  cases x <;> cases y <;> simp only [eqVp] at h
  · rw [eqCp_eq h]
  · rw [eqCs_eq h]
theorem eqVs_eq : ∀ {x y : List SV}, eqVs x y → x = y
  | [], [], _ => rfl
  | x :: r, y :: t, h => by rw [eqVp_eq h.1, eqVs_eq h.2]
  | [], _ :: _, h => h.elim
  | _ :: _, [], h => h.elim
theorem eqTp_eq {x y : ST} (h : eqTp x y) : x = y := by
  cases x <;> cases y <;> simp only [eqTp] at h
  · rw [eqVp_eq h]
  · rw [eqVs_eq h]
omit [Gh γ] in
theorem eqBp_eq {x y : Blk γ} (h : eqBp x y) : x = y := by
  cases x <;> cases y <;> simp only [eqBp] at h
  · split at h
    · rename_i e; rw [e, eqCs_eq h]
    · exact h.elim
  · split at h
    · rename_i e; rw [e, eqCs_eq h]
    · exact h.elim
  · rw [h]
def subT (l : List (Nat × ST)) : List (Nat × ST) → Prop
  | [] => True
  | (d, x) :: r => (match look l d with
    | some y => eqTp y x
    | none => False) ∧ subT l r
def subH (l : List (Nat × Blk γ)) : List (Nat × Blk γ) → Prop
  | [] => True
  | (d, x) :: r => (match look l d with
    | some y => eqBp y x
    | none => False) ∧ subH l r
def wfBlk (n : Nat) : Blk γ → Bool
  | .own _ cs => cs.all (inC n 0)
  | .ro _ cs => cs.all (inC n 0)
  | _ => true
def wfS (n0 : Nat) (t : St γ) : Bool := Nat.ble n0 t.n && t.tmps.all (fun x => inT t.n 0 x.2) && t.heap.all (fun x => Nat.blt x.1 t.n && wfBlk t.n x.2)
/-- A state of which less is told. -/
def SubS (n0 : Nat) (st t : St γ) : Prop := (st.nt = t.nt ∧ Nat.ble t.n st.n = true ∧ wfS n0 t = true) ∧ subT st.tmps t.tmps ∧ subH st.heap t.heap
theorem subT_look {l : List (Nat × ST)} : ∀ {t : List (Nat × ST)}, subT l t → ∀ d x, look t d = some x → look l d = some x ∧ (d, x) ∈ t
  | [], _, d, x, h => by cases h
  | (e, y) :: r, hs, d, x, h => by
    rw [look_cons] at h
    split at h
    · rename_i he
      subst he
      injection h with h
      subst h
      have := hs.1
      split at this
      · rename_i z hz
        exact ⟨by rw [hz, eqTp_eq this], by simp⟩
      · exact this.elim
    · obtain ⟨h1, h2⟩ := subT_look hs.2 d x h
      exact ⟨h1, by simp [h2]⟩
omit [Gh γ] in
theorem subH_look {l : List (Nat × Blk γ)} : ∀ {t : List (Nat × Blk γ)}, subH l t → ∀ d x, look t d = some x → look l d = some x ∧ (d, x) ∈ t
  | [], _, d, x, h => by cases h
  | (e, y) :: r, hs, d, x, h => by
    rw [look_cons] at h
    split at h
    · rename_i he
      subst he
      injection h with h
      subst h
      have := hs.1
      split at this
      · rename_i z hz
        exact ⟨by rw [hz, eqBp_eq this], by simp⟩
      · exact this.elim
    · obtain ⟨h1, h2⟩ := subH_look hs.2 d x h
      exact ⟨h1, by simp [h2]⟩
theorem inC_ok {m k : Nat} {x : SC} (h : inC m 0 x = true) (hx : x.okn E k) : x.okn E m := by
  cases x with
  | v x => exact hx
  | p id o => exact ⟨by simpa [inC] using h, hx.2⟩
  | q id z i j => exact ⟨by simpa [inC] using h, hx.2⟩
  | s id l => exact ⟨by simpa [inC] using h, hx.2⟩
  | r id => simpa [inC, SC.okn] using h
theorem inV_ok {m k : Nat} {x : SV} (h : inV m 0 x = true) (hx : x.okn E k) : x.okn E m := by
  cases x with
  | c x => exact inC_ok (x := x) h hx
  | a cs => exact fun c hc => inC_ok (List.all_eq_true.1 h c hc) (hx c hc)
theorem inT_ok {m k : Nat} {x : ST} (h : inT m 0 x = true) (hx : x.okn E k) : x.okn E m := by
  cases x with
  | v x => exact inV_ok (x := x) h hx
  | t xs => exact fun c hc => inV_ok (List.all_eq_true.1 h c hc) (hx c hc)
theorem Rep.sub {st t : St γ} {B : Nat} {w0 : Beg} {w : World} {a : Act} (hR : Rep E st B w0 w a) {m : Nat} (hm : w0.n = m) (h : SubS m st t) : Rep E t B w0 w a := by
  obtain ⟨⟨h1, h2, h3⟩, h4, h5⟩ := h
  simp only [wfS, Bool.and_eq_true, List.all_eq_true] at h3
  obtain ⟨⟨h6, h7⟩, h8⟩ := h3
  refine ⟨⟨hR.tr.size.trans h1, ?_, ?_, hR.tr.defs⟩, ⟨?_, ?_, ?_, ?_, ?_, ?_⟩, hR.below, hR.base, hR.ag, by rw [hm]; exact Nat.le_of_ble_eq_true h6, ?_⟩
  · exact fun d x hd => hR.tr.get d x (subT_look h4 d x hd).1
  · intro d x hd
    obtain ⟨k1, k2⟩ := subT_look h4 d x hd
    exact inT_ok (h7 _ k2) (hR.tr.ok d x k1)
  · exact fun id ty cs hl => hR.hr.own id ty cs (subH_look h5 _ _ hl).1
  · exact fun id ty cs hl => hR.hr.ro id ty cs (subH_look h5 _ _ hl).1
  · exact fun id g hl => hR.hr.ext id g (subH_look h5 _ _ hl).1
  · exact fun i j ty cs b x y hij hi hj => hR.hr.sep i j ty cs b x y hij (subH_look h5 _ _ hi).1 (subH_look h5 _ _ hj).1
  · intro id b hl
    have := (h8 _ (subH_look h5 _ _ hl).2).1
    simpa using this
  · intro id ty cs hl c hc
    rcases hl with hl | hl
    · obtain ⟨k1, k2⟩ := subH_look h5 _ _ hl
      have := (h8 _ k2).2
      exact inC_ok (List.all_eq_true.1 this c hc) (hR.hr.okc _ _ _ (.inl k1) c hc)
    · obtain ⟨k1, k2⟩ := subH_look h5 _ _ hl
      have := (h8 _ k2).2
      exact inC_ok (List.all_eq_true.1 this c hc) (hR.hr.okc _ _ _ (.inr k1) c hc)
  · exact fun id g ad hl => hR.fresh id g ad (subH_look h5 _ _ hl).1
/-- What is told of a loop: its states, which of them come up, and what goes down. -/
structure LInv (γ : Type) where
  α : Type
  I : α → St γ
  R : α → Prop
  μ : α → Nat
def invF (cx : Cx γ) (pt : List Nat) (body : Code) (L : LInv γ) (st : St γ) (K : SExit → St γ → Prop) : Prop :=
  ∃ x, (L.R x ∧ SubS cx.n0 st (L.I x)) ∧ ∀ y, L.R y → exec cx (0 :: pt) body (L.I y) (fun e st' => match e with
    | .normal => ∃ z, (L.R z ∧ L.μ z < L.μ y) ∧ SubS cx.n0 st' (L.I z)
    | e => K e st')
theorem invF_ok {cx cx' : Cx γ} (hP : cx'.P = cx.P) (h0 : cx'.n0 = cx.n0) (hm : cx.P.follows .mixedOrders = true) (he : EqOK cx.P cx.eqs) (hc : CallsOK cx) {fc : Code} (hl : LoopsOK cx fc) {pt : List Nat} {body : Code}
    (hb : codeAt fc pt = some (.loop body)) (L : LInv γ) : LoopOK cx' (invF cx pt body L) body := by
  rintro st K ⟨x, ⟨hx, hsub⟩, hround⟩ E a w w0 B Q hn hR hQ
  rw [h0] at hn
  rw [hP]
  have key : ∀ (m : Nat) (y : L.α), L.R y → L.μ y < m → ∀ (E : Env) (a : Act) (w : World), Rep E (L.I y) B w0 w a → Code.rounds cx.P body Q m a w := by
    intro m
    induction m with
    | zero => intro y _ h; omega
    | succ m ih =>
      intro y hy hmu E a w hR
      rw [rounds_succ]
      refine exec_sound hm he hc hl body (0 :: pt) (by simp [codeAt, hb]) (L.I y) _ (hround y hy) E a w w0 B _ hn hR ?_
      intro e st' E' a' w' hk hR'
      cases e with
      | normal =>
        obtain ⟨z, ⟨hz, hlt⟩, hs⟩ := hk
        exact ih z hz (by omega) E' a' w' (hR'.sub hn hs)
      | exit id => exact hQ _ _ _ _ _ hk hR'
      | ret => exact hQ _ _ _ _ _ hk hR'
  exact wp_loop_rounds (L.μ x + 1) (key _ x hx (Nat.lt_succ_self _) E a w (hR.sub hn hsub))
end
end Go.Sx
