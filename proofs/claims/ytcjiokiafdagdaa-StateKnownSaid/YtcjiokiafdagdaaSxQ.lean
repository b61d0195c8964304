/- Contracts without numbers, proved by going through a text. -/
import Derived.Test.YtcjiokiafdagdaaSxP
namespace Go.Sx
open Go.RowKit
set_option linter.unusedVariables false
set_option linter.unusedSimpArgs false
set_option linter.unusedSectionVars false
section
variable {γ : Type} [Gh γ]
theorem conaC_still : ∀ {n : Nat} {x : AC γ}, ∀ y ∈ (conaC n x).2, y.2.still = y.2
  | n, .v x, y, h => by cases h
  | n, .g g, y, h => by
    simp only [conaC, List.mem_singleton] at h
    subst h
    rfl
theorem conaCs_still : ∀ {n : Nat} {xs : List (AC γ)}, ∀ y ∈ (conaCs n xs).2, y.2.still = y.2
  | n, [], y, h => by cases h
  | n, x :: r, y, h => by
    simp only [conaCs, List.mem_append] at h
    rcases h with h | h
    · exact conaC_still y h
    · exact conaCs_still y h
theorem conaV_still : ∀ {n : Nat} {x : AV γ}, ∀ y ∈ (conaV n x).2, y.2.still = y.2
  | n, .c x, y, h => conaC_still y h
  | n, .a cs, y, h => conaCs_still y h
  | n, .s ty k cs, y, h => by
    simp only [conaV, List.mem_append, List.mem_singleton] at h
    rcases h with h | h
    · exact conaCs_still y h
    · subst h
      rfl
theorem conaVs_still : ∀ {n : Nat} {xs : List (AV γ)}, ∀ y ∈ (conaVs n xs).2, y.2.still = y.2
  | n, [], y, h => by cases h
  | n, x :: r, y, h => by
    simp only [conaVs, List.mem_append] at h
    rcases h with h | h
    · exact conaV_still y h
    · exact conaVs_still y h
/-- The call is at its end, with this result and these new rows. -/
structure DoneA (P : Program) (rs : List ResultVar) (n : Nat) (res : ST) (new : List (Blk γ)) (e : SExit) (st : St γ) : Prop where
  ok : ∃ m, froms n m = true ∧ Fin P rs n ⟨true, res, new⟩ m e st
theorem doneA_intro {P : Program} {rs : List ResultVar} {n : Nat} {res r' : ST} {new : List (Blk γ)} {e : SExit} {st : St γ} (m : List (Option Nat)) (he : okEnd e = true) (hf : froms n m = true) (h : resOf P st rs = some r') (h' : eqTp r' (substT n m res)) (hn : newsOK st m new) : DoneA P rs n res new e st := by
  refine ⟨m, hf, ?_⟩
  have := eqTp_eq h'
  subst this
  cases e with
  | exit _ => cases he
  | normal => exact ⟨h, hn⟩
  | ret => exact ⟨h, hn⟩
theorem subst_plain {n : Nat} {m : List (Option Nat)} {r : ST} (hp : plainT r = true) : substT n m r = r := by
  have hc : ∀ c, plainC c = true → substC n m c = c := by
    intro c hc
    cases c <;> simp_all [plainC, substC]
  have hv : ∀ x, plainV x = true → substV n m x = x := by
    intro x hx
    cases x with
    | c x => rw [substV, hc x hx]
    | a cs => rw [substV, map_same fun c h => hc c (List.all_eq_true.1 (hx : cs.all plainC = true) c h)]
  cases r with
  | v x => rw [substT, hv x hp]
  | t xs => rw [substT, map_same fun x h => hv x (List.all_eq_true.1 (hp : xs.all plainV = true) x h)]
/-- An end without new rows. -/
theorem doneA_plain {P : Program} {rs : List ResultVar} {n : Nat} {res r' : ST} {e : SExit} {st : St γ} (he : okEnd e = true) (hp : plainT res = true) (h : resOf P st rs = some r') (h' : eqTp r' res) : DoneA P rs n res [] e st :=
  doneA_intro [] he rfl h (by rw [subst_plain hp]; exact h') trivial
variable [GhO γ]
theorem aok_exec {P : Program} {eqs : TypeId → Bool} {T : ATab γ} (hT : ATabOK γ P T) (hm : P.follows .mixedOrders = true) (he : EqOK P eqs) (turns : Nat) (plans : List (Nat × Plan)) (ls : List (List Nat × LInv γ)) {f : FuncId} {fn : Func} {c : Code} (hf : P.funcs[f]? = some fn)
    (hb : fn.body = some c) {args : List (AV γ)} {r : AT γ} (hn : (fn.name == "runtime.NumGoroutine") = false) {nt : Nat} {rs : List ResultVar} (hnt : fn.ntmps = nt) (hrs : fn.results.toList = rs) {avs : List SV} {H0 : List (Nat × Blk γ)} {n0 : Nat} {res : ST} {new : List (Blk γ)}
    (e1 : conaVs 0 args = (avs, H0)) (e2 : H0.length = n0) (e3 : concT n0 r = (res, new)) (hr : noST r = true) (hlen : Nat.ble avs.length nt = true) (hin : inT n0 new.length res = true)
    (h : exec (lpCx (aCx P eqs turns plans T n0) c ls) [] c ⟨nt, initT 0 avs, n0, H0⟩ (fun e st' => DoneA P rs n0 res new e st')) : AOK γ P f args r := by
  subst hnt
  subst hrs
  have hc0 : CallsOK (aCx P eqs turns plans T n0) := aCx_calls hT
  have hl0 : LoopsOK (aCx P eqs turns plans T n0) c := by rintro _ _ _ ⟨⟩
  obtain ⟨h1, h2, h3, h4, h5, h6⟩ := lpCx_same (aCx P eqs turns plans T n0) c ls
  have hmm : (lpCx (aCx P eqs turns plans T n0) c ls).P.follows .mixedOrders = true := by rw [h1]; exact hm
  have hee : EqOK (lpCx (aCx P eqs turns plans T n0) c ls).P (lpCx (aCx P eqs turns plans T n0) c ls).eqs := by rw [h1, h2]; exact he
  have e : (fun (e : SExit) (st' : St γ) => DoneA P fn.results.toList n0 res new e st') = fun e st' => ∃ m, froms n0 m = true ∧ Fin (lpCx (aCx P eqs turns plans T n0) c ls).P fn.results.toList n0 ⟨true, res, new⟩ m e st' := by
    funext e st'
    rw [h1]
    exact propext ⟨fun h => h.ok, fun h => ⟨h⟩⟩
  rw [e] at h
  have hst : stillH H0 = H0 := stillH_same (by have := conaVs_still (n := 0) (xs := args); rw [e1] at this; exact this)
  rw [← hst] at h
  have key := call_of_exec (cx := lpCx (aCx P eqs turns plans T n0) c ls) (n := n0) (f := f) (args := avs) (H := H0) (r := ⟨true, res, new⟩) h5.symm hmm hee (lpCx_calls hc0) (by rw [h1]; exact hf) hn hb (lpCx_ok hm he hc0 hl0 ls) (Nat.le_of_ble_eq_true hlen) hin h
  rw [h1] at key
  refine aok_of_callOK hr ?_
  rw [e1]
  dsimp only
  rw [e2, e3]
  exact key
/-- By reckoning, where nothing new is handed back. -/
theorem aok_execO {P : Program} {eqs : TypeId → Bool} {T : ATab γ} (hT : ATabOK γ P T) (hm : P.follows .mixedOrders = true) (he : EqOK P eqs) (turns : Nat) (plans : List (Nat × Plan)) {f : FuncId} {fn : Func} {c : Code} (hf : P.funcs[f]? = some fn)
    (hb : fn.body = some c) {args : List (AV γ)} {r : AT γ} (hn : (fn.name == "runtime.NumGoroutine") = false) {nt : Nat} {rs : List ResultVar} (hnt : fn.ntmps = nt) (hrs : fn.results.toList = rs) {avs : List SV} {H0 : List (Nat × Blk γ)} {n0 : Nat} {res : ST}
    (e1 : conaVs 0 args = (avs, H0)) (e2 : H0.length = n0) (e3 : concT n0 r = (res, [])) (hr : noST r = true) (hlen : Nat.ble avs.length nt = true) (hin : inT n0 0 res = true) (hp : plainT res = true)
    (h : execO (aCx P eqs turns plans T n0) [] c ⟨nt, initT 0 avs, n0, H0⟩ (endO P rs) = some res) : AOK γ P f args r :=
  aok_exec hT hm he turns plans [] hf hb hn hnt hrs e1 e2 e3 hr hlen hin (execO_sound [] c _ _ _ (fun e st' h => by
    unfold endO at h
    split at h
    · rename_i he
      exact doneA_plain he hp h (eqTp_refl _)
    · cases h) h)
def ATab.nil : ATab γ := fun _ _ => none
theorem aTabOK_nil {P : Program} : ATabOK γ P ATab.nil := by rintro f args r ⟨⟩
def ATab.cons (g : FuncId) (F : List (AV γ) → Option (Bool × AT γ)) (T : ATab γ) : ATab γ := fun f a => match Nat.beq f g with
  | true => F a
  | false => T f a
theorem aTabOK_cons {P : Program} {g : FuncId} {F : List (AV γ) → Option (Bool × AT γ)} {T : ATab γ} (hT : ATabOK γ P T) (h : ∀ a r, F a = some (true, r) → AOK γ P g a r) : ATabOK γ P (ATab.cons g F T) := by
  intro f args r hr
  simp only [ATab.cons] at hr
  split at hr
  · rename_i hb
    obtain rfl : f = g := Nat.eq_of_beq_eq_true hb
    exact h args r hr
  · exact hT f args r hr
/-- Less is told of the arguments. -/
theorem aok_args {P : Program} {f : FuncId} {args args' : List (AV γ)} {r : AT γ} (h : AOK γ P f args r) (ha : ∀ w vs, RdVs 0 w args' vs → RdVs 0 w args vs) : AOK γ P f args' r := fun w vs hv => h w vs (ha w vs hv)
/-- A function that the model itself answers. -/
theorem aok_value {P : Program} {f : FuncId} {args : List (AV γ)} {r : AT γ} (h : ∀ (w : World) (vs : List Value), RdVs 0 w args vs → ∃ v, (callFunc f vs.toArray).run P w = .ok (.value v) w ∧ RdT w.heap.size w r v) : AOK γ P f args r := by
  intro w vs hv
  obtain ⟨v, h1, h2⟩ := h w vs hv
  exact .inr ⟨v, h1, v, rfl, h2, Below.refl _ _⟩
/-- A walk by the kit's own steps. -/
theorem aok_calls {P : Program} {f : FuncId} {args : List (AV γ)} {r : AT γ} (he : Enters P f) (h : ∀ (w : World) (vs : List Value), RdVs 0 w args vs → Calls P f vs.toArray w fun e w' => ∃ v, e = .returned v ∧ RdT w.heap.size w' r v ∧ Below w.heap.size w w') : AOK γ P f args r :=
  fun w vs hv => .inl ⟨he, h w vs hv⟩
end
end Go.Sx
