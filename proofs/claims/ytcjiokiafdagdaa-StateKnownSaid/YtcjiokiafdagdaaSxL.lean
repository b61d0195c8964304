/- Contracts of functions that see no memory but their own, kept in tables. -/
import Derived.Test.YtcjiokiafdagdaaSxK
namespace Go.Sx
open Go.RowKit
set_option linter.unusedVariables false
set_option linter.unusedSimpArgs false
theorem br_true {p q : Prop} (h : p) : br true p q := br_intro (fun _ => h) (fun h => by cases h)
theorem br_false {p q : Prop} (h : q) : br false p q := br_intro (fun h => by cases h) (fun _ => h)
def plainC : SC → Bool
  | .v x => x.oneCell'
  | _ => false
def plainV : SV → Bool
  | .c x => plainC x
  | .a cs => cs.all plainC
def plainT : ST → Bool
  | .v x => plainV x
  | .t xs => xs.all plainV
theorem plainC_ren {s : Nat → Option Nat} {n0 n : Nat} {x : SC} (h : plainC x = true) : renC s n0 n x = x ∧ sOK s n0 n x = true ∧ rLt n0 x = true := by
  cases x <;> simp_all [plainC, renC, sOK, rLt]
theorem map_same {α : Type} {f : α → α} : ∀ {l : List α}, (∀ x ∈ l, f x = x) → l.map f = l
  | [], _ => rfl
  | x :: r, h => by rw [List.map_cons, h x (by simp), map_same (fun y hy => h y (by simp [hy]))]
theorem plainV_ren {s : Nat → Option Nat} {n0 n : Nat} {x : SV} (h : plainV x = true) : renV s n0 n x = x ∧ (sOKV s n0 n x && rLtV n0 x) = true := by
  cases x with
  | c x =>
    obtain ⟨h1, h2, h3⟩ := plainC_ren (s := s) (n0 := n0) (n := n) (x := x) h
    simp [renV, sOKV, rLtV, h1, h2, h3]
  | a cs =>
    have h' := List.all_eq_true.1 (h : cs.all plainC = true)
    refine ⟨by rw [renV, map_same fun c hc => (plainC_ren (h' c hc)).1], ?_⟩
    simp only [sOKV, rLtV, Bool.and_eq_true, List.all_eq_true]
    exact ⟨fun c hc => (plainC_ren (h' c hc)).2.1, fun c hc => (plainC_ren (s := s) (n0 := n0) (n := n) (h' c hc)).2.2⟩
theorem plainT_ren {s : Nat → Option Nat} {n0 n : Nat} {x : ST} (h : plainT x = true) : renT s n0 n x = x := by
  cases x with
  | v x => rw [renT, (plainV_ren (x := x) h).1]
  | t xs => rw [renT, map_same fun c hc => (plainV_ren (List.all_eq_true.1 (h : xs.all plainV = true) c hc)).1]
section
variable {γ : Type} [Gh γ]
/-- A function that sees no memory but its own, at these arguments. -/
def PureOK (γ : Type) [Gh γ] (P : Program) (f : FuncId) (args : List SV) (r : ST) : Prop := ∀ (n : Nat) (H : List (Nat × Blk γ)), CallOK P f n H args ⟨true, r, []⟩
theorem pureOK_of {P : Program} {f : FuncId} {args : List SV} {r : ST} (h : CallOK (γ := γ) P f 0 [] args ⟨true, r, []⟩) (ha : args.all plainV = true) (hr : plainT r = true) : PureOK γ P f args r := by
  intro n H
  have ha' := List.all_eq_true.1 ha
  have := call_ren (n := n) (H := H) (s := fun _ => none) h (by intro i j hi; omega) (by rintro _ _ ⟨⟩) (by rintro _ _ ⟨⟩) (by rintro _ _ _ ⟨⟩) (List.all_eq_true.2 fun x hx => (plainV_ren (ha' x hx)).2)
  rw [map_same fun x hx => (plainV_ren (ha' x hx)).1, plainT_ren hr] at this
  exact this
abbrev Tab := FuncId → List SV → Option (Bool × ST)
def TabOK (γ : Type) [Gh γ] (P : Program) (T : Tab) : Prop := ∀ f args r, T f args = some (true, r) → PureOK γ P f args r
def tabCx (γ : Type) [Gh γ] (P : Program) (eqs : TypeId → Bool) (turns : Nat) (plans : List (Nat × Plan)) (T : Tab) : Cx γ :=
  { P := P, eqs := eqs, calls := fun f _ _ a => match T f a with
      | some (p, r) => some ⟨p, r, []⟩
      | none => none
    loops := fun _ => none, turns := turns, n0 := 0, plans := plans }
theorem tabCx_calls {P : Program} {eqs : TypeId → Bool} {turns : Nat} {plans : List (Nat × Plan)} {T : Tab} (h : TabOK γ P T) : CallsOK (tabCx γ P eqs turns plans T) := by
  intro f n H args r hr hp
  simp only [tabCx] at hr
  split at hr
  · rename_i p x hx
    injection hr with hr
    subst hr
    dsimp only at hp
    subst hp
    exact h f args x hx n H
  · cases hr
def Tab.nil : Tab := fun _ _ => none
theorem tabOK_nil {P : Program} : TabOK γ P Tab.nil := by rintro f args r ⟨⟩
/-- One more function. -/
def Tab.cons (g : FuncId) (F : List SV → Option (Bool × ST)) (T : Tab) : Tab := fun f a => match Nat.beq f g with
  | true => F a
  | false => T f a
theorem tabOK_cons {P : Program} {g : FuncId} {F : List SV → Option (Bool × ST)} {T : Tab} (hT : TabOK γ P T) (h : ∀ a r, F a = some (true, r) → PureOK γ P g a r) : TabOK γ P (Tab.cons g F T) := by
  intro f args r hr
  simp only [Tab.cons] at hr
  split at hr
  · rename_i hb
    obtain rfl : f = g := Nat.eq_of_beq_eq_true hb
    exact h args r hr
  · exact hT f args r hr
/-- The call is at its end, with this result. -/
structure Done (P : Program) (rs : List ResultVar) (r : ST) (e : SExit) (st : St γ) : Prop where
  ok : ∃ m, froms 0 m = true ∧ Fin P rs 0 ⟨true, r, []⟩ m e st
def okEnd : SExit → Bool
  | .exit _ => false
  | _ => true
theorem done_intro {P : Program} {rs : List ResultVar} {r r' : ST} {e : SExit} {st : St γ} (he : okEnd e = true) (hp : plainT r = true) (h : resOf P st rs = some r') (h' : eqTp r' r) : Done P rs r e st := by
  refine ⟨[], rfl, ?_⟩
  have hs : substT 0 [] r = r := by
    have hc : ∀ c, plainC c = true → substC 0 [] c = c := by
      intro c hc
      cases c <;> simp_all [plainC, substC]
    have hv : ∀ x, plainV x = true → substV 0 [] x = x := by
      intro x hx
      cases x with
      | c x => rw [substV, hc x hx]
      | a cs => rw [substV, map_same fun c h => hc c (List.all_eq_true.1 (hx : cs.all plainC = true) c h)]
    cases r with
    | v x => rw [substT, hv x hp]
    | t xs => rw [substT, map_same fun x h => hv x (List.all_eq_true.1 (hp : xs.all plainV = true) x h)]
  have := eqTp_eq h'
  subst this
  cases e with
  | exit _ => cases he
  | normal => exact ⟨by rw [h, hs], trivial⟩
  | ret => exact ⟨by rw [h, hs], trivial⟩
/-- A function's text, gone through. -/
theorem pure_exec {P : Program} {eqs : TypeId → Bool} {T : Tab} (hT : TabOK γ P T) (hm : P.follows .mixedOrders = true) (he : EqOK P eqs) (turns : Nat) (plans : List (Nat × Plan)) {f : FuncId} {fn : Func} {c : Code} (hf : P.funcs[f]? = some fn)
    (hb : fn.body = some c) {args : List SV} {r : ST} (ha : args.all plainV = true) (hr : plainT r = true) (hn : (fn.name == "runtime.NumGoroutine") = false) {nt : Nat} {rs : List ResultVar} (hnt : fn.ntmps = nt) (hrs : fn.results.toList = rs) (hlen : Nat.ble args.length nt = true) (hin : inT 0 0 r = true)
    (h : exec (tabCx γ P eqs turns plans T) [] c ⟨nt, initT 0 args, 0, []⟩ (fun e st' => Done P rs r e st')) : PureOK γ P f args r := by
  subst hnt
  subst hrs
  refine pureOK_of (call_of_exec (cx := tabCx γ P eqs turns plans T) rfl hm he (tabCx_calls hT) hf hn hb ?_ (Nat.le_of_ble_eq_true hlen) hin ?_) ha hr
  · rintro _ _ _ ⟨⟩
  · have e : (fun (e : SExit) (st' : St γ) => Done P fn.results.toList r e st') = fun e st' => ∃ m, froms 0 m = true ∧ Fin P fn.results.toList 0 ⟨true, r, []⟩ m e st' := by
      funext e st'
      exact propext ⟨fun h => h.ok, fun h => ⟨h⟩⟩
    rw [e] at h
    exact h
end
end Go.Sx
