/- Loops of which a relation is told, one within or behind another one. -/
import Derived.Test.YtcjiokiafdagdaaSxM
namespace Go.Sx
open Go.RowKit
set_option linter.unusedVariables false
set_option linter.unusedSimpArgs false
theorem br_true' {b : Bool} {p q : Prop} (hb : b = true) (h : p) : br b p q := br_intro (fun _ => h) (fun h => by rw [hb] at h; cases h)
theorem br_false' {b : Bool} {p q : Prop} (hb : b = false) (h : q) : br b p q := br_intro (fun h => by rw [hb] at h; cases h) (fun _ => h)
/-- What a callee asks. -/
theorem br_pre {γ : Type} {r : CR γ} {p q : Prop} (hb : r.pre = true) (h : p) : br r.pre p q := br_true' hb h
def natsEq : List Nat → List Nat → Bool
  | [], [] => true
  | x :: r, y :: s => match Nat.beq x y with
    | true => natsEq r s
    | false => false
  | _, _ => false
theorem natsEq_eq : ∀ {x y : List Nat}, natsEq x y = true → x = y
  | [], [], _ => rfl
  | x :: r, y :: s, h => by
    simp only [natsEq] at h
    split at h
    · rename_i hb
      rw [Nat.eq_of_beq_eq_true hb, natsEq_eq h]
    · cases h
  | [], _ :: _, h => by cases h
  | _ :: _, [], h => by cases h
def loopBody (fc : Code) (pt : List Nat) : Code := match codeAt fc pt with
  | some (.loop b) => b
  | _ => .skip
section
variable {γ : Type} [Gh γ]
/-- The relations of a text's loops: those within others stand behind them. -/
def lpCx (cx : Cx γ) (fc : Code) : List (List Nat × LInv γ) → Cx γ
  | [] => cx
  | (pt, L) :: r => { lpCx cx fc r with loops := fun p => match natsEq p pt with
      | true => some (invF (lpCx cx fc r) pt (loopBody fc pt) L)
      | false => (lpCx cx fc r).loops p }
theorem lpCx_same (cx : Cx γ) (fc : Code) : ∀ l, (lpCx cx fc l).P = cx.P ∧ (lpCx cx fc l).eqs = cx.eqs ∧ (lpCx cx fc l).calls = cx.calls ∧ (lpCx cx fc l).turns = cx.turns ∧ (lpCx cx fc l).n0 = cx.n0 ∧ (lpCx cx fc l).plans = cx.plans
  | [] => ⟨rfl, rfl, rfl, rfl, rfl, rfl⟩
  | (pt, L) :: r => lpCx_same cx fc r
theorem lpCx_calls {cx : Cx γ} {fc : Code} {l : List (List Nat × LInv γ)} (h : CallsOK cx) : CallsOK (lpCx cx fc l) := by
  obtain ⟨h1, _, h2, _⟩ := lpCx_same cx fc l
  intro f n H args r hr hp
  rw [h2] at hr
  rw [h1]
  exact h f n H args r hr hp
theorem lpCx_ok {cx : Cx γ} {fc : Code} (hm : cx.P.follows .mixedOrders = true) (he : EqOK cx.P cx.eqs) (hc : CallsOK cx) (hl : LoopsOK cx fc) : ∀ l, LoopsOK (lpCx cx fc l) fc
  | [] => hl
  | (pt, L) :: r => by
    obtain ⟨h1, h2, h3, _, h5, _⟩ := lpCx_same cx fc r
    intro p F body hF hb
    simp only [lpCx] at hF
    split at hF
    · rename_i hn
      obtain rfl := natsEq_eq hn
      injection hF with hF
      subst hF
      have e : loopBody fc p = body := by simp [loopBody, hb]
      rw [e]
      exact invF_ok (cx := lpCx cx fc r) (cx' := lpCx cx fc ((p, L) :: r)) rfl rfl (by rw [h1]; exact hm) (by rw [h1, h2]; exact he) (lpCx_calls hc) (lpCx_ok hm he hc hl r) hb L
    · have := lpCx_ok hm he hc hl r p F body hF hb
      intro st K h E a w w0 B Q hn hR hQ
      exact this st K h E a w w0 B Q hn hR hQ
/-- A function's text with loops, gone through. -/
theorem pure_exec_l {P : Program} {eqs : TypeId → Bool} {T : Tab} (hT : TabOK γ P T) (hm : P.follows .mixedOrders = true) (he : EqOK P eqs) (turns : Nat) (plans : List (Nat × Plan)) (ls : List (List Nat × LInv γ)) {f : FuncId} {fn : Func} {c : Code} (hf : P.funcs[f]? = some fn)
    (hb : fn.body = some c) {args : List SV} {r : ST} (ha : args.all plainV = true) (hr : plainT r = true) (hn : (fn.name == "runtime.NumGoroutine") = false) {nt : Nat} {rs : List ResultVar} (hnt : fn.ntmps = nt) (hrs : fn.results.toList = rs) (hlen : Nat.ble args.length nt = true) (hin : inT 0 0 r = true)
    (h : exec (lpCx (tabCx γ P eqs turns plans T) c ls) [] c ⟨nt, initT 0 args, 0, []⟩ (fun e st' => Done P rs r e st')) : PureOK γ P f args r := by
  subst hnt
  subst hrs
  have hc0 : CallsOK (tabCx γ P eqs turns plans T) := tabCx_calls hT
  have hl0 : LoopsOK (tabCx γ P eqs turns plans T) c := by rintro _ _ _ ⟨⟩
  obtain ⟨h1, h2, h3, h4, h5, h6⟩ := lpCx_same (tabCx γ P eqs turns plans T) c ls
  have hmm : (lpCx (tabCx γ P eqs turns plans T) c ls).P.follows .mixedOrders = true := by rw [h1]; exact hm
  have hee : EqOK (lpCx (tabCx γ P eqs turns plans T) c ls).P (lpCx (tabCx γ P eqs turns plans T) c ls).eqs := by rw [h1, h2]; exact he
  have e : (fun (e : SExit) (st' : St γ) => Done P fn.results.toList r e st') = fun e st' => ∃ m, froms 0 m = true ∧ Fin (lpCx (tabCx γ P eqs turns plans T) c ls).P fn.results.toList 0 ⟨true, r, []⟩ m e st' := by
    funext e st'
    rw [h1]
    exact propext ⟨fun h => h.ok, fun h => ⟨h⟩⟩
  rw [e] at h
  have key := call_of_exec (cx := lpCx (tabCx γ P eqs turns plans T) c ls) (n := 0) (f := f) (args := args) (H := []) (r := ⟨true, r, []⟩) h5.symm hmm hee (lpCx_calls hc0) (by rw [h1]; exact hf) hn hb (lpCx_ok hm he hc0 hl0 ls) (Nat.le_of_ble_eq_true hlen) hin h
  rw [h1] at key
  exact pureOK_of key ha hr
end
end Go.Sx
