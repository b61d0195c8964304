/- From contracts to rows: arguments that are integers by value; a call at the world that a row speaks of. -/
import Derived.Test.YtcjiokiafdagdaaSxN
import Derived.ProofKit
import Derived.OpenShut
import Derived.Carry
namespace Go.Sx
open Go.RowKit
set_option linter.unusedVariables false
set_option linter.unusedSimpArgs false
/-- Integers, cell by cell. -/
def intsL : List IntKind → Nat → (Nat → Int) → List SC
  | [], _, _ => []
  | k :: r, i, f => .v (.int k (f i)) :: intsL r (i + 1) f
theorem intsL_get : ∀ (ks : List IntKind) (i : Nat) (f : Nat → Int) (j : Nat), (intsL ks i f)[j]? = (ks[j]?).map fun k => .v (.int k (f (i + j)))
  | [], i, f, j => by simp [intsL]
  | k :: r, i, f, 0 => by simp [intsL]
  | k :: r, i, f, j + 1 => by
    simp only [intsL, List.getElem?_cons_succ]
    rw [intsL_get r (i + 1) f j]
    congr 1
    funext k
    rw [show i + 1 + j = i + (j + 1) from by omega]
def kindsOf (P : Program) : List TypeId → Option (List IntKind)
  | [] => some []
  | t :: r => match P.underlying t with
    | some (.int k) => match kindsOf P r with
      | some l => some (k :: l)
      | none => none
    | _ => none
theorem kindsOf_get {P : Program} : ∀ {ts : List TypeId} {ks : List IntKind}, kindsOf P ts = some ks → ts.length = ks.length ∧ ∀ (i : Nat) (t : TypeId), ts[i]? = some t → ∃ k, ks[i]? = some k ∧ P.underlying t = some (.int k)
  | [], ks, h => by
    injection h with h
    subst h
    exact ⟨rfl, fun i t h => by cases h⟩
  | t :: r, ks, h => by
    simp only [kindsOf] at h
    split at h
    · rename_i k hk
      split at h
      · rename_i l hl
        injection h with h
        subst h
        obtain ⟨h1, h2⟩ := kindsOf_get hl
        refine ⟨by simp [h1], fun i u hi => ?_⟩
        cases i with
        | zero => injection hi with hi; subst hi; exact ⟨k, rfl, hk⟩
        | succ i => exact h2 i u (by simpa using hi)
      · cases h
    · cases h
def intOf' : Value → Int
  | .int _ n => n
  | _ => 0
/-- A struct of integers by value, as it comes in. -/
theorem flat_ints {P : Program} {w : World} {base : Nat} {t : TypeId} {cs : Array Value} {ts : List TypeId} {ks : List IntKind} (h : Row.okWide P w .any base t cs) (hn : cs.size = P.cellsOf t) (hc : P.cellsOf t = ks.length) (hts : P.cellTypes P.depth t = some ts) (hk : kindsOf P ts = some ks) :
    ∃ f : Nat → Int, cs.toList = (intsL ks 0 f).map (SC.den ⟨fun _ => none, fun _ => 0, fun _ => 0⟩) ∧ ∀ (i : Nat) (k : IntKind), ks[i]? = some k → k.min ≤ f i ∧ f i ≤ k.max := by
  obtain ⟨ts', h1, _, h3⟩ := h
  rw [hts] at h1
  injection h1 with h1
  subst h1
  obtain ⟨hl, hg⟩ := kindsOf_get hk
  have key : ∀ (i : Nat) (k : IntKind), ks[i]? = some k → ∃ n, cs[i]? = some (.int k n) ∧ k.min ≤ n ∧ n ≤ k.max := by
    intro i k hi
    have hi' : i < ks.length := (List.getElem?_eq_some_iff.1 hi).1
    have hv : cs[i]? = some cs[i] := Array.getElem?_eq_getElem (by omega)
    obtain ⟨u, hu, ho⟩ := h3 i _ hv
    rw [Nat.mod_eq_of_lt (by omega)] at hu
    obtain ⟨k', hk', hku⟩ := hg i u hu
    rw [hi] at hk'
    injection hk' with hk'
    subst hk'
    rw [hv]
    unfold Cell.okWide at ho
    rw [hku] at ho
    have ho : Cell.ok P w .any base u cs[i] := by
      revert ho
      cases cs[i] <;> exact id
    unfold Cell.ok at ho
    rw [hku] at ho
    revert ho
    cases cs[i] <;> dsimp only <;> intro ho <;> try exact ho.elim
    obtain ⟨rfl, ho⟩ := ho
    exact ⟨_, rfl, ho⟩
  refine ⟨fun i => intOf' (cs.getD i undef), ?_, fun i k hi => ?_⟩
  · apply List.ext_getElem?
    intro i
    rw [List.getElem?_map, intsL_get]
    cases hi : ks[i]? with
    | none =>
      have : cs.toList.length ≤ i := by
        have := List.getElem?_eq_none_iff.1 hi
        simp; omega
      rw [List.getElem?_eq_none this]
      rfl
    | some k =>
      obtain ⟨n, h1, _⟩ := key i k hi
      rw [Array.getElem?_toList, h1]
      simp [SC.den, intOf', h1]
  · obtain ⟨n, h1, h2⟩ := key i k hi
    simp only [Array.getD_eq_getD_getElem?, h1, Option.getD_some, intOf']
    exact h2
section
variable {γ : Type} [Gh γ]
/-- A function's call at the world that a row speaks of. -/
theorem calls_of_pure {P : Program} {f : FuncId} {args : List SV} {r : ST} (h : PureOK γ P f args r) (he : Enters P f) (ha : args.all plainV = true) (w : World) :
    Calls P f (args.map (SV.den ⟨fun _ => none, fun _ => 0, fun _ => 0⟩)).toArray w fun e w' => (∃ E, e = .returned (r.den E)) ∧ Below w.heap.size w w' := by
  have hHR : HR (γ := γ) ⟨fun _ => none, fun _ => 0, fun _ => 0⟩ 0 (stillH []) w.heap.size w :=
    ⟨(by rintro _ _ _ ⟨⟩), (by rintro _ _ _ ⟨⟩), (by rintro _ _ ⟨⟩), (by rintro _ _ _ _ _ _ _ _ ⟨⟩), (by rintro _ _ ⟨⟩), (by rintro _ _ _ (⟨⟨⟩⟩ | ⟨⟨⟩⟩))⟩
  rcases h 0 [] ⟨fun _ => none, fun _ => 0, fun _ => 0⟩ w hHR (fun x hx => by
    have := List.all_eq_true.1 ha x hx
    have hc : ∀ c, plainC c = true → c.okn ⟨fun _ => none, fun _ => 0, fun _ => 0⟩ 0 := by
      intro c hc
      cases c <;> simp_all [plainC, SC.okn]
    cases x with
    | c x => exact hc x this
    | a cs => exact fun c h => hc c (List.all_eq_true.1 (this : cs.all plainC = true) c h)) with ⟨_, h⟩ | ⟨v, h, _⟩
  · exact h.mono fun e w' ⟨E', _, h1, _, h2, _⟩ => ⟨⟨E', h1⟩, h2⟩
  · rw [he] at h
    cases h
end
end Go.Sx
