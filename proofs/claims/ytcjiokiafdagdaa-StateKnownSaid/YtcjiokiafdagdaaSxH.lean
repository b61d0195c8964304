/- The executor's answers are the model's: regions that draw their order. -/
import Derived.Test.YtcjiokiafdagdaaSxG
namespace Go.Sx
open Go.RowKit
set_option linter.unusedVariables false
set_option linter.unusedSimpArgs false
section
variable {P : Program} {ops : Array Oper} {Q : Exit → Act → World → Prop} {S : World → Prop}
/-- A class of worlds that a callee does not leave that only makes. -/
def Cl (C : World → Prop) : Prop := ∀ w w', C w → Below w.heap.size w w' → C w'
/-- Whatever order is picked from here on, from each world of a class; behind each operation there is a class again, within S. -/
def wpAnyC (P : Program) (ops : Array Oper) (Q : Exit → Act → World → Prop) (S : World → Prop) : Nat → Array Bool → (World → Prop) → Act → Prop
  | 0, listed, C, a => Region.ready .any ops listed = [] ∧ ∀ w, C w → Q .normal a w
  | f + 1, listed, C, a => (Region.ready .any ops listed = [] → ∀ w, C w → Q .normal a w) ∧
    ∀ i ∈ Region.ready .any ops listed, ∀ w, C w → wpOp P ops Q i (fun a' w' => ∃ C', (Cl C' ∧ ∀ w, C' w → S w) ∧ C' w' ∧ wpAnyC P ops Q S f (listed.setIfInBounds i true) C' a') a w
theorem wpAny_of_C : ∀ (f : Nat) (listed : Array Bool) (C : World → Prop) (a : Act) (w : World), wpAnyC P ops Q S f listed C a → C w → wpAny P .any ops Q f listed a w
  | 0, _, _, _, _, h, hw => ⟨h.1, h.2 _ hw⟩
  | f + 1, _, _, _, _, h, hw => ⟨fun h0 => h.1 h0 _ hw, fun i hi => wpOp_mono (fun a' w' ⟨C', _, hw', h'⟩ => wpAny_of_C f _ C' a' w' h' hw') (h.2 i hi _ hw)⟩
theorem wpAnyC_weaken {S' : World → Prop} (hS : ∀ w, S w → S' w) : ∀ (f : Nat) (listed : Array Bool) (C : World → Prop) (a : Act), wpAnyC P ops Q S f listed C a → wpAnyC P ops Q S' f listed C a
  | 0, _, _, _, h => h
  | f + 1, _, _, _, h => ⟨h.1, fun i hi w hw => wpOp_mono (fun a' w' ⟨C', ⟨h1, h2⟩, hw', h'⟩ => ⟨C', ⟨h1, fun w hw => hS w (h2 w hw)⟩, hw', wpAnyC_weaken hS f _ C' a' h'⟩) (h.2 i hi w hw)⟩
theorem wpAnyC_sub {C C' : World → Prop} (hC : ∀ w, C' w → C w) : ∀ (f : Nat) (listed : Array Bool) (a : Act), wpAnyC P ops Q S f listed C a → wpAnyC P ops Q S f listed C' a
  | 0, _, _, h => ⟨h.1, fun w hw => h.2 w (hC w hw)⟩
  | f + 1, _, _, h => ⟨fun h0 w hw => h.1 h0 w (hC w hw), fun i hi w hw => h.2 i hi w (hC w hw)⟩
theorem wpAnyC_more : ∀ (f : Nat) (listed : Array Bool) (C : World → Prop) (a : Act), wpAnyC P ops Q S f listed C a → wpAnyC P ops Q S (f + 1) listed C a
  | 0, _, _, _, h => ⟨fun _ => h.2, fun i hi => by rw [h.1] at hi; cases hi⟩
  | f + 1, _, _, _, h => ⟨h.1, fun i hi w hw => wpOp_mono (fun a' w' ⟨C', h1, h2, h3⟩ => ⟨C', h1, h2, wpAnyC_more f _ C' a' h3⟩) (h.2 i hi w hw)⟩
/-- One value in every world of S; a callee may have made things. -/
def QY (P : Program) (ops : Array Oper) (S : World → Prop) (o : Oper) (v : Value) (a : Act) : Prop :=
  (Region.wanted o (yielded ops a.tmps) = true ∧ ∀ w, S w → o.quietAt P a (fun w' => Below w.heap.size w w') w v) ∨
  (Region.wanted o (yielded ops a.tmps) = false ∧ v = undef)
theorem QY.of_same {o : Oper} {v : Value} {a a' : Act} (hy : QY P ops S o v a) (he : execOp a'.eval o = execOp a.eval o)
    (hw : Region.wanted o (yielded ops a'.tmps) = Region.wanted o (yielded ops a.tmps)) : QY P ops S o v a' := by
  unfold QY Oper.quietAt at *
  rw [he, hw]
  exact hy
theorem QY.wpOp {i : Nat} {o : Oper} {v : Value} {a : Act} (hi : ops[i]? = some o) (hy : QY P ops S o v a) {K : Act → World → Prop} {w : World} (hS : S w)
    (h : ∀ w', Below w.heap.size w w' → K (a.put o.dst v) w') : wpOp P ops Q i K a w := by
  unfold Go.wpOp
  simp only [hi]
  rcases hy with ⟨hw, hv⟩ | ⟨hw, rfl⟩
  · simp only [hw, if_true]
    refine .inl ?_
    have h3 := hv w hS
    unfold Oper.quietAt at h3
    unfold Oper.wp
    generalize (execOp a.eval o).run P w = r at *
    cases r with
    | ok n w' =>
      cases n <;> simp only [Oper.quietUpon] at h3 <;> simp only [Oper.upon]
      case value u =>
        obtain ⟨e1, e2⟩ := h3
        rw [e1, e2]
        exact h _ (Below.refl _ _)
      case skip =>
        obtain ⟨e1, e2⟩ := h3
        rw [e1, ← e2]
        exact h _ (Below.refl _ _)
      case enter f args =>
        obtain ⟨e1, hc⟩ := h3
        rw [e1]
        exact hc.mono fun e w'' ⟨he, hw''⟩ => by subst he; exact h _ hw''
    | halt x w' => simp only [Oper.quietUpon] at h3
  · simp only [hw, Bool.false_eq_true, if_false]; exact h _ (Below.refl _ _)
theorem wpOp_putY {j : Nat} {oi oj : Oper} {v : Value} (hj : ops[j]? = some oj) (hap : oi.apart ops oj = true)
    (hsi : ∀ cs b, oi.op ≠ .select cs b) (hsj : ∀ cs b, oj.op ≠ .select cs b)
    (hQ : ∀ c a w, Q (.panic c) (a.put oi.dst v) w → Q (.panic c) a w) {K : Act → World → Prop} {a : Act} {w : World}
    (hy : QY P ops S oi v a) (h : wpOp P ops Q j K (a.put oi.dst v) w) :
    wpOp P ops Q j (fun a' w' => QY P ops S oi v a' ∧ K (a'.put oi.dst v) w') a w := by
  obtain ⟨h1, h2, h3⟩ := Oper.apart_spec hap
  have keep : ∀ (a : Act), QY P ops S oi v a → ∀ u, QY P ops S oi v (a.put oj.dst u) := fun a hy u =>
    hy.of_same (execOp_put oi hsi a oj.dst u h3) (wanted_put oi a oj.dst u h3)
  have keepD : ∀ d, QY P ops S oi v { a with defers := d :: a.defers } := fun d => hy.of_same rfl rfl
  unfold wpOp at *
  simp only [hj] at *
  rw [wanted_put oj a oi.dst v h1] at h
  split
  · rename_i hw
    simp only [hw, if_true] at h
    rcases h with h | ⟨hasks, hlets⟩
    case inr => exact .inr ⟨by unfold Oper.asks at *; rw [execOp_put oj hsj a oi.dst v h1] at hasks; exact hasks, hlets⟩
    refine .inl ?_
    unfold Oper.wp at *
    rw [execOp_put oj hsj a oi.dst v h1] at h
    generalize (execOp a.eval oj).run P w = r at *
    cases r with
    | ok n w' =>
      cases n <;> simp only [Oper.upon] at h ⊢
      case value u => exact ⟨keep a hy u, by rw [← Act.put_comm a v u h2]; exact h⟩
      case skip => exact ⟨keep a hy _, by rw [← Act.put_comm a v undef h2]; exact h⟩
      case defer d =>
        refine ⟨keep _ (keepD d) _, ?_⟩
        rw [← Act.put_comm _ v undef h2, ← Act.put_defers]
        exact h
      case enter f args =>
        refine Calls.mono h fun e w'' he => ?_
        cases e with
        | returned u => exact ⟨keep a hy u, by rw [← Act.put_comm a v u h2]; exact he⟩
        | panicked c => exact hQ _ _ _ he
        | outgrown => exact he
      case row row args => exact Rows.mono h fun u w'' he => ⟨keep a hy u, by rw [← Act.put_comm a v u h2]; exact he⟩
    | halt x w' =>
      cases x <;> simp only [Oper.upon] at h ⊢
      case panic u => exact hQ _ _ _ h
  · rename_i hw
    simp only [hw] at h
    exact ⟨keep a hy _, by rw [← Act.put_comm a v undef h2]; exact h⟩
/-- An operation that only reads may be taken first. -/
theorem wpAnyC_first {i : Nat} {oi : Oper} {v : Value} (hi : ops[i]? = some oi) (hsel : ∀ (j : Nat) (o : Oper) cs b, ops[j]? = some o → o.op ≠ .select cs b)
    (hQ : ∀ c a w, Q (.panic c) (a.put oi.dst v) w → Q (.panic c) a w) :
    ∀ (fuel : Nat) (listed : Array Bool) (C : World → Prop) (a : Act), Cl C → (∀ w, C w → S w) →
      (∀ j oj, ops[j]? = some oj → j ≠ i → listed.getD j true = false → (∀ e ∈ oj.after, Region.binds .any e = true → e.on ≠ i) → oi.apart ops oj = true) →
      i ∈ Region.ready .any ops listed → QY P ops S oi v a →
      wpAnyC P ops Q S fuel (listed.setIfInBounds i true) C (a.put oi.dst v) → wpAnyC P ops Q S (fuel + 1) listed C a := by
  intro fuel
  induction fuel with
  | zero =>
    intro listed C a hC hS _ hr hy H
    refine ⟨fun h => (by rw [h] at hr; cases hr), fun j hj w hw => ?_⟩
    by_cases hji : j = i
    · subst hji; exact hy.wpOp hi (hS w hw) fun w' hb => ⟨C, ⟨hC, hS⟩, hC _ _ hw hb, H⟩
    · have := ready_mono hj hji
      rw [H.1] at this
      cases this
  | succ fuel ih =>
    intro listed C a hC hS hfree hr hy H
    refine ⟨fun h => (by rw [h] at hr; cases hr), fun j hj w hw => ?_⟩
    by_cases hji : j = i
    · subst hji; exact hy.wpOp hi (hS w hw) fun w' hb => ⟨C, ⟨hC, hS⟩, hC _ _ hw hb, H⟩
    · have h1 := H.2 j (ready_mono hj hji) w hw
      obtain ⟨hjun, oj, hoj, hall⟩ := mem_ready.1 hj
      have hnot : ∀ e ∈ oj.after, Region.binds .any e = true → e.on ≠ i := fun e he hb heq => by
        have h1 := hall e he hb
        have h0 := (mem_ready.1 hr).1
        rw [heq] at h1
        rcases Nat.lt_or_ge i listed.size with h' | h'
        · simp [h'] at h0 h1; rw [h0] at h1; cases h1
        · simp [Array.getElem?_eq_none h'] at h1
      have h2 := wpOp_putY hoj (hfree j oj hoj hji hjun hnot) (fun cs b => hsel i oi cs b hi) (fun cs b => hsel j oj cs b hoj) hQ hy h1
      have hfree' : ∀ k ok, ops[k]? = some ok → k ≠ i → (listed.setIfInBounds j true).getD k true = false →
          (∀ e ∈ ok.after, Region.binds .any e = true → e.on ≠ i) → oi.apart ops ok = true := fun k ok hk hki hun hno => by
        refine hfree k ok hk hki ?_ hno
        by_cases hjk : j = k
        · subst hjk; exact hjun
        · rw [getD_set_ne true hjk] at hun; exact hun
      refine wpOp_mono (fun a' w' h3 => ?_) h2
      obtain ⟨hy', C', ⟨hc1, hc2⟩, hw', h4⟩ := h3
      refine ⟨C', ⟨hc1, hc2⟩, hw', ih (listed.setIfInBounds j true) C' a' hc1 hc2 hfree' (ready_mono hr (Ne.symm hji)) hy' ?_⟩
      rw [Array.setIfInBounds_comm _ _ hji]
      exact h4
end
end Go.Sx
