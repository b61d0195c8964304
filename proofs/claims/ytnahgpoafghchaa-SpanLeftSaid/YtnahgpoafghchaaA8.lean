/- 'sallyportlaw15.SpanLeft' returns true of every input (two spans, two numbers), and leaves what it was handed as it was. No condition. -/
import Derived.Test.YtnahgpoafghchaaRows
import Derived.Test.YtnahgpoafghchaaA7
import Derived.Test.YtnahgpoafghchaaSxR
namespace Go.Proofs.Ytnahgpoafghchaa
open Go.ChangeShapes Go.WideShapes Go.ChangeAt Go.RowKit Go.Sx
set_option linter.unusedVariables false
theorem own : ownKnob Try.prog.godebug = none := by kernel_rfl
theorem laidOut : laidOutB Try.prog = true := by kernel_rfl
theorem spanLeft_enters : Enters P 3 := enters_of (fn := Try.f3) Try.func3 rfl rfl
theorem spanLeft_calls {W : World} {base : Nat} {v : Value} (h : Value.okWide Try.prog W .any base 26 v) : Calls Try.prog 3 #[v] W fun e W' => e = .returned (.bool true) ∧ Below W.heap.size W W' := by
  unfold Value.okWide at h
  rw [Try.underlying26] at h
  obtain ⟨cs, rfl, h1, h2⟩ := h
  obtain ⟨f, h3, h4⟩ := flat_ints (ks := [.u64, .u64, .u64, .u64, .u64, .u64]) h2 h1 (by kernel_rfl) (ts := [22, 22, 22, 22, 22, 22]) (by kernel_rfl) (by kernel_rfl)
  have e1 : IntKind.u64.min = 0 := by decide
  have e2 : IntKind.u64.max = 18446744073709551615 := by decide
  have g0 := h4 0 _ rfl
  have g1 := h4 1 _ rfl
  have g2 := h4 2 _ rfl
  have g3 := h4 3 _ rfl
  have g4 := h4 4 _ rfl
  have g5 := h4 5 _ rfl
  rw [e1, e2] at g0 g1 g2 g3 g4 g5
  have hl := left_ok g0.1 g0.2 g1.1 g1.2 g2.1 g2.2 g3.1 g3.2 g4.1 g4.2 g5.1 g5.2
  have hc := calls_of_pure hl spanLeft_enters rfl W
  have e : cs = ((intsL [.u64, .u64, .u64, .u64, .u64, .u64] 0 f).map (SC.den ⟨fun _ => none, fun _ => 0, fun _ => 0⟩)).toArray := by
    apply Array.ext'
    rw [h3]
  rw [e]
  refine Calls.mono hc fun e w' h => ?_
  obtain ⟨⟨E, h5⟩, h6⟩ := h
  exact ⟨h5, h6⟩
set_option maxRecDepth 100000 in
theorem lifted (os : Os) (started : os.Started) (H : Type) (enc : TypeId × Value → H) :
    ReturnsInHanded {} Try.checked os 3 .any (Rows.spanLeftSpec.pre6 enc Try.prog Try.f3 Rows.spanLeftRow.domain false) (Rows.spanLeftSpec.post enc Try.prog Try.f3 false true false false) := by
  refine returnsInHanded_of_change (C := Try.checked) own started (by kernel_rfl) Try.func3
    (ChangeSpec.witness6 (enc := enc) (C := Try.checked) false ⟨#[], #[.agg #[.int .u64 0, .int .u64 0, .int .u64 0, .int .u64 0, .int .u64 0, .int .u64 0]], []⟩ 8 (by kernel_rfl) (by kernel_rfl) (by kernel_rfl) (by kernel_rfl)) ?_
  intro W base args ds gs before hval0 hW hcnd _
  have hval : ∀ (j : Nat) t v, Try.f3.params[j]? = some t → args[j]? = some v → Value.okWide Try.prog W .any base t v := hval0
  have hW' := hW
  obtain ⟨p, q, hA0, hV, rfl, hfz, hnd⟩ := hW
  have hA : DataW.TrodAll enc Try.prog W 0 (fun _ => true) true Try.f3.params.toList args.toList ds p := hA0
  rw [Try.params3] at hA hval
  obtain ⟨v0, vs0, d0, ds0, p0, q0, hargs, rfl, rfl, h0, r0⟩ := trodAll_cons hA
  obtain ⟨rfl, rfl, rfl⟩ := trodAll_nil r0
  obtain rfl : args = #[v0] := by cases args; simp_all
  obtain ⟨rfl, rfl⟩ := trodVars_none hV
  have k0 := h0
  have lt0 : ∀ x ∈ p0, x.block < W.heap.size := by obtain ⟨m, hm⟩ := k0; exact DataW.trod_lt m _ _ _ hm
  clear hA0 hval0
  refine (spanLeft_calls (hval 0 26 v0 rfl rfl)).mono fun e W' ⟨he, bel⟩ => ?_
  subst he
  exact ⟨_, rfl, _, _, _, [], _, [], hW', trodAll_mk1 (shut_bool Try.underlying4 _), (trodAll_cons_mk (Below.trod laidOut (by kernel_rfl) (of_decide_eq_true (by kernel_rfl)) k0 bel lt0) trodAll_mk0), rfl, bel.frame _, fun h => by cases h⟩
theorem spanLeft_holds : Rows.SpanLeftSaid :=
  OpenClaim.holds_of_wide 3 Try.f3 rfl rfl rfl rfl rfl rfl rfl ⟨rfl, rfl, rfl, rfl, rfl⟩ rfl rfl rfl rfl rfl (by kernel_rfl) Try.func3 (by kernel_rfl)
    (of_decide_eq_true (by kernel_rfl)) (by unfold Func.isWrapper; first | (rw [if_pos (by decide +kernel)]; kernel_rfl) | (rw [if_neg (by decide +kernel)]; exact ⟨rfl, rfl⟩))
    (fun os started H enc _ => lifted os started H enc)
#print axioms spanLeft_holds
end Go.Proofs.Ytnahgpoafghchaa
