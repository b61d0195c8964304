/- SpanLeft: the law's own text. -/
import Derived.Test.YtnahgpoafghchaaA5
import Derived.Test.YtnahgpoafghchaaA6
import Derived.Test.YtnahgpoafghchaaSxN
namespace Go.Proofs.Ytnahgpoafghchaa
open Go.Sx Go.RowKit
set_option linter.unusedVariables false
set_option linter.unusedSimpArgs false
set_option maxRecDepth 100000
set_option maxHeartbeats 2000000
def plans3 : List (Nat × Plan) := [(6, ⟨[(0, true), (1, true), (2, true), (3, true), (4, true), (5, true), (6, true), (7, true), (8, true), (9, true), (10, true), (11, true)], [], []⟩)]
theorem tab7_ok : TabOK G0 P (Tab.cons 4 worksT (Tab.cons 5 checkT (Tab.cons 6 cutT (Tab.cons 7 insideT (Tab.cons 8 compareT (Tab.cons 9 hasT (Tab.cons 10 underT Tab.nil))))))) :=
  tabOK_cons (tabOK_cons (tabOK_cons (tabOK_cons (tabOK_cons (tabOK_cons (tabOK_cons tabOK_nil under_ok) has_ok) compare_ok) inside_ok) cut_ok) check_ok) works_ok
def two (a0 a1 b0 b1 X Y : Int) : SV := .a [.v (.int .u64 a0), .v (.int .u64 a1), .v (.int .u64 b0), .v (.int .u64 b1), .v (.int .u64 X), .v (.int .u64 Y)]
def roundL (a0 a1 b0 b1 X Y : Int) : LInv G0 :=
  { α := Int
    I := fun op => ⟨171, [(9, .v (u8 op)), (8, .v (u64 (insideF b0 b1 Y))), (7, .v (u64 (insideF a0 a1 X))), (1, .v (.c (.p 0 0)))], 1, [(0, .own 26 [.v (.int .u64 a0), .v (.int .u64 a1), .v (.int .u64 b0), .v (.int .u64 b1), .v (.int .u64 X), .v (.int .u64 Y)])]⟩
    R := fun op => 23 ≤ op ∧ op ≤ 33
    μ := fun op => (33 - op).toNat }
theorem checkF_0 {a b : Int} (h : a ≤ b) : (checkF a b != 0) = false := by
  have : ¬ a > b := by omega
  simp [checkF, this]
theorem cutE_0 {a0 a1 b0 b1 : Int} (ha : a0 ≤ a1) (hb : b0 ≤ b1) : (cutE a0 a1 b0 b1 != 0) = false := by
  simp [cutE, okF_of ha hb]
theorem pre_in {a b : Int} (h0 : 0 ≤ a) (h : a ≤ b) (h1 : b ≤ 18446744073709551615) : (decide (0 ≤ a) && decide (a ≤ b) && decide (b ≤ top)) = true := by
  simp [h0, h, top, h1]
theorem inn {a b c d : Int} (h : a ≤ b) (h' : c ≤ d) : (!(decide (a ≤ b) && decide (c ≤ d))) = false := by
  simp [h, h']
theorem wrap_u8 {x : Int} (h0 : 0 ≤ x) (h1 : x ≤ 255) : IntKind.u8.wrap x = x := by
  simp only [IntKind.wrap, IntKind.bits, IntKind.signed]
  simp
  omega
theorem left_yes {a0 a1 b0 b1 X Y : Int} (g0 : 0 ≤ a0) (g1 : a1 ≤ 18446744073709551615) (g2 : 0 ≤ b0) (g3 : b1 ≤ 18446744073709551615) (gX : 0 ≤ X ∧ X ≤ 18446744073709551615) (gY : 0 ≤ Y ∧ Y ≤ 18446744073709551615) (ga : a0 ≤ a1) (gb : b0 ≤ b1) :
    PureOK G0 P 3 [two a0 a1 b0 b1 X Y] (.v (bo true)) := by
  refine pure_exec_l tab7_ok mixed eqs_ok 0 plans3 [([0, 1, 0, 1, 1, 1, 1], roundL a0 a1 b0 b1 X Y)] Try.func3 rfl rfl rfl rfl rfl rfl rfl rfl ?_
  have c1 := checkF_0 ga
  have c2 := checkF_0 gb
  have c3 := pre_in g0 ga g1
  have c4 := pre_in g2 gb g3
  repeat' ((conv => whnf); first | with_reducible refine br_true ?_ | with_reducible refine br_false ?_ | with_reducible refine br_true' (by assumption) ?_ | with_reducible refine br_false' (by assumption) ?_ | (with_reducible refine br_intro (fun h => ?_) (fun h => ?_) <;> try exact absurd h (by decide)) | ((with_reducible apply drw_intro); · kernel_rfl))
  conv => whnf
  refine ⟨(23 : Int), ⟨⟨by decide, by decide⟩, ⟨⟨rfl, rfl, rfl⟩, ?_, ?_⟩⟩, ?_⟩
  · repeat' (first | trivial | rfl | refine And.intro ?_ ?_)
  · repeat' (first | trivial | rfl | refine And.intro ?_ ?_)
  rintro (op : Int) ⟨ho1, ho2⟩
  have ho1 : 23 ≤ op := ho1
  have ho2 : op ≤ 33 := ho2
  have hx := inside_le g0 ga g1 gX.1 gX.2
  have hy := inside_le g2 gb g3 gY.1 gY.2
  obtain ⟨x, ex⟩ : ∃ x, insideF a0 a1 X = x := ⟨_, rfl⟩
  obtain ⟨y, ey⟩ : ∃ y, insideF b0 b1 Y = y := ⟨_, rfl⟩
  simp only [roundL, ex, ey] at hx hy ⊢
  by_cases hop : op ≤ 32
  · have hin : inOp op = true := by simp [inOp, hop, ho1]
    obtain ⟨fL, fM⟩ := round_facts hin g0 g1 g2 g3 hx.1 hx.2 hy.1 hy.2
    have d0 : decide (op ≤ 32) = true := by simp [hop]
    have d1 := cutE_0 ga gb
    have d2 : (!(cutF (plainF op (cmpF (plainF op true) x y)) a0 a1 b0 b1).is) = false := by simp [fL.is]
    have d3 := inn fL.ha1 fL.ha2
    have d4 := inn fL.hb1 fL.hb2
    have d5 := inn fL.ua1 fL.ua2
    have d6 := inn fL.ub1 fL.ub2
    cases hm : (cutF (plainF op (!cmpF (plainF op true) x y)) a0 a1 b0 b1).is
    · obtain ⟨e1, e2, e3, e4⟩ := fM.no hm
      have d7 : (!(cutF (plainF op (!cmpF (plainF op true) x y)) a0 a1 b0 b1).is) = true := by simp [hm]
      have d8 : (!((cutF (plainF op (!cmpF (plainF op true) x y)) a0 a1 b0 b1).a == 0 && ((cutF (plainF op (!cmpF (plainF op true) x y)) a0 a1 b0 b1).b == 0 && true))) = false := by simp [e1, e2]
      have d9 : (!((cutF (plainF op (!cmpF (plainF op true) x y)) a0 a1 b0 b1).c == 0 && ((cutF (plainF op (!cmpF (plainF op true) x y)) a0 a1 b0 b1).d == 0 && true))) = false := by simp [e3, e4]
      repeat' ((conv => whnf); first | with_reducible refine br_true ?_ | with_reducible refine br_false ?_ | with_reducible refine br_true' (by assumption) ?_ | with_reducible refine br_false' (by assumption) ?_ | (with_reducible refine br_intro (fun h => ?_) (fun h => ?_) <;> try exact absurd h (by decide)) | ((with_reducible apply drw_intro); · kernel_rfl))
      conv => whnf
      refine ⟨(op + 1 : Int), ⟨⟨?_, ?_⟩, ?_⟩, ⟨⟨rfl, rfl, rfl⟩, ?_, ?_⟩⟩
      · show (23 : Int) ≤ op + 1; omega
      · show (op + 1 : Int) ≤ 33; omega
      · show (33 - (op + 1)).toNat < (33 - op).toNat; omega
      · simp only [roundL, ex, ey]
        refine And.intro (wrap_u8 (by omega) (by omega)) ?_
        repeat' (first | trivial | rfl | refine And.intro ?_ ?_)
      · repeat' (first | trivial | rfl | refine And.intro ?_ ?_)
    · obtain ⟨e1, e2, e3, e4, e5, e6⟩ := fM.yes hm
      have d7 : (!(cutF (plainF op (!cmpF (plainF op true) x y)) a0 a1 b0 b1).is) = false := by simp [hm]
      have d8 := inn e1 e2
      have d9 := inn e3 e4
      have d10 := checkF_0 e5
      have d11 := checkF_0 e6
      repeat' ((conv => whnf); first | with_reducible refine br_true ?_ | with_reducible refine br_false ?_ | with_reducible refine br_true' (by assumption) ?_ | with_reducible refine br_false' (by assumption) ?_ | (with_reducible refine br_intro (fun h => ?_) (fun h => ?_) <;> try exact absurd h (by decide)) | ((with_reducible apply drw_intro); · kernel_rfl))
      conv => whnf
      refine ⟨(op + 1 : Int), ⟨⟨?_, ?_⟩, ?_⟩, ⟨⟨rfl, rfl, rfl⟩, ?_, ?_⟩⟩
      · show (23 : Int) ≤ op + 1; omega
      · show (op + 1 : Int) ≤ 33; omega
      · show (33 - (op + 1)).toNat < (33 - op).toNat; omega
      · simp only [roundL, ex, ey]
        refine And.intro (wrap_u8 (by omega) (by omega)) ?_
        repeat' (first | trivial | rfl | refine And.intro ?_ ?_)
      · repeat' (first | trivial | rfl | refine And.intro ?_ ?_)
  · obtain rfl : op = 33 := by omega
    repeat' ((conv => whnf); first | with_reducible refine br_true ?_ | with_reducible refine br_false ?_ | with_reducible refine br_true' (by assumption) ?_ | with_reducible refine br_false' (by assumption) ?_ | (with_reducible refine br_intro (fun h => ?_) (fun h => ?_) <;> try exact absurd h (by decide)) | ((with_reducible apply drw_intro); · kernel_rfl))
    conv => whnf
    exact done_intro rfl rfl rfl rfl
theorem left_no {a0 a1 b0 b1 X Y : Int} (hn : okF a0 a1 b0 b1 = false) : PureOK G0 P 3 [two a0 a1 b0 b1 X Y] (.v (bo true)) := by
  refine pure_exec_l tab7_ok mixed eqs_ok 0 plans3 [([0, 1, 0, 1, 1, 1, 1], roundL a0 a1 b0 b1 X Y)] Try.func3 rfl rfl rfl rfl rfl rfl rfl rfl ?_
  have hn' : (checkF a0 a1 != 0) = false → (checkF b0 b1 != 0) = false → False := by
    intro h1 h2
    simp [okF, h1, h2] at hn
  have d1 : (cutE a0 a1 b0 b1 == 150) = true := by simp [cutE, hn]
  have d0 : inOp 27 = true := by decide
  repeat' ((conv => whnf); first | with_reducible refine br_true ?_ | with_reducible refine br_false ?_ | with_reducible refine br_true' (by assumption) ?_ | with_reducible refine br_false' (by assumption) ?_ | (with_reducible refine br_intro (fun h => ?_) (fun h => ?_) <;> try exact absurd h (by decide)) | ((with_reducible apply drw_intro); · kernel_rfl))
  all_goals first
    | exact absurd ‹(checkF b0 b1 != 0) = false› (fun h2 => hn' (by assumption) h2)
    | (conv => whnf
       refine done_intro (r' := .v (bo (!(cutF (plainF 27 true) a0 a1 b0 b1).is))) rfl rfl rfl ?_
       show (_ : Bool) = _
       simp [cutF, hn])
theorem left_ok {a0 a1 b0 b1 X Y : Int} (g0 : 0 ≤ a0) (g0' : a0 ≤ 18446744073709551615) (g1 : 0 ≤ a1) (g1' : a1 ≤ 18446744073709551615) (g2 : 0 ≤ b0) (g2' : b0 ≤ 18446744073709551615) (g3 : 0 ≤ b1) (g3' : b1 ≤ 18446744073709551615)
    (gX : 0 ≤ X) (gX' : X ≤ 18446744073709551615) (gY : 0 ≤ Y) (gY' : Y ≤ 18446744073709551615) : PureOK G0 P 3 [two a0 a1 b0 b1 X Y] (.v (bo true)) := by
  by_cases h : a0 ≤ a1 ∧ b0 ≤ b1
  · exact left_yes g0 g1' g2 g3' ⟨gX, gX'⟩ ⟨gY, gY'⟩ h.1 h.2
  · refine left_no ?_
    simp only [okF, checkF]
    by_cases h1 : a0 > a1
    · simp [h1]
    · have h2 : b0 > b1 := by omega
      simp [h1, h2]
end Go.Proofs.Ytnahgpoafghchaa
