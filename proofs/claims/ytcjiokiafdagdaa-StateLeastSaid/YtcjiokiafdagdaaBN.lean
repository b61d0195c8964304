/- The State laws: StateOrder, StateLeast, the texts. -/
import Derived.Test.YtcjiokiafdagdaaBK
import Derived.Test.YtcjiokiafdagdaaBO
namespace Go.Proofs.Ytcjiokiafdagdaa
open Go.Sx Go.RowKit
set_option linter.unusedVariables false
set_option linter.unusedSimpArgs false
set_option maxRecDepth 100000
set_option maxHeartbeats 20000000
theorem st_eta (x : Stt) : (⟨⟨⟨x.g.r0.k, x.g.r0.lo, x.g.r0.hi, x.g.r0.id, x.g.r0.off⟩, ⟨x.g.r1.k, x.g.r1.lo, x.g.r1.hi, x.g.r1.id, x.g.r1.off⟩, ⟨x.g.r2.k, x.g.r2.lo, x.g.r2.hi, x.g.r2.id, x.g.r2.off⟩, ⟨x.g.r3.k, x.g.r3.lo, x.g.r3.hi, x.g.r3.id, x.g.r3.off⟩, ⟨x.g.r4.k, x.g.r4.lo, x.g.r4.hi, x.g.r4.id, x.g.r4.off⟩, ⟨x.g.r5.k, x.g.r5.lo, x.g.r5.hi, x.g.r5.id, x.g.r5.off⟩, ⟨x.g.r6.k, x.g.r6.lo, x.g.r6.hi, x.g.r6.id, x.g.r6.off⟩, ⟨x.g.r7.k, x.g.r7.lo, x.g.r7.hi, x.g.r7.id, x.g.r7.off⟩, ⟨x.g.r8.k, x.g.r8.lo, x.g.r8.hi, x.g.r8.id, x.g.r8.off⟩, ⟨x.g.r9.k, x.g.r9.lo, x.g.r9.hi, x.g.r9.id, x.g.r9.off⟩⟩, ⟨⟨x.s.s0.lo, x.s.s0.hi⟩, ⟨x.s.s1.lo, x.s.s1.hi⟩, ⟨x.s.s2.lo, x.s.s2.hi⟩, ⟨x.s.s3.lo, x.s.s3.hi⟩, ⟨x.s.s4.lo, x.s.s4.hi⟩, ⟨x.s.s5.lo, x.s.s5.hi⟩, ⟨x.s.s6.lo, x.s.s6.hi⟩, ⟨x.s.s7.lo, x.s.s7.hi⟩⟩, x.l⟩ : Stt) = x := rfl
theorem order4 (a b c : Stt) (ha : stOk a = true) (hb : stOk b = true) (hc : stOk c = true) : AOK G P 4 [stV a, stV b, stV c] (boA true) := by
  have ca : (stCheck a != 0) = false := by simp [stCheck, ha]
  have cb : (stCheck b != 0) = false := by simp [stCheck, hb]
  have cc : (stCheck c != 0) = false := by simp [stCheck, hc]
  have la := kCheck_len (stOk_check ha)
  have hle : decide (a.l.length ≤ 4611686018427387904) = true := decide_eq_true (by omega)
  refine aok_exec (aTabOK_cons (aTabOK_cons (aTabOK_cons (aTabOK_cons (aTabOK_cons aTabOK_nil check11_ok) join17_ok) under15_ok) same13_ok) works21_ok) mixed eqs_ok 11 [] [] Try.func4 rfl rfl rfl rfl (avs := [.a (stS a 0), .a (stS b 1), .a (stS c 2)]) (H0 := [(0, .ext (.k a.l)), (1, .ext (.k b.l)), (2, .ext (.k c.l))]) (n0 := 3) (res := .v (.c (.v (.bool true)))) (new := []) rfl rfl rfl rfl rfl rfl ?_
  refine of_execR ?_; repeat' ((conv => whnf); first | with_reducible refine br_pre rfl ?_ | with_reducible refine br_true ?_ | with_reducible refine br_false ?_ | with_reducible refine br_true' (by assumption) ?_ | with_reducible refine br_false' (by assumption) ?_ | with_reducible refine br_pre (by assumption) ?_ | (with_reducible refine br_intro (fun h => ?_) (fun h => ?_) <;> try exact absurd h (by decide)) | ((with_reducible apply drw_intro); · kernel_rfl))
  all_goals conv => whnf
  all_goals refine doneA_plain rfl rfl rfl (show (_ : Bool) = _ from ?_)
  all_goals simp only [st_eta] at *
  all_goals
    have sa := ok_join ha hb
    have p1 : err2 a b = 0 := err2_eq ha hb
    have p2 : err2 (joinX a b) c = 0 := err2_eq sa hc
    have p3 := under_refl ha
    have p4 := under_trans ha hb hc
    have p5 := same_anti ha hb
    have p6 := under_join ha hb
    have p7 := under_join sa hc
    have p8 := under_trans ha sa (ok_join sa hc) p6 p7
    clear ca cb cc la hle ha hb hc sa
    generalize underB a b = ab at *
    generalize underB b a = ba at *
    generalize underB b c = bc at *
    generalize underB a c = ac at *
    generalize err2 a b = x1 at *
    generalize err2 (joinX a b) c = x2 at *
    generalize stSame a b = s1 at *
    generalize underB a a = u1 at *
    generalize underB a (joinX (joinX a b) c) = u4 at *
    generalize underB (joinX a b) (joinX (joinX a b) c) = u3 at *
    generalize underB a (joinX a b) = u2 at *
    grind
theorem least5 (a b : Stt) : AOK G P 5 [stV a, stV b] (boA true) := by
  refine aok_exec (aTabOK_cons (aTabOK_cons (aTabOK_cons (aTabOK_cons (aTabOK_cons aTabOK_nil check11_ok) join17_ok) under15_ok) same13_ok) works21_ok) mixed eqs_ok 11 [] [] Try.func5 rfl rfl rfl rfl (avs := [.a (stS a 0), .a (stS b 1)]) (H0 := [(0, .ext (.k a.l)), (1, .ext (.k b.l))]) (n0 := 2) (res := .v (.c (.v (.bool true)))) (new := []) rfl rfl rfl rfl rfl rfl ?_
  have hle2 : stOk a = true → stOk b = true → decide ((joinX a b).l.length ≤ 4611686018427387904) = true := fun ha hb => by
    have := kCheck_len (stOk_check (ok_join ha hb))
    exact decide_eq_true (by omega)
  by_cases hh : stOk2 a b = true
  · obtain ⟨ha, hb⟩ := ok2_iff.1 hh
    have hle : decide (a.l.length ≤ 4611686018427387904) = true := by
      have := kCheck_len (stOk_check ha)
      exact decide_eq_true (by omega)
    have hle3 := hle2 ha hb
    have sa := ok_join ha hb
    have d1 : (err2 a b != 0) = false := by rw [err2_eq ha hb]; rfl
    have d2 : (err2 b a != 0) = false := by rw [err2_eq hb ha]; rfl
    have hle4 : decide ((joinX a a).l.length ≤ 4611686018427387904) = true := by rw [joinX_self ha]; exact hle
    have hle5 : decide ((joinX (joinX a b) a).l.length ≤ 4611686018427387904) = true := by rw [joinX_again ha hb]; exact hle3
    refine of_execR ?_; repeat' ((conv => whnf); first | with_reducible refine br_pre rfl ?_ | with_reducible refine br_true ?_ | with_reducible refine br_false ?_ | with_reducible refine br_true' (by assumption) ?_ | with_reducible refine br_false' (by assumption) ?_ | with_reducible refine br_pre (by assumption) ?_ | (with_reducible refine br_intro (fun h => ?_) (fun h => ?_) <;> try exact absurd h (by decide)) | ((with_reducible apply drw_intro); · kernel_rfl))
    all_goals conv => whnf
    all_goals refine doneA_plain rfl rfl rfl (show (_ : Bool) = _ from ?_)
    all_goals simp only [st_eta] at *
    all_goals
      have p1 : err2 a b = 0 := err2_eq ha hb
      have p2 : err2 b a = 0 := err2_eq hb ha
      have p3 : err2 a a = 0 := err2_eq ha ha
      have p4 : err2 (joinX a b) a = 0 := err2_eq sa ha
      have p5 : err2 a (joinX a b) = 0 := err2_eq ha sa
      have p6 : err2 b (joinX a b) = 0 := err2_eq hb sa
      have p7 := joinX_self ha
      have p8 := joinX_again ha hb
      have p9 := joinX_comm ha hb
      have p10 := under_join ha hb
      have p11 := under_join hb ha
      rw [← p9] at p11
      have q1 : stSame (joinX a b) (joinX b a) = true := stSame_iff.2 p9
      have q2 : stSame (joinX a a) a = true := stSame_iff.2 p7
      have q3 : stSame (joinX (joinX a b) a) (joinX a b) = true := stSame_iff.2 p8
      have q4 : underB a b = stSame (joinX a b) b := by
        rw [Bool.eq_iff_iff, stSame_iff]
        exact joinX_says ha hb
      have q5 : stCheck (joinX a b) = 0 := by simp [stCheck, sa]
      clear hle hle2 hle3 hle4 hle5 ha hb sa hh p7 p8 p9
      generalize stSame (joinX a b) (joinX b a) = s1 at *
      generalize stSame (joinX a a) a = s2 at *
      generalize stSame (joinX (joinX a b) a) (joinX a b) = s3 at *
      generalize stSame (joinX a b) b = s4 at *
      generalize underB a b = ab at *
      generalize underB a (joinX a b) = u1 at *
      generalize underB b (joinX a b) = u2 at *
      generalize stCheck (joinX a b) = c1 at *
      generalize err2 a b = x1 at *
      generalize err2 b a = x2 at *
      generalize err2 a a = x3 at *
      generalize err2 (joinX a b) a = x4 at *
      generalize err2 a (joinX a b) = x5 at *
      generalize err2 b (joinX a b) = x6 at *
      clear d1 d2
      grind
  · have e1 : err2 a b = 2 := by simp [err2, hh]
    have e2 : err2 b a = 2 := by
      have : ¬ stOk2 b a = true := fun h => hh (ok2_iff.2 (ok2_iff.1 h).symm)
      simp [err2, this]
    have d1 : (err2 a b != 0) = true := by rw [e1]; rfl
    refine of_execR ?_; repeat' ((conv => whnf); first | with_reducible refine br_pre rfl ?_ | with_reducible refine br_true ?_ | with_reducible refine br_false ?_ | with_reducible refine br_true' (by assumption) ?_ | with_reducible refine br_false' (by assumption) ?_ | with_reducible refine br_pre (by assumption) ?_ | (with_reducible refine br_intro (fun h => ?_) (fun h => ?_) <;> try exact absurd h (by decide)) | ((with_reducible apply drw_intro); · kernel_rfl))
    all_goals conv => whnf
    all_goals refine doneA_plain rfl rfl rfl (show (_ : Bool) = _ from ?_)
    all_goals simp only [st_eta] at *
    all_goals
      have hn : stCheck a = 2 ∨ stCheck b = 2 := by
        rcases Bool.eq_false_or_eq_true (stOk a) with h | h
        · rcases Bool.eq_false_or_eq_true (stOk b) with k | k
          · exact absurd (ok2_iff.2 ⟨h, k⟩) hh
          · exact .inr (by simp [stCheck, k])
        · exact .inl (by simp [stCheck, h])
      clear hle2 hh
      generalize stCheck a = x1 at *
      generalize stCheck b = x2 at *
      generalize err2 a b = x3 at *
      generalize err2 b a = x4 at *
      grind
theorem order4_all (a b c : Stt) : AOK G P 4 [stV a, stV b, stV c] (boA true) := by
  by_cases ha : stOk a = true
  · by_cases hb : stOk b = true
    · by_cases hc : stOk c = true
      · exact order4 a b c ha hb hc
      · have ca : (stCheck a != 0) = false := by simp [stCheck, ha]
        have cb : (stCheck b != 0) = false := by simp [stCheck, hb]
        have cc : (stCheck c != 0) = true := by simp [stCheck, hc]
        refine aok_exec (aTabOK_cons (aTabOK_cons aTabOK_nil check11_ok) works21_ok) mixed eqs_ok 11 [] [] Try.func4 rfl rfl rfl rfl (avs := [.a (stS a 0), .a (stS b 1), .a (stS c 2)]) (H0 := [(0, .ext (.k a.l)), (1, .ext (.k b.l)), (2, .ext (.k c.l))]) (n0 := 3) (res := .v (.c (.v (.bool true)))) (new := []) rfl rfl rfl rfl rfl rfl ?_
        refine of_execR ?_; repeat' ((conv => whnf); first | with_reducible refine br_pre rfl ?_ | with_reducible refine br_true ?_ | with_reducible refine br_false ?_ | with_reducible refine br_true' (by assumption) ?_ | with_reducible refine br_false' (by assumption) ?_ | with_reducible refine br_pre (by assumption) ?_ | (with_reducible refine br_intro (fun h => ?_) (fun h => ?_) <;> try exact absurd h (by decide)) | ((with_reducible apply drw_intro); · kernel_rfl))
        all_goals conv => whnf
        all_goals exact doneA_plain rfl rfl rfl (show (_ : Bool) = _ from rfl)
    · have ca : (stCheck a != 0) = false := by simp [stCheck, ha]
      have cb : (stCheck b != 0) = true := by simp [stCheck, hb]
      refine aok_exec (aTabOK_cons (aTabOK_cons aTabOK_nil check11_ok) works21_ok) mixed eqs_ok 11 [] [] Try.func4 rfl rfl rfl rfl (avs := [.a (stS a 0), .a (stS b 1), .a (stS c 2)]) (H0 := [(0, .ext (.k a.l)), (1, .ext (.k b.l)), (2, .ext (.k c.l))]) (n0 := 3) (res := .v (.c (.v (.bool true)))) (new := []) rfl rfl rfl rfl rfl rfl ?_
      refine of_execR ?_; repeat' ((conv => whnf); first | with_reducible refine br_pre rfl ?_ | with_reducible refine br_true ?_ | with_reducible refine br_false ?_ | with_reducible refine br_true' (by assumption) ?_ | with_reducible refine br_false' (by assumption) ?_ | with_reducible refine br_pre (by assumption) ?_ | (with_reducible refine br_intro (fun h => ?_) (fun h => ?_) <;> try exact absurd h (by decide)) | ((with_reducible apply drw_intro); · kernel_rfl))
      all_goals conv => whnf
      all_goals exact doneA_plain rfl rfl rfl (show (_ : Bool) = _ from rfl)
  · have ca : (stCheck a != 0) = true := by simp [stCheck, ha]
    refine aok_exec (aTabOK_cons (aTabOK_cons aTabOK_nil check11_ok) works21_ok) mixed eqs_ok 11 [] [] Try.func4 rfl rfl rfl rfl (avs := [.a (stS a 0), .a (stS b 1), .a (stS c 2)]) (H0 := [(0, .ext (.k a.l)), (1, .ext (.k b.l)), (2, .ext (.k c.l))]) (n0 := 3) (res := .v (.c (.v (.bool true)))) (new := []) rfl rfl rfl rfl rfl rfl ?_
    refine of_execR ?_; repeat' ((conv => whnf); first | with_reducible refine br_pre rfl ?_ | with_reducible refine br_true ?_ | with_reducible refine br_false ?_ | with_reducible refine br_true' (by assumption) ?_ | with_reducible refine br_false' (by assumption) ?_ | with_reducible refine br_pre (by assumption) ?_ | (with_reducible refine br_intro (fun h => ?_) (fun h => ?_) <;> try exact absurd h (by decide)) | ((with_reducible apply drw_intro); · kernel_rfl))
    all_goals conv => whnf
    all_goals exact doneA_plain rfl rfl rfl (show (_ : Bool) = _ from rfl)
end Go.Proofs.Ytcjiokiafdagdaa
