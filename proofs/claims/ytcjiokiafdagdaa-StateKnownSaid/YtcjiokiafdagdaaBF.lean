/- The State laws: Check, Same, asked. -/
import Derived.Test.YtcjiokiafdagdaaBE
namespace Go.Proofs.Ytcjiokiafdagdaa
open Go.Sx Go.RowKit
set_option linter.unusedVariables false
set_option linter.unusedSimpArgs false
set_option maxRecDepth 100000
set_option maxHeartbeats 1000000
/-- A state, cell by cell; its list is row n. -/
def stS (x : Stt) (n : Nat) : List SC := [.v (.int .u8 x.g.r0.k), .v (.int .u64 x.g.r0.lo), .v (.int .u64 x.g.r0.hi), .v (.int .i64 x.g.r0.id), .v (.int .i64 x.g.r0.off), .v (.int .u8 x.g.r1.k), .v (.int .u64 x.g.r1.lo), .v (.int .u64 x.g.r1.hi), .v (.int .i64 x.g.r1.id), .v (.int .i64 x.g.r1.off), .v (.int .u8 x.g.r2.k), .v (.int .u64 x.g.r2.lo), .v (.int .u64 x.g.r2.hi), .v (.int .i64 x.g.r2.id), .v (.int .i64 x.g.r2.off), .v (.int .u8 x.g.r3.k), .v (.int .u64 x.g.r3.lo), .v (.int .u64 x.g.r3.hi), .v (.int .i64 x.g.r3.id), .v (.int .i64 x.g.r3.off), .v (.int .u8 x.g.r4.k), .v (.int .u64 x.g.r4.lo), .v (.int .u64 x.g.r4.hi), .v (.int .i64 x.g.r4.id), .v (.int .i64 x.g.r4.off), .v (.int .u8 x.g.r5.k), .v (.int .u64 x.g.r5.lo), .v (.int .u64 x.g.r5.hi), .v (.int .i64 x.g.r5.id), .v (.int .i64 x.g.r5.off), .v (.int .u8 x.g.r6.k), .v (.int .u64 x.g.r6.lo), .v (.int .u64 x.g.r6.hi), .v (.int .i64 x.g.r6.id), .v (.int .i64 x.g.r6.off), .v (.int .u8 x.g.r7.k), .v (.int .u64 x.g.r7.lo), .v (.int .u64 x.g.r7.hi), .v (.int .i64 x.g.r7.id), .v (.int .i64 x.g.r7.off), .v (.int .u8 x.g.r8.k), .v (.int .u64 x.g.r8.lo), .v (.int .u64 x.g.r8.hi), .v (.int .i64 x.g.r8.id), .v (.int .i64 x.g.r8.off), .v (.int .u8 x.g.r9.k), .v (.int .u64 x.g.r9.lo), .v (.int .u64 x.g.r9.hi), .v (.int .i64 x.g.r9.id), .v (.int .i64 x.g.r9.off), .v (.int .u64 x.s.s0.lo), .v (.int .u64 x.s.s0.hi), .v (.int .u64 x.s.s1.lo), .v (.int .u64 x.s.s1.hi), .v (.int .u64 x.s.s2.lo), .v (.int .u64 x.s.s2.hi), .v (.int .u64 x.s.s3.lo), .v (.int .u64 x.s.s3.hi), .v (.int .u64 x.s.s4.lo), .v (.int .u64 x.s.s4.hi), .v (.int .u64 x.s.s5.lo), .v (.int .u64 x.s.s5.hi), .v (.int .u64 x.s.s6.lo), .v (.int .u64 x.s.s6.hi), .v (.int .u64 x.s.s7.lo), .v (.int .u64 x.s.s7.hi), .r n]
def stS2 (x y : Stt) (n k : Nat) : List SC := [.v (.int .u8 x.g.r0.k), .v (.int .u64 x.g.r0.lo), .v (.int .u64 x.g.r0.hi), .v (.int .i64 x.g.r0.id), .v (.int .i64 x.g.r0.off), .v (.int .u8 x.g.r1.k), .v (.int .u64 x.g.r1.lo), .v (.int .u64 x.g.r1.hi), .v (.int .i64 x.g.r1.id), .v (.int .i64 x.g.r1.off), .v (.int .u8 x.g.r2.k), .v (.int .u64 x.g.r2.lo), .v (.int .u64 x.g.r2.hi), .v (.int .i64 x.g.r2.id), .v (.int .i64 x.g.r2.off), .v (.int .u8 x.g.r3.k), .v (.int .u64 x.g.r3.lo), .v (.int .u64 x.g.r3.hi), .v (.int .i64 x.g.r3.id), .v (.int .i64 x.g.r3.off), .v (.int .u8 x.g.r4.k), .v (.int .u64 x.g.r4.lo), .v (.int .u64 x.g.r4.hi), .v (.int .i64 x.g.r4.id), .v (.int .i64 x.g.r4.off), .v (.int .u8 x.g.r5.k), .v (.int .u64 x.g.r5.lo), .v (.int .u64 x.g.r5.hi), .v (.int .i64 x.g.r5.id), .v (.int .i64 x.g.r5.off), .v (.int .u8 x.g.r6.k), .v (.int .u64 x.g.r6.lo), .v (.int .u64 x.g.r6.hi), .v (.int .i64 x.g.r6.id), .v (.int .i64 x.g.r6.off), .v (.int .u8 x.g.r7.k), .v (.int .u64 x.g.r7.lo), .v (.int .u64 x.g.r7.hi), .v (.int .i64 x.g.r7.id), .v (.int .i64 x.g.r7.off), .v (.int .u8 x.g.r8.k), .v (.int .u64 x.g.r8.lo), .v (.int .u64 x.g.r8.hi), .v (.int .i64 x.g.r8.id), .v (.int .i64 x.g.r8.off), .v (.int .u8 x.g.r9.k), .v (.int .u64 x.g.r9.lo), .v (.int .u64 x.g.r9.hi), .v (.int .i64 x.g.r9.id), .v (.int .i64 x.g.r9.off), .v (.int .u64 x.s.s0.lo), .v (.int .u64 x.s.s0.hi), .v (.int .u64 x.s.s1.lo), .v (.int .u64 x.s.s1.hi), .v (.int .u64 x.s.s2.lo), .v (.int .u64 x.s.s2.hi), .v (.int .u64 x.s.s3.lo), .v (.int .u64 x.s.s3.hi), .v (.int .u64 x.s.s4.lo), .v (.int .u64 x.s.s4.hi), .v (.int .u64 x.s.s5.lo), .v (.int .u64 x.s.s5.hi), .v (.int .u64 x.s.s6.lo), .v (.int .u64 x.s.s6.hi), .v (.int .u64 x.s.s7.lo), .v (.int .u64 x.s.s7.hi), .r n, .v (.int .u8 y.g.r0.k), .v (.int .u64 y.g.r0.lo), .v (.int .u64 y.g.r0.hi), .v (.int .i64 y.g.r0.id), .v (.int .i64 y.g.r0.off), .v (.int .u8 y.g.r1.k), .v (.int .u64 y.g.r1.lo), .v (.int .u64 y.g.r1.hi), .v (.int .i64 y.g.r1.id), .v (.int .i64 y.g.r1.off), .v (.int .u8 y.g.r2.k), .v (.int .u64 y.g.r2.lo), .v (.int .u64 y.g.r2.hi), .v (.int .i64 y.g.r2.id), .v (.int .i64 y.g.r2.off), .v (.int .u8 y.g.r3.k), .v (.int .u64 y.g.r3.lo), .v (.int .u64 y.g.r3.hi), .v (.int .i64 y.g.r3.id), .v (.int .i64 y.g.r3.off), .v (.int .u8 y.g.r4.k), .v (.int .u64 y.g.r4.lo), .v (.int .u64 y.g.r4.hi), .v (.int .i64 y.g.r4.id), .v (.int .i64 y.g.r4.off), .v (.int .u8 y.g.r5.k), .v (.int .u64 y.g.r5.lo), .v (.int .u64 y.g.r5.hi), .v (.int .i64 y.g.r5.id), .v (.int .i64 y.g.r5.off), .v (.int .u8 y.g.r6.k), .v (.int .u64 y.g.r6.lo), .v (.int .u64 y.g.r6.hi), .v (.int .i64 y.g.r6.id), .v (.int .i64 y.g.r6.off), .v (.int .u8 y.g.r7.k), .v (.int .u64 y.g.r7.lo), .v (.int .u64 y.g.r7.hi), .v (.int .i64 y.g.r7.id), .v (.int .i64 y.g.r7.off), .v (.int .u8 y.g.r8.k), .v (.int .u64 y.g.r8.lo), .v (.int .u64 y.g.r8.hi), .v (.int .i64 y.g.r8.id), .v (.int .i64 y.g.r8.off), .v (.int .u8 y.g.r9.k), .v (.int .u64 y.g.r9.lo), .v (.int .u64 y.g.r9.hi), .v (.int .i64 y.g.r9.id), .v (.int .i64 y.g.r9.off), .v (.int .u64 y.s.s0.lo), .v (.int .u64 y.s.s0.hi), .v (.int .u64 y.s.s1.lo), .v (.int .u64 y.s.s1.hi), .v (.int .u64 y.s.s2.lo), .v (.int .u64 y.s.s2.hi), .v (.int .u64 y.s.s3.lo), .v (.int .u64 y.s.s3.hi), .v (.int .u64 y.s.s4.lo), .v (.int .u64 y.s.s4.hi), .v (.int .u64 y.s.s5.lo), .v (.int .u64 y.s.s5.hi), .v (.int .u64 y.s.s6.lo), .v (.int .u64 y.s.s6.hi), .v (.int .u64 y.s.s7.lo), .v (.int .u64 y.s.s7.hi), .r k]
def stC2 (x y : Stt) : List (AC G) := [.v (.int .u8 x.g.r0.k), .v (.int .u64 x.g.r0.lo), .v (.int .u64 x.g.r0.hi), .v (.int .i64 x.g.r0.id), .v (.int .i64 x.g.r0.off), .v (.int .u8 x.g.r1.k), .v (.int .u64 x.g.r1.lo), .v (.int .u64 x.g.r1.hi), .v (.int .i64 x.g.r1.id), .v (.int .i64 x.g.r1.off), .v (.int .u8 x.g.r2.k), .v (.int .u64 x.g.r2.lo), .v (.int .u64 x.g.r2.hi), .v (.int .i64 x.g.r2.id), .v (.int .i64 x.g.r2.off), .v (.int .u8 x.g.r3.k), .v (.int .u64 x.g.r3.lo), .v (.int .u64 x.g.r3.hi), .v (.int .i64 x.g.r3.id), .v (.int .i64 x.g.r3.off), .v (.int .u8 x.g.r4.k), .v (.int .u64 x.g.r4.lo), .v (.int .u64 x.g.r4.hi), .v (.int .i64 x.g.r4.id), .v (.int .i64 x.g.r4.off), .v (.int .u8 x.g.r5.k), .v (.int .u64 x.g.r5.lo), .v (.int .u64 x.g.r5.hi), .v (.int .i64 x.g.r5.id), .v (.int .i64 x.g.r5.off), .v (.int .u8 x.g.r6.k), .v (.int .u64 x.g.r6.lo), .v (.int .u64 x.g.r6.hi), .v (.int .i64 x.g.r6.id), .v (.int .i64 x.g.r6.off), .v (.int .u8 x.g.r7.k), .v (.int .u64 x.g.r7.lo), .v (.int .u64 x.g.r7.hi), .v (.int .i64 x.g.r7.id), .v (.int .i64 x.g.r7.off), .v (.int .u8 x.g.r8.k), .v (.int .u64 x.g.r8.lo), .v (.int .u64 x.g.r8.hi), .v (.int .i64 x.g.r8.id), .v (.int .i64 x.g.r8.off), .v (.int .u8 x.g.r9.k), .v (.int .u64 x.g.r9.lo), .v (.int .u64 x.g.r9.hi), .v (.int .i64 x.g.r9.id), .v (.int .i64 x.g.r9.off), .v (.int .u64 x.s.s0.lo), .v (.int .u64 x.s.s0.hi), .v (.int .u64 x.s.s1.lo), .v (.int .u64 x.s.s1.hi), .v (.int .u64 x.s.s2.lo), .v (.int .u64 x.s.s2.hi), .v (.int .u64 x.s.s3.lo), .v (.int .u64 x.s.s3.hi), .v (.int .u64 x.s.s4.lo), .v (.int .u64 x.s.s4.hi), .v (.int .u64 x.s.s5.lo), .v (.int .u64 x.s.s5.hi), .v (.int .u64 x.s.s6.lo), .v (.int .u64 x.s.s6.hi), .v (.int .u64 x.s.s7.lo), .v (.int .u64 x.s.s7.hi), .g (.k x.l), .v (.int .u8 y.g.r0.k), .v (.int .u64 y.g.r0.lo), .v (.int .u64 y.g.r0.hi), .v (.int .i64 y.g.r0.id), .v (.int .i64 y.g.r0.off), .v (.int .u8 y.g.r1.k), .v (.int .u64 y.g.r1.lo), .v (.int .u64 y.g.r1.hi), .v (.int .i64 y.g.r1.id), .v (.int .i64 y.g.r1.off), .v (.int .u8 y.g.r2.k), .v (.int .u64 y.g.r2.lo), .v (.int .u64 y.g.r2.hi), .v (.int .i64 y.g.r2.id), .v (.int .i64 y.g.r2.off), .v (.int .u8 y.g.r3.k), .v (.int .u64 y.g.r3.lo), .v (.int .u64 y.g.r3.hi), .v (.int .i64 y.g.r3.id), .v (.int .i64 y.g.r3.off), .v (.int .u8 y.g.r4.k), .v (.int .u64 y.g.r4.lo), .v (.int .u64 y.g.r4.hi), .v (.int .i64 y.g.r4.id), .v (.int .i64 y.g.r4.off), .v (.int .u8 y.g.r5.k), .v (.int .u64 y.g.r5.lo), .v (.int .u64 y.g.r5.hi), .v (.int .i64 y.g.r5.id), .v (.int .i64 y.g.r5.off), .v (.int .u8 y.g.r6.k), .v (.int .u64 y.g.r6.lo), .v (.int .u64 y.g.r6.hi), .v (.int .i64 y.g.r6.id), .v (.int .i64 y.g.r6.off), .v (.int .u8 y.g.r7.k), .v (.int .u64 y.g.r7.lo), .v (.int .u64 y.g.r7.hi), .v (.int .i64 y.g.r7.id), .v (.int .i64 y.g.r7.off), .v (.int .u8 y.g.r8.k), .v (.int .u64 y.g.r8.lo), .v (.int .u64 y.g.r8.hi), .v (.int .i64 y.g.r8.id), .v (.int .i64 y.g.r8.off), .v (.int .u8 y.g.r9.k), .v (.int .u64 y.g.r9.lo), .v (.int .u64 y.g.r9.hi), .v (.int .i64 y.g.r9.id), .v (.int .i64 y.g.r9.off), .v (.int .u64 y.s.s0.lo), .v (.int .u64 y.s.s0.hi), .v (.int .u64 y.s.s1.lo), .v (.int .u64 y.s.s1.hi), .v (.int .u64 y.s.s2.lo), .v (.int .u64 y.s.s2.hi), .v (.int .u64 y.s.s3.lo), .v (.int .u64 y.s.s3.hi), .v (.int .u64 y.s.s4.lo), .v (.int .u64 y.s.s4.hi), .v (.int .u64 y.s.s5.lo), .v (.int .u64 y.s.s5.hi), .v (.int .u64 y.s.s6.lo), .v (.int .u64 y.s.s6.hi), .v (.int .u64 y.s.s7.lo), .v (.int .u64 y.s.s7.hi), .g (.k y.l)]
def regsAll (p : Vl → Bool) (g : Rg) : Bool := p g.r0 && (p g.r1 && (p g.r2 && (p g.r3 && (p g.r4 && (p g.r5 && (p g.r6 && (p g.r7 && (p g.r8 && (p g.r9)))))))))
def slotsAll (p : Sp → Bool) (g : Sl) : Bool := p g.s0 && (p g.s1 && (p g.s2 && (p g.s3 && (p g.s4 && (p g.s5 && (p g.s6 && (p g.s7)))))))
def spMay (s : Sp) : Bool := spCheck s.lo s.hi == 0
def stOk (x : Stt) : Bool := regsAll mayF x.g && slotsAll spMay x.s && kCheck x.l == 0
def stCheck (x : Stt) : Int := if stOk x = true then 0 else 2
def spEq (a b : Sp) : Bool := (a.lo == b.lo) && ((a.hi == b.hi) && true)
def regs2 (p : Vl → Vl → Bool) (g h : Rg) : Bool := p g.r0 h.r0 && (p g.r1 h.r1 && (p g.r2 h.r2 && (p g.r3 h.r3 && (p g.r4 h.r4 && (p g.r5 h.r5 && (p g.r6 h.r6 && (p g.r7 h.r7 && (p g.r8 h.r8 && (p g.r9 h.r9)))))))))
def slots2 (p : Sp → Sp → Bool) (g h : Sl) : Bool := p g.s0 h.s0 && (p g.s1 h.s1 && (p g.s2 h.s2 && (p g.s3 h.s3 && (p g.s4 h.s4 && (p g.s5 h.s5 && (p g.s6 h.s6 && (p g.s7 h.s7)))))))
def stSame (x y : Stt) : Bool := regs2 vEq x.g y.g && slots2 spEq x.s y.s && kSame x.l y.l
theorem vl_eta (v : Vl) : (⟨v.k, v.lo, v.hi, v.id, v.off⟩ : Vl) = v := rfl
def check11T : List (AV G) → Option (Bool × AT G)
  | [a] => stA a fun x => some (true, erA (stCheck x))
  | _ => none
theorem stA_one {F : Stt → Option (Bool × AT G)} {a : AV G} {r : AT G} {f : FuncId} (h : stA a F = some (true, r)) (hk : ∀ x, F x = some (true, r) → AOK G P f [stV x] r) : AOK G P f [a] r := by
  obtain ⟨x, h1, h2⟩ := stA_some h
  refine aok_args (hk x h1) (fun w vs hv => ?_)
  match vs, hv with
  | [v], hv => exact ⟨h2 _ _ _ hv.1, trivial⟩
theorem stA_two {F : Stt → Stt → Option (Bool × AT G)} {a b : AV G} {r : AT G} {f : FuncId} (h : stA a (fun x => stA b (F x)) = some (true, r)) (hk : ∀ x y, F x y = some (true, r) → AOK G P f [stV x, stV y] r) : AOK G P f [a, b] r := by
  obtain ⟨x, h1, h2⟩ := stA_some h
  obtain ⟨y, h3, h4⟩ := stA_some h1
  refine aok_args (hk x y h3) (fun w vs hv => ?_)
  match vs, hv with
  | [v, u], hv => exact ⟨h2 _ _ _ hv.1, h4 _ _ _ hv.2.1, trivial⟩
theorem check11_ok : ∀ a r, check11T a = some (true, r) → AOK G P 11 a r := by
  intro args r h
  unfold check11T at h
  split at h
  · refine stA_one h (fun x h => ?_)
    cases h
    refine aok_exec (aTabOK_cons (aTabOK_cons (aTabOK_cons aTabOK_nil may37_ok) check38_ok) list39_ok) mixed eqs_ok 11 [] [] Try.func11 rfl rfl rfl rfl (avs := [.a (stS x 0)]) (H0 := [(0, .ext (.k x.l))]) (n0 := 1) (res := .v (.c (.v (.int .i64 (stCheck x))))) (new := []) rfl rfl rfl rfl rfl rfl ?_
    refine of_execR ?_; repeat' ((conv => whnf); first | with_reducible refine br_pre rfl ?_ | with_reducible refine br_true ?_ | with_reducible refine br_false ?_ | with_reducible refine br_true' (by assumption) ?_ | with_reducible refine br_false' (by assumption) ?_ | with_reducible refine br_pre (by assumption) ?_ | (with_reducible refine br_intro (fun h => ?_) (fun h => ?_) <;> try exact absurd h (by decide)) | ((with_reducible apply drw_intro); · kernel_rfl))
    all_goals refine doneA_plain rfl rfl rfl (show (_ : Int) = _ from ?_)
    all_goals (simp only [vl_eta] at *; simp_all [stCheck, stOk, regsAll, slotsAll, spMay])
  · cases h
def same13T : List (AV G) → Option (Bool × AT G)
  | [a, b] => stA a fun x => stA b fun y => some (decide (x.l.length ≤ 4611686018427387904), boA (stSame x y))
  | _ => none
theorem same13_ok : ∀ a r, same13T a = some (true, r) → AOK G P 13 a r := by
  intro args r h
  unfold same13T at h
  split at h
  · refine stA_two h (fun x y h => ?_)
    injection h with h
    injection h with hpre h2
    subst h2
    refine aok_exec (aTabOK_cons aTabOK_nil equal43_ok) mixed eqs_ok 11 [] [] Try.func13 rfl rfl rfl rfl (avs := [.a (stS x 0), .a (stS y 1)]) (H0 := [(0, .ext (.k x.l)), (1, .ext (.k y.l))]) (n0 := 2) (res := .v (.c (.v (.bool (stSame x y))))) (new := []) rfl rfl rfl rfl rfl rfl ?_
    refine of_execR ?_; repeat' ((conv => whnf); first | with_reducible refine br_pre rfl ?_ | with_reducible refine br_true ?_ | with_reducible refine br_false ?_ | with_reducible refine br_true' (by assumption) ?_ | with_reducible refine br_false' (by assumption) ?_ | with_reducible refine br_pre (by assumption) ?_ | (with_reducible refine br_intro (fun h => ?_) (fun h => ?_) <;> try exact absurd h (by decide)) | ((with_reducible apply drw_intro); · kernel_rfl))
    all_goals refine doneA_plain rfl rfl rfl (show (_ : Bool) = _ from ?_)
    all_goals (simp only [stSame, regs2, slots2, vEq, spEq, Bool.and_true, Bool.and_assoc] at *; simp_all)
  · cases h
theorem RdCs_app {base : Nat} {w : World} : ∀ {xs ys : List (AC G)} {vs us : List Value}, RdCs base w xs vs → RdCs base w ys us → RdCs base w (xs ++ ys) (vs ++ us)
  | [], _, [], _, _, h => h
  | [], _, _ :: _, _, h, _ => h.elim
  | _ :: _, _, [], _, h, _ => h.elim
  | _ :: _, _, _ :: _, _, h, k => ⟨h.1, RdCs_app h.2 k⟩
theorem RdCs_take {base : Nat} {w : World} : ∀ (n : Nat) {xs : List (AC G)} {vs : List Value}, RdCs base w xs vs → RdCs base w (xs.take n) (vs.take n)
  | 0, _, _, _ => trivial
  | _ + 1, [], [], _ => trivial
  | _ + 1, [], _ :: _, h => h.elim
  | _ + 1, _ :: _, [], h => h.elim
  | n + 1, _ :: _, _ :: _, h => ⟨h.1, RdCs_take n h.2⟩
theorem RdCs_drop {base : Nat} {w : World} : ∀ (n : Nat) {xs : List (AC G)} {vs : List Value}, RdCs base w xs vs → RdCs base w (xs.drop n) (vs.drop n)
  | 0, _, _, h => h
  | _ + 1, [], [], _ => trivial
  | _ + 1, [], _ :: _, h => h.elim
  | _ + 1, _ :: _, [], h => h.elim
  | n + 1, _ :: _, _ :: _, h => RdCs_drop n h.2
def st2A (cs : List (AC G)) (F : Stt → Stt → Option (Bool × AT G)) : Option (Bool × AT G) := toSt (cs.take 67) fun x => toSt (cs.drop 67) (F x)
def asked44T : List (AV G) → Option (Bool × AT G)
  | [.s 31 2 cs] => st2A cs fun x y => some (true, erA (if stOk x && stOk y then 0 else 2))
  | _ => none
theorem asked44_ok : ∀ a r, asked44T a = some (true, r) → AOK G P 44 a r := by
  intro args r h
  unfold asked44T at h
  split at h
  · rename_i cs
    obtain ⟨x, h1, h2⟩ := toSt_some h
    obtain ⟨y, h3, h4⟩ := toSt_some h1
    cases h3
    refine aok_args (args := [.s 31 2 (stC2 x y)]) ?_ (fun w vs hv => ?_)
    · refine aok_exec (aTabOK_cons aTabOK_nil check11_ok) mixed eqs_ok 3 [] [] Try.func44 rfl rfl rfl rfl (avs := [.c (.s 2 2)]) (H0 := [(0, .ext (.k x.l)), (1, .ext (.k y.l)), (2, .ro 31 (stS2 x y 0 1))]) (n0 := 3) (res := .v (.c (.v (.int .i64 (if stOk x && stOk y then 0 else 2))))) (new := []) rfl rfl rfl rfl rfl rfl ?_
      refine of_execR ?_; repeat' ((conv => whnf); first | with_reducible refine br_pre rfl ?_ | with_reducible refine br_true ?_ | with_reducible refine br_false ?_ | with_reducible refine br_true' (by assumption) ?_ | with_reducible refine br_false' (by assumption) ?_ | with_reducible refine br_pre (by assumption) ?_ | (with_reducible refine br_intro (fun h => ?_) (fun h => ?_) <;> try exact absurd h (by decide)) | ((with_reducible apply drw_intro); · kernel_rfl))
      all_goals refine doneA_plain rfl rfl rfl (show (_ : Int) = _ from ?_)
      all_goals (simp_all [stCheck])
    · match vs, hv with
      | [v], hv =>
        obtain ⟨⟨g, us, e1, e2, e3, e4⟩, _⟩ := hv
        refine ⟨⟨g, us, e1, e2, ?_, e4⟩, trivial⟩
        rw [show stC2 x y = stC x ++ stC y from rfl]
        rw [← List.take_append_drop 67 us]
        exact RdCs_app (h2 _ _ _ (RdCs_take 67 e3)) (h4 _ _ _ (RdCs_drop 67 e3))
  · cases h
end Go.Proofs.Ytcjiokiafdagdaa
