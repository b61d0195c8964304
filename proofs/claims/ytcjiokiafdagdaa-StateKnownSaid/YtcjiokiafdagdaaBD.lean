/- The State laws: states as data; Check. -/
import Derived.Test.YtcjiokiafdagdaaBC
import Derived.Test.YtcjiokiafdagdaaSxS
namespace Go.Proofs.Ytcjiokiafdagdaa
open Go.Sx Go.RowKit
set_option linter.unusedVariables false
set_option linter.unusedSimpArgs false
set_option maxRecDepth 100000
set_option maxHeartbeats 1000000
structure Rg where
  r0 : Vl
  r1 : Vl
  r2 : Vl
  r3 : Vl
  r4 : Vl
  r5 : Vl
  r6 : Vl
  r7 : Vl
  r8 : Vl
  r9 : Vl
structure Sl where
  s0 : Sp
  s1 : Sp
  s2 : Sp
  s3 : Sp
  s4 : Sp
  s5 : Sp
  s6 : Sp
  s7 : Sp
structure Stt where
  g : Rg
  s : Sl
  l : List (Int × Int)
/-- A state, cell by cell. -/
def stC (x : Stt) : List (AC G) := [.v (.int .u8 x.g.r0.k), .v (.int .u64 x.g.r0.lo), .v (.int .u64 x.g.r0.hi), .v (.int .i64 x.g.r0.id), .v (.int .i64 x.g.r0.off), .v (.int .u8 x.g.r1.k), .v (.int .u64 x.g.r1.lo), .v (.int .u64 x.g.r1.hi), .v (.int .i64 x.g.r1.id), .v (.int .i64 x.g.r1.off), .v (.int .u8 x.g.r2.k), .v (.int .u64 x.g.r2.lo), .v (.int .u64 x.g.r2.hi), .v (.int .i64 x.g.r2.id), .v (.int .i64 x.g.r2.off), .v (.int .u8 x.g.r3.k), .v (.int .u64 x.g.r3.lo), .v (.int .u64 x.g.r3.hi), .v (.int .i64 x.g.r3.id), .v (.int .i64 x.g.r3.off), .v (.int .u8 x.g.r4.k), .v (.int .u64 x.g.r4.lo), .v (.int .u64 x.g.r4.hi), .v (.int .i64 x.g.r4.id), .v (.int .i64 x.g.r4.off), .v (.int .u8 x.g.r5.k), .v (.int .u64 x.g.r5.lo), .v (.int .u64 x.g.r5.hi), .v (.int .i64 x.g.r5.id), .v (.int .i64 x.g.r5.off), .v (.int .u8 x.g.r6.k), .v (.int .u64 x.g.r6.lo), .v (.int .u64 x.g.r6.hi), .v (.int .i64 x.g.r6.id), .v (.int .i64 x.g.r6.off), .v (.int .u8 x.g.r7.k), .v (.int .u64 x.g.r7.lo), .v (.int .u64 x.g.r7.hi), .v (.int .i64 x.g.r7.id), .v (.int .i64 x.g.r7.off), .v (.int .u8 x.g.r8.k), .v (.int .u64 x.g.r8.lo), .v (.int .u64 x.g.r8.hi), .v (.int .i64 x.g.r8.id), .v (.int .i64 x.g.r8.off), .v (.int .u8 x.g.r9.k), .v (.int .u64 x.g.r9.lo), .v (.int .u64 x.g.r9.hi), .v (.int .i64 x.g.r9.id), .v (.int .i64 x.g.r9.off), .v (.int .u64 x.s.s0.lo), .v (.int .u64 x.s.s0.hi), .v (.int .u64 x.s.s1.lo), .v (.int .u64 x.s.s1.hi), .v (.int .u64 x.s.s2.lo), .v (.int .u64 x.s.s2.hi), .v (.int .u64 x.s.s3.lo), .v (.int .u64 x.s.s3.hi), .v (.int .u64 x.s.s4.lo), .v (.int .u64 x.s.s4.hi), .v (.int .u64 x.s.s5.lo), .v (.int .u64 x.s.s5.hi), .v (.int .u64 x.s.s6.lo), .v (.int .u64 x.s.s6.hi), .v (.int .u64 x.s.s7.lo), .v (.int .u64 x.s.s7.hi), .g (.k x.l)]
def stV (x : Stt) : AV G := .a (stC x)
def vC (x : Vl) : List (AC G) := [.v (.int .u8 x.k), .v (.int .u64 x.lo), .v (.int .u64 x.hi), .v (.int .i64 x.id), .v (.int .i64 x.off)]
def sC (x : Sp) : List (AC G) := [.v (.int .u64 x.lo), .v (.int .u64 x.hi)]
variable {β : Type}
def toVl : List (AC G) → (Vl → List (AC G) → Option β) → Option β
  | .v (.int .u8 k) :: .v (.int .u64 lo) :: .v (.int .u64 hi) :: .v (.int .i64 id) :: .v (.int .i64 off) :: r, f => f ⟨k, lo, hi, id, off⟩ r
  | _, _ => none
def toSp : List (AC G) → (Sp → List (AC G) → Option β) → Option β
  | .v (.int .u64 lo) :: .v (.int .u64 hi) :: r, f => f ⟨lo, hi⟩ r
  | _, _ => none
def toKn (cs : List (AC G)) (f : List (Int × Int) → Option β) : Option β := match cs with
  | [c] => match knownOf c with
    | some l => f l
    | none => none
  | _ => none
theorem toVl_some {cs : List (AC G)} {f : Vl → List (AC G) → Option β} {y : β} (h : toVl cs f = some y) : ∃ x r, cs = vC x ++ r ∧ f x r = some y := by
  unfold toVl at h
  split at h
  · exact ⟨_, _, rfl, h⟩
  · cases h
theorem toSp_some {cs : List (AC G)} {f : Sp → List (AC G) → Option β} {y : β} (h : toSp cs f = some y) : ∃ x r, cs = sC x ++ r ∧ f x r = some y := by
  unfold toSp at h
  split at h
  · exact ⟨_, _, rfl, h⟩
  · cases h
theorem toKn_some {cs : List (AC G)} {f : List (Int × Int) → Option β} {y : β} (h : toKn cs f = some y) : ∃ c l, cs = [c] ∧ knownOf c = some l ∧ f l = some y := by
  unfold toKn at h
  split at h
  · rename_i c
    split at h
    · rename_i l hl
      exact ⟨c, l, rfl, hl, h⟩
    · cases h
  · cases h
def toSt (cs : List (AC G)) (f : Stt → Option β) : Option β := toVl cs fun v0 c0 => toVl c0 fun v1 c1 => toVl c1 fun v2 c2 => toVl c2 fun v3 c3 => toVl c3 fun v4 c4 => toVl c4 fun v5 c5 => toVl c5 fun v6 c6 => toVl c6 fun v7 c7 => toVl c7 fun v8 c8 => toVl c8 fun v9 c9 => toSp c9 fun p0 d0 => toSp d0 fun p1 d1 => toSp d1 fun p2 d2 => toSp d2 fun p3 d3 => toSp d3 fun p4 d4 => toSp d4 fun p5 d5 => toSp d5 fun p6 d6 => toSp d6 fun p7 d7 => toKn d7 fun l => f ⟨⟨v0, v1, v2, v3, v4, v5, v6, v7, v8, v9⟩, ⟨p0, p1, p2, p3, p4, p5, p6, p7⟩, l⟩
theorem RdCs_last {base : Nat} {w : World} {c c' : AC G} (h : ∀ v, RdC base w c v → RdC base w c' v) : ∀ {xs : List (AC G)} {vs : List Value}, RdCs base w (xs ++ [c]) vs → RdCs base w (xs ++ [c']) vs
  | [], [], h1 => h1.elim
  | [], [v], h1 => ⟨h v h1.1, trivial⟩
  | [], _ :: _ :: _, h1 => h1.2.elim
  | _ :: _, [], h1 => h1.elim
  | x :: r, v :: t, h1 => ⟨h1.1, RdCs_last h h1.2⟩
/-- A state that is handed in; a nil list is the empty one. -/
theorem toSt_some {cs : List (AC G)} {f : Stt → Option β} {y : β} (h : toSt cs f = some y) : ∃ x, f x = some y ∧ ∀ base w vs, RdCs base w cs vs → RdCs base w (stC x) vs := by
  unfold toSt at h
  obtain ⟨v0, c0, e0, h⟩ := toVl_some h
  obtain ⟨v1, c1, e1, h⟩ := toVl_some h
  obtain ⟨v2, c2, e2, h⟩ := toVl_some h
  obtain ⟨v3, c3, e3, h⟩ := toVl_some h
  obtain ⟨v4, c4, e4, h⟩ := toVl_some h
  obtain ⟨v5, c5, e5, h⟩ := toVl_some h
  obtain ⟨v6, c6, e6, h⟩ := toVl_some h
  obtain ⟨v7, c7, e7, h⟩ := toVl_some h
  obtain ⟨v8, c8, e8, h⟩ := toVl_some h
  obtain ⟨v9, c9, e9, h⟩ := toVl_some h
  obtain ⟨p0, d0, g0, h⟩ := toSp_some h
  obtain ⟨p1, d1, g1, h⟩ := toSp_some h
  obtain ⟨p2, d2, g2, h⟩ := toSp_some h
  obtain ⟨p3, d3, g3, h⟩ := toSp_some h
  obtain ⟨p4, d4, g4, h⟩ := toSp_some h
  obtain ⟨p5, d5, g5, h⟩ := toSp_some h
  obtain ⟨p6, d6, g6, h⟩ := toSp_some h
  obtain ⟨p7, d7, g7, h⟩ := toSp_some h
  obtain ⟨c, l, hc, hk, h⟩ := toKn_some h
  refine ⟨⟨⟨v0, v1, v2, v3, v4, v5, v6, v7, v8, v9⟩, ⟨p0, p1, p2, p3, p4, p5, p6, p7⟩, l⟩, h, fun base w vs hv => ?_⟩
  subst hc
  subst g7
  subst g6
  subst g5
  subst g4
  subst g3
  subst g2
  subst g1
  subst g0
  subst e9
  subst e8
  subst e7
  subst e6
  subst e5
  subst e4
  subst e3
  subst e2
  subst e1
  subst e0
  have e : ∀ z : AC G, vC v0 ++ (vC v1 ++ (vC v2 ++ (vC v3 ++ (vC v4 ++ (vC v5 ++ (vC v6 ++ (vC v7 ++ (vC v8 ++ (vC v9 ++ (sC p0 ++ (sC p1 ++ (sC p2 ++ (sC p3 ++ (sC p4 ++ (sC p5 ++ (sC p6 ++ (sC p7 ++ [z]))))))))))))))))) = (vC v0 ++ (vC v1 ++ (vC v2 ++ (vC v3 ++ (vC v4 ++ (vC v5 ++ (vC v6 ++ (vC v7 ++ (vC v8 ++ (vC v9 ++ (sC p0 ++ (sC p1 ++ (sC p2 ++ (sC p3 ++ (sC p4 ++ (sC p5 ++ (sC p6 ++ sC p7))))))))))))))))) ++ [z] := fun z => by simp only [List.append_assoc]
  rw [e] at hv
  have := RdCs_last (c' := .g (.k l)) (fun v hr => knownOf_rd hk hr) hv
  rw [← e] at this
  exact this
def stA : AV G → (Stt → Option β) → Option β
  | .a cs, f => toSt cs f
  | _, _ => none
theorem stA_some {a : AV G} {f : Stt → Option β} {y : β} (h : stA a f = some y) : ∃ x, f x = some y ∧ ∀ base w v, RdV base w a v → RdV base w (stV x) v := by
  unfold stA at h
  split at h
  · obtain ⟨x, h1, h2⟩ := toSt_some h
    exact ⟨x, h1, fun base w v ⟨vs, h3, h4⟩ => ⟨vs, h3, h2 _ _ _ h4⟩⟩
  · cases h
/-! ### state.may -/
def withinB (v : Vl) : Bool := if pointerF v = true then decide (0 ≥ IntKind.i64.wrap (0 - v.off)) && decide (0 ≤ IntKind.i64.wrap (IntKind.i64.wrap (0 - 1) - v.off)) else false
def within64T : List (AV G) → Option (Bool × AT G)
  | [.c x, .a [.v (.int .u8 vk), .v (.int .u64 vl), .v (.int .u64 vh), .v (.int .i64 vi), .v (.int .i64 vo)], .c (.v (.int .i64 a)), .c (.v (.int .i64 b))] => match knownOf x with
    | some [] => some (a == 0 && b == 1, .t [.c (.v (.bool (withinB ⟨vk, vl, vh, vi, vo⟩))), .c (ci (if pointerF ⟨vk, vl, vh, vi, vo⟩ = true then 0 else 171))])
    | _ => none
  | _ => none
/-- track.Bytes of nothing. -/
def bytes0T : List (AV G) → Option (Bool × AT G)
  | [.c x, .c (.v (.int .i64 id))] => match knownOf x with
    | some [] => some (true, erA 0)
    | _ => none
  | _ => none
theorem bytes0_ok : ∀ a r, bytes0T a = some (true, r) → AOK G P 46 a r := by
  intro args r h
  unfold bytes0T at h
  split at h
  · rename_i x id
    split at h
    · rename_i hl
      cases h
      exact bytes46_ok _ _ (by simp [bytes46T, hl, kBytes])
    · cases h
  · cases h
theorem within64_ok : ∀ a r, within64T a = some (true, r) → AOK G P 64 a r := by
  intro args r h
  unfold within64T at h
  split at h
  · rename_i x vk vl vh vi vo a b
    split at h
    · rename_i hl
      injection h with h
      injection h with hpre h2
      subst h2
      simp only [Bool.and_eq_true, beq_iff_eq] at hpre
      obtain ⟨rfl, rfl⟩ := hpre
      refine aok_args (args := [.c (.g (.k [])), vlV ⟨vk, vl, vh, vi, vo⟩, .c (ci 0), .c (ci 1)]) ?_ (fun w vs hv => by
        match vs, hv with
        | [v0, v1, v2, v3], hv => exact ⟨knownOf_rd hl hv.1, hv.2⟩)
      refine aok_exec (aTabOK_cons (aTabOK_cons (aTabOK_cons aTabOK_nil bytes0_ok) pointer76_ok) list39_ok) mixed eqs_ok 0 [(8, ⟨[(0, true), (1, true), (2, true), (3, true), (4, true), (5, true), (6, true), (7, true), (8, true), (9, true)], [], []⟩)] [] Try.func64 rfl rfl rfl rfl (avs := [.c (.r 0), .a [.v (.int .u8 vk), .v (.int .u64 vl), .v (.int .u64 vh), .v (.int .i64 vi), .v (.int .i64 vo)], .c (.v (.int .i64 0)), .c (.v (.int .i64 1))]) (H0 := [(0, .ext (.k []))]) (n0 := 1) (res := .t [.c (.v (.bool (withinB ⟨vk, vl, vh, vi, vo⟩))), .c (.v (.int .i64 (if pointerF ⟨vk, vl, vh, vi, vo⟩ = true then 0 else 171)))]) (new := []) rfl rfl rfl rfl rfl rfl ?_
      refine of_execR ?_; repeat' ((conv => whnf); first | with_reducible refine br_pre rfl ?_ | with_reducible refine br_true ?_ | with_reducible refine br_false ?_ | with_reducible refine br_true' (by assumption) ?_ | with_reducible refine br_false' (by assumption) ?_ | with_reducible refine br_pre (by assumption) ?_ | (with_reducible refine br_intro (fun h => ?_) (fun h => ?_) <;> try exact absurd h (by decide)) | ((with_reducible apply drw_intro); · kernel_rfl))
      all_goals refine doneA_plain rfl rfl rfl ⟨(show (_ : Bool) = _ from ?_), (show (_ : Int) = _ from ?_), trivial⟩
      all_goals simp_all [withinB, kBytes]
      all_goals (intros; omega)
    · cases h
  · cases h
def nilV : AV G := .c (.v (.slice none 0 0))
def mayF (v : Vl) : Bool := if v.k = 1 then (v.id == 0 && v.off == 0) && (spCheck v.lo v.hi == 0) else if v.k = 2 then pointerF v else if v.k = 0 ∨ v.k = 3 then (v.lo == 0 && v.hi == 0 && v.id == 0 && v.off == 0) else false
def may37T : List (AV G) → Option (Bool × AT G)
  | [.a [.v (.int .u8 vk), .v (.int .u64 vl), .v (.int .u64 vh), .v (.int .i64 vi), .v (.int .i64 vo)]] => some (true, boA (mayF ⟨vk, vl, vh, vi, vo⟩))
  | _ => none
theorem may37_ok : ∀ a r, may37T a = some (true, r) → AOK G P 37 a r := by
  intro args r h
  unfold may37T at h
  split at h
  · rename_i vk vl vh vi vo
    cases h
    refine aok_exec (aTabOK_cons (aTabOK_cons aTabOK_nil within64_ok) check38_ok) mixed eqs_ok 0 [] [] Try.func37 rfl rfl rfl rfl (avs := [.a [.v (.int .u8 vk), .v (.int .u64 vl), .v (.int .u64 vh), .v (.int .i64 vi), .v (.int .i64 vo)]]) (H0 := []) (n0 := 0) (res := .v (.c (.v (.bool (mayF ⟨vk, vl, vh, vi, vo⟩))))) (new := []) rfl rfl rfl rfl rfl rfl ?_
    refine of_execR ?_; repeat' ((conv => whnf); first | with_reducible refine br_pre rfl ?_ | with_reducible refine br_true ?_ | with_reducible refine br_false ?_ | with_reducible refine br_true' (by assumption) ?_ | with_reducible refine br_false' (by assumption) ?_ | with_reducible refine br_pre (by assumption) ?_ | (with_reducible refine br_intro (fun h => ?_) (fun h => ?_) <;> try exact absurd h (by decide)) | ((with_reducible apply drw_intro); · kernel_rfl))
    all_goals refine doneA_plain rfl rfl rfl (show (_ : Bool) = _ from ?_)
    all_goals (simp_all [mayF, pointerF, spCheck]; try (first | omega | grind))
  · cases h
theorem mayF_eq (v : Vl) : mayF v = mayR v := by
  cases v with
  | mk k lo hi id off =>
    simp only [mayF, mayR, vEq, vZero, endF]
    grind
end Go.Proofs.Ytcjiokiafdagdaa
