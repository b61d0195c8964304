/- The State laws: Made. -/
import Derived.Test.YtcjiokiafdagdaaBI
namespace Go.Proofs.Ytcjiokiafdagdaa
open Go.Sx Go.RowKit
set_option linter.unusedVariables false
set_option linter.unusedSimpArgs false
set_option maxRecDepth 100000
set_option maxHeartbeats 20000000
def setR (g : Rg) (i : Nat) (v : Vl) : Rg := match i with
  | 0 => { g with r0 := v }
  | 1 => { g with r1 := v }
  | 2 => { g with r2 := v }
  | 3 => { g with r3 := v }
  | 4 => { g with r4 := v }
  | 5 => { g with r5 := v }
  | 6 => { g with r6 := v }
  | 7 => { g with r7 := v }
  | 8 => { g with r8 := v }
  | _ => { g with r9 := v }
def forgetV (id : Int) (v : Vl) : Vl := if v.k = 2 ∧ v.id = id then vZero else v
def idAt (t : Int) : Int := IntKind.i64.wrap (1 + t)
theorem idAt_eq {t : Int} (h0 : 0 ≤ t) (h1 : t < 256) : idAt t = 1 + t := wrap_i64 (by omega) (by omega)
def madeArg (r t : Int) : Bool := decide (0 ≤ r) && (decide (r < 10) && (decide (0 ≤ t) && decide (t < 256)))
def madeOk (x : Stt) (r t : Int) : Bool := stOk x && madeArg r t
def madeX (x : Stt) (r t : Int) : Stt := if madeOk x r t = true then ⟨setR (mapG (forgetV (idAt t)) x.g) r.toNat ⟨2, 0, 0, idAt t, 0⟩, x.s, forgetR x.l (idAt t)⟩ else zeroSt
def madeErr (x : Stt) (r t : Int) : Int := if madeOk x r t = true then 0 else 2
def inv26 (x : Stt) (r id : Int) : LInv G :=
  { α := Nat × Rg
    I := fun (i, g) => ⟨76, [(39, .v (.c (.v (.int .i64 (i : Int))))), (38, .v (.a (rgS x.g))), (3, .v (.c (.p 1 0))), (6, .v (.c (.p 2 0))), (1, .v (.c (.v (.int .i64 r)))), (9, .v (.c (.v (.int .i64 id))))], 3, [(0, .ext (.k x.l)), (1, .own 31 (gsS g x.s (.r 0))), (2, .own 31 (gsS zeroSt.g zeroSt.s nilC))]⟩
    R := fun y => y.1 ≤ 10 ∧ y.2 = upTo (forgetV id) x.g y.1
    μ := fun y => 10 - y.1 }
def made26T : List (AV G) → Option (Bool × AT G)
  | [a, .c (.v (.int .i64 r)), .c (.v (.int .i64 t))] => stA a fun x => some (true, .t [stV (madeX x r t), .c (ci (madeErr x r t))])
  | _ => none
theorem made26_ok : ∀ a r, made26T a = some (true, r) → AOK G P 26 a r := by
  intro args res h
  unfold made26T at h
  split at h
  · rename_i a r t
    obtain ⟨x, h, hA⟩ := stA_some h
    refine aok_args (args := [stV x, .c (ci r), .c (ci t)]) ?_ (fun w vs hv => by
      match vs, hv with
      | [v, u, s], hv => exact ⟨hA _ _ _ hv.1, hv.2⟩)
    cases h
    by_cases hk : madeOk x r t = true
    · have hk' := hk
      simp only [madeOk, madeArg, Bool.and_eq_true, decide_eq_true_eq] at hk'
      obtain ⟨ho, hr0, hr1, ht0, ht1⟩ := hk'
      have e1 : madeX x r t = ⟨setR (mapG (forgetV (idAt t)) x.g) r.toNat ⟨2, 0, 0, idAt t, 0⟩, x.s, forgetR x.l (idAt t)⟩ := by simp [madeX, hk]
      have e2 : madeErr x r t = 0 := by simp [madeErr, hk]
      have hq : (stCheck x != 0) = false := by simp [stCheck, ho]
      have k0 : decide (r < 0) = false := decide_eq_false (by omega)
      have k1 : decide (r ≥ 10) = false := decide_eq_false (by omega)
      have k2 : decide (t < 0) = false := decide_eq_false (by omega)
      have k3 : decide (t ≥ 256) = false := decide_eq_false (by omega)
      have hid := idAt_eq ht0 ht1
      have hf : (forgetE x.l (idAt t) != 0) = false := by
        rw [show forgetE x.l (idAt t) = 0 from by
          unfold forgetE
          rw [if_pos (stOk_check ho), if_pos (by omega)]]
        rfl
      rw [e1, e2]
      refine aok_exec (aTabOK_cons (aTabOK_cons aTabOK_nil forget59_ok) check11_ok) mixed eqs_ok 11 [] [([0, 1, 0, 1, 1, 1, 1], inv26 x r (idAt t))] Try.func26 rfl rfl rfl rfl (avs := [.a (stS x 0), .c (.v (.int .i64 r)), .c (.v (.int .i64 t))]) (H0 := [(0, .ext (.k x.l))]) (n0 := 1) (res := .t [.a (gsS (setR (mapG (forgetV (idAt t)) x.g) r.toNat ⟨2, 0, 0, idAt t, 0⟩) x.s (.r 1)), .c (.v (.int .i64 0))]) (new := [.ext (.k (forgetR x.l (idAt t)))]) rfl rfl rfl rfl rfl rfl ?_
      refine of_execR ?_; repeat' ((conv => whnf); first | with_reducible refine br_pre rfl ?_ | with_reducible refine br_true ?_ | with_reducible refine br_false ?_ | with_reducible refine br_true' (by assumption) ?_ | with_reducible refine br_false' (by assumption) ?_ | with_reducible refine br_pre (by assumption) ?_ | (with_reducible refine br_intro (fun h => ?_) (fun h => ?_) <;> try exact absurd h (by decide)) | ((with_reducible apply drw_intro); · kernel_rfl))
      conv => whnf
      refine ⟨((0 : Nat), x.g), ⟨⟨Nat.zero_le _, rfl⟩, ⟨⟨rfl, rfl, rfl⟩, ?_, ?_⟩⟩, ?_⟩
      · repeat' (first | rfl | exact True.intro | refine And.intro ?_ ?_)
      · repeat' (first | rfl | exact True.intro | refine And.intro ?_ ?_)
      rintro ⟨i, g⟩ ⟨hi, hg⟩
      change i ≤ 10 at hi
      change g = upTo (forgetV (idAt t)) x.g i at hg
      refine of_execR ?_
      rcases (by omega : i = 0 ∨ i = 1 ∨ i = 2 ∨ i = 3 ∨ i = 4 ∨ i = 5 ∨ i = 6 ∨ i = 7 ∨ i = 8 ∨ i = 9 ∨ i = 10) with rfl | rfl | rfl | rfl | rfl | rfl | rfl | rfl | rfl | rfl | rfl
      · repeat' ((conv => whnf); first | with_reducible refine br_pre rfl ?_ | with_reducible refine br_true ?_ | with_reducible refine br_false ?_ | with_reducible refine br_true' (by assumption) ?_ | with_reducible refine br_false' (by assumption) ?_ | with_reducible refine br_pre (by assumption) ?_ | (with_reducible refine br_intro (fun h => ?_) (fun h => ?_) <;> try exact absurd h (by decide)) | ((with_reducible apply drw_intro); · kernel_rfl))
        all_goals conv => whnf
        all_goals first
          | (refine ⟨((1 : Nat), { g with r0 := vZero }), ⟨⟨(show 1 ≤ 10 by omega), ?_⟩, (show 10 - 1 < 10 - 0 by omega)⟩, ⟨⟨rfl, rfl, rfl⟩, (by repeat' (first | rfl | exact True.intro | refine And.intro ?_ ?_)), (by repeat' (first | rfl | exact True.intro | refine And.intro ?_ ?_))⟩⟩
             have hs : forgetV (idAt t) x.g.r0 = vZero := by
               unfold forgetV
               rw [if_pos]
               clear hq e1 e2 hg hf k0 k1 k2 k3 hid ho
               simp at *
               grind
             show { g with r0 := vZero } = upTo (forgetV (idAt t)) x.g 1
             rw [hg]
             simp [upTo, hs])
          | (refine ⟨((1 : Nat), g), ⟨⟨(show 1 ≤ 10 by omega), ?_⟩, (show 10 - 1 < 10 - 0 by omega)⟩, ⟨⟨rfl, rfl, rfl⟩, (by repeat' (first | rfl | exact True.intro | refine And.intro ?_ ?_)), (by repeat' (first | rfl | exact True.intro | refine And.intro ?_ ?_))⟩⟩
             have hs : forgetV (idAt t) x.g.r0 = x.g.r0 := by
               unfold forgetV
               rw [if_neg]
               clear hq e1 e2 hg hf k0 k1 k2 k3 hid ho
               simp at *
               grind
             show g = upTo (forgetV (idAt t)) x.g 1
             rw [hg]
             simp [upTo, hs])
      · repeat' ((conv => whnf); first | with_reducible refine br_pre rfl ?_ | with_reducible refine br_true ?_ | with_reducible refine br_false ?_ | with_reducible refine br_true' (by assumption) ?_ | with_reducible refine br_false' (by assumption) ?_ | with_reducible refine br_pre (by assumption) ?_ | (with_reducible refine br_intro (fun h => ?_) (fun h => ?_) <;> try exact absurd h (by decide)) | ((with_reducible apply drw_intro); · kernel_rfl))
        all_goals conv => whnf
        all_goals first
          | (refine ⟨((2 : Nat), { g with r1 := vZero }), ⟨⟨(show 2 ≤ 10 by omega), ?_⟩, (show 10 - 2 < 10 - 1 by omega)⟩, ⟨⟨rfl, rfl, rfl⟩, (by repeat' (first | rfl | exact True.intro | refine And.intro ?_ ?_)), (by repeat' (first | rfl | exact True.intro | refine And.intro ?_ ?_))⟩⟩
             have hs : forgetV (idAt t) x.g.r1 = vZero := by
               unfold forgetV
               rw [if_pos]
               clear hq e1 e2 hg hf k0 k1 k2 k3 hid ho
               simp at *
               grind
             show { g with r1 := vZero } = upTo (forgetV (idAt t)) x.g 2
             rw [hg]
             simp [upTo, hs])
          | (refine ⟨((2 : Nat), g), ⟨⟨(show 2 ≤ 10 by omega), ?_⟩, (show 10 - 2 < 10 - 1 by omega)⟩, ⟨⟨rfl, rfl, rfl⟩, (by repeat' (first | rfl | exact True.intro | refine And.intro ?_ ?_)), (by repeat' (first | rfl | exact True.intro | refine And.intro ?_ ?_))⟩⟩
             have hs : forgetV (idAt t) x.g.r1 = x.g.r1 := by
               unfold forgetV
               rw [if_neg]
               clear hq e1 e2 hg hf k0 k1 k2 k3 hid ho
               simp at *
               grind
             show g = upTo (forgetV (idAt t)) x.g 2
             rw [hg]
             simp [upTo, hs])
      · repeat' ((conv => whnf); first | with_reducible refine br_pre rfl ?_ | with_reducible refine br_true ?_ | with_reducible refine br_false ?_ | with_reducible refine br_true' (by assumption) ?_ | with_reducible refine br_false' (by assumption) ?_ | with_reducible refine br_pre (by assumption) ?_ | (with_reducible refine br_intro (fun h => ?_) (fun h => ?_) <;> try exact absurd h (by decide)) | ((with_reducible apply drw_intro); · kernel_rfl))
        all_goals conv => whnf
        all_goals first
          | (refine ⟨((3 : Nat), { g with r2 := vZero }), ⟨⟨(show 3 ≤ 10 by omega), ?_⟩, (show 10 - 3 < 10 - 2 by omega)⟩, ⟨⟨rfl, rfl, rfl⟩, (by repeat' (first | rfl | exact True.intro | refine And.intro ?_ ?_)), (by repeat' (first | rfl | exact True.intro | refine And.intro ?_ ?_))⟩⟩
             have hs : forgetV (idAt t) x.g.r2 = vZero := by
               unfold forgetV
               rw [if_pos]
               clear hq e1 e2 hg hf k0 k1 k2 k3 hid ho
               simp at *
               grind
             show { g with r2 := vZero } = upTo (forgetV (idAt t)) x.g 3
             rw [hg]
             simp [upTo, hs])
          | (refine ⟨((3 : Nat), g), ⟨⟨(show 3 ≤ 10 by omega), ?_⟩, (show 10 - 3 < 10 - 2 by omega)⟩, ⟨⟨rfl, rfl, rfl⟩, (by repeat' (first | rfl | exact True.intro | refine And.intro ?_ ?_)), (by repeat' (first | rfl | exact True.intro | refine And.intro ?_ ?_))⟩⟩
             have hs : forgetV (idAt t) x.g.r2 = x.g.r2 := by
               unfold forgetV
               rw [if_neg]
               clear hq e1 e2 hg hf k0 k1 k2 k3 hid ho
               simp at *
               grind
             show g = upTo (forgetV (idAt t)) x.g 3
             rw [hg]
             simp [upTo, hs])
      · repeat' ((conv => whnf); first | with_reducible refine br_pre rfl ?_ | with_reducible refine br_true ?_ | with_reducible refine br_false ?_ | with_reducible refine br_true' (by assumption) ?_ | with_reducible refine br_false' (by assumption) ?_ | with_reducible refine br_pre (by assumption) ?_ | (with_reducible refine br_intro (fun h => ?_) (fun h => ?_) <;> try exact absurd h (by decide)) | ((with_reducible apply drw_intro); · kernel_rfl))
        all_goals conv => whnf
        all_goals first
          | (refine ⟨((4 : Nat), { g with r3 := vZero }), ⟨⟨(show 4 ≤ 10 by omega), ?_⟩, (show 10 - 4 < 10 - 3 by omega)⟩, ⟨⟨rfl, rfl, rfl⟩, (by repeat' (first | rfl | exact True.intro | refine And.intro ?_ ?_)), (by repeat' (first | rfl | exact True.intro | refine And.intro ?_ ?_))⟩⟩
             have hs : forgetV (idAt t) x.g.r3 = vZero := by
               unfold forgetV
               rw [if_pos]
               clear hq e1 e2 hg hf k0 k1 k2 k3 hid ho
               simp at *
               grind
             show { g with r3 := vZero } = upTo (forgetV (idAt t)) x.g 4
             rw [hg]
             simp [upTo, hs])
          | (refine ⟨((4 : Nat), g), ⟨⟨(show 4 ≤ 10 by omega), ?_⟩, (show 10 - 4 < 10 - 3 by omega)⟩, ⟨⟨rfl, rfl, rfl⟩, (by repeat' (first | rfl | exact True.intro | refine And.intro ?_ ?_)), (by repeat' (first | rfl | exact True.intro | refine And.intro ?_ ?_))⟩⟩
             have hs : forgetV (idAt t) x.g.r3 = x.g.r3 := by
               unfold forgetV
               rw [if_neg]
               clear hq e1 e2 hg hf k0 k1 k2 k3 hid ho
               simp at *
               grind
             show g = upTo (forgetV (idAt t)) x.g 4
             rw [hg]
             simp [upTo, hs])
      · repeat' ((conv => whnf); first | with_reducible refine br_pre rfl ?_ | with_reducible refine br_true ?_ | with_reducible refine br_false ?_ | with_reducible refine br_true' (by assumption) ?_ | with_reducible refine br_false' (by assumption) ?_ | with_reducible refine br_pre (by assumption) ?_ | (with_reducible refine br_intro (fun h => ?_) (fun h => ?_) <;> try exact absurd h (by decide)) | ((with_reducible apply drw_intro); · kernel_rfl))
        all_goals conv => whnf
        all_goals first
          | (refine ⟨((5 : Nat), { g with r4 := vZero }), ⟨⟨(show 5 ≤ 10 by omega), ?_⟩, (show 10 - 5 < 10 - 4 by omega)⟩, ⟨⟨rfl, rfl, rfl⟩, (by repeat' (first | rfl | exact True.intro | refine And.intro ?_ ?_)), (by repeat' (first | rfl | exact True.intro | refine And.intro ?_ ?_))⟩⟩
             have hs : forgetV (idAt t) x.g.r4 = vZero := by
               unfold forgetV
               rw [if_pos]
               clear hq e1 e2 hg hf k0 k1 k2 k3 hid ho
               simp at *
               grind
             show { g with r4 := vZero } = upTo (forgetV (idAt t)) x.g 5
             rw [hg]
             simp [upTo, hs])
          | (refine ⟨((5 : Nat), g), ⟨⟨(show 5 ≤ 10 by omega), ?_⟩, (show 10 - 5 < 10 - 4 by omega)⟩, ⟨⟨rfl, rfl, rfl⟩, (by repeat' (first | rfl | exact True.intro | refine And.intro ?_ ?_)), (by repeat' (first | rfl | exact True.intro | refine And.intro ?_ ?_))⟩⟩
             have hs : forgetV (idAt t) x.g.r4 = x.g.r4 := by
               unfold forgetV
               rw [if_neg]
               clear hq e1 e2 hg hf k0 k1 k2 k3 hid ho
               simp at *
               grind
             show g = upTo (forgetV (idAt t)) x.g 5
             rw [hg]
             simp [upTo, hs])
      · repeat' ((conv => whnf); first | with_reducible refine br_pre rfl ?_ | with_reducible refine br_true ?_ | with_reducible refine br_false ?_ | with_reducible refine br_true' (by assumption) ?_ | with_reducible refine br_false' (by assumption) ?_ | with_reducible refine br_pre (by assumption) ?_ | (with_reducible refine br_intro (fun h => ?_) (fun h => ?_) <;> try exact absurd h (by decide)) | ((with_reducible apply drw_intro); · kernel_rfl))
        all_goals conv => whnf
        all_goals first
          | (refine ⟨((6 : Nat), { g with r5 := vZero }), ⟨⟨(show 6 ≤ 10 by omega), ?_⟩, (show 10 - 6 < 10 - 5 by omega)⟩, ⟨⟨rfl, rfl, rfl⟩, (by repeat' (first | rfl | exact True.intro | refine And.intro ?_ ?_)), (by repeat' (first | rfl | exact True.intro | refine And.intro ?_ ?_))⟩⟩
             have hs : forgetV (idAt t) x.g.r5 = vZero := by
               unfold forgetV
               rw [if_pos]
               clear hq e1 e2 hg hf k0 k1 k2 k3 hid ho
               simp at *
               grind
             show { g with r5 := vZero } = upTo (forgetV (idAt t)) x.g 6
             rw [hg]
             simp [upTo, hs])
          | (refine ⟨((6 : Nat), g), ⟨⟨(show 6 ≤ 10 by omega), ?_⟩, (show 10 - 6 < 10 - 5 by omega)⟩, ⟨⟨rfl, rfl, rfl⟩, (by repeat' (first | rfl | exact True.intro | refine And.intro ?_ ?_)), (by repeat' (first | rfl | exact True.intro | refine And.intro ?_ ?_))⟩⟩
             have hs : forgetV (idAt t) x.g.r5 = x.g.r5 := by
               unfold forgetV
               rw [if_neg]
               clear hq e1 e2 hg hf k0 k1 k2 k3 hid ho
               simp at *
               grind
             show g = upTo (forgetV (idAt t)) x.g 6
             rw [hg]
             simp [upTo, hs])
      · repeat' ((conv => whnf); first | with_reducible refine br_pre rfl ?_ | with_reducible refine br_true ?_ | with_reducible refine br_false ?_ | with_reducible refine br_true' (by assumption) ?_ | with_reducible refine br_false' (by assumption) ?_ | with_reducible refine br_pre (by assumption) ?_ | (with_reducible refine br_intro (fun h => ?_) (fun h => ?_) <;> try exact absurd h (by decide)) | ((with_reducible apply drw_intro); · kernel_rfl))
        all_goals conv => whnf
        all_goals first
          | (refine ⟨((7 : Nat), { g with r6 := vZero }), ⟨⟨(show 7 ≤ 10 by omega), ?_⟩, (show 10 - 7 < 10 - 6 by omega)⟩, ⟨⟨rfl, rfl, rfl⟩, (by repeat' (first | rfl | exact True.intro | refine And.intro ?_ ?_)), (by repeat' (first | rfl | exact True.intro | refine And.intro ?_ ?_))⟩⟩
             have hs : forgetV (idAt t) x.g.r6 = vZero := by
               unfold forgetV
               rw [if_pos]
               clear hq e1 e2 hg hf k0 k1 k2 k3 hid ho
               simp at *
               grind
             show { g with r6 := vZero } = upTo (forgetV (idAt t)) x.g 7
             rw [hg]
             simp [upTo, hs])
          | (refine ⟨((7 : Nat), g), ⟨⟨(show 7 ≤ 10 by omega), ?_⟩, (show 10 - 7 < 10 - 6 by omega)⟩, ⟨⟨rfl, rfl, rfl⟩, (by repeat' (first | rfl | exact True.intro | refine And.intro ?_ ?_)), (by repeat' (first | rfl | exact True.intro | refine And.intro ?_ ?_))⟩⟩
             have hs : forgetV (idAt t) x.g.r6 = x.g.r6 := by
               unfold forgetV
               rw [if_neg]
               clear hq e1 e2 hg hf k0 k1 k2 k3 hid ho
               simp at *
               grind
             show g = upTo (forgetV (idAt t)) x.g 7
             rw [hg]
             simp [upTo, hs])
      · repeat' ((conv => whnf); first | with_reducible refine br_pre rfl ?_ | with_reducible refine br_true ?_ | with_reducible refine br_false ?_ | with_reducible refine br_true' (by assumption) ?_ | with_reducible refine br_false' (by assumption) ?_ | with_reducible refine br_pre (by assumption) ?_ | (with_reducible refine br_intro (fun h => ?_) (fun h => ?_) <;> try exact absurd h (by decide)) | ((with_reducible apply drw_intro); · kernel_rfl))
        all_goals conv => whnf
        all_goals first
          | (refine ⟨((8 : Nat), { g with r7 := vZero }), ⟨⟨(show 8 ≤ 10 by omega), ?_⟩, (show 10 - 8 < 10 - 7 by omega)⟩, ⟨⟨rfl, rfl, rfl⟩, (by repeat' (first | rfl | exact True.intro | refine And.intro ?_ ?_)), (by repeat' (first | rfl | exact True.intro | refine And.intro ?_ ?_))⟩⟩
             have hs : forgetV (idAt t) x.g.r7 = vZero := by
               unfold forgetV
               rw [if_pos]
               clear hq e1 e2 hg hf k0 k1 k2 k3 hid ho
               simp at *
               grind
             show { g with r7 := vZero } = upTo (forgetV (idAt t)) x.g 8
             rw [hg]
             simp [upTo, hs])
          | (refine ⟨((8 : Nat), g), ⟨⟨(show 8 ≤ 10 by omega), ?_⟩, (show 10 - 8 < 10 - 7 by omega)⟩, ⟨⟨rfl, rfl, rfl⟩, (by repeat' (first | rfl | exact True.intro | refine And.intro ?_ ?_)), (by repeat' (first | rfl | exact True.intro | refine And.intro ?_ ?_))⟩⟩
             have hs : forgetV (idAt t) x.g.r7 = x.g.r7 := by
               unfold forgetV
               rw [if_neg]
               clear hq e1 e2 hg hf k0 k1 k2 k3 hid ho
               simp at *
               grind
             show g = upTo (forgetV (idAt t)) x.g 8
             rw [hg]
             simp [upTo, hs])
      · repeat' ((conv => whnf); first | with_reducible refine br_pre rfl ?_ | with_reducible refine br_true ?_ | with_reducible refine br_false ?_ | with_reducible refine br_true' (by assumption) ?_ | with_reducible refine br_false' (by assumption) ?_ | with_reducible refine br_pre (by assumption) ?_ | (with_reducible refine br_intro (fun h => ?_) (fun h => ?_) <;> try exact absurd h (by decide)) | ((with_reducible apply drw_intro); · kernel_rfl))
        all_goals conv => whnf
        all_goals first
          | (refine ⟨((9 : Nat), { g with r8 := vZero }), ⟨⟨(show 9 ≤ 10 by omega), ?_⟩, (show 10 - 9 < 10 - 8 by omega)⟩, ⟨⟨rfl, rfl, rfl⟩, (by repeat' (first | rfl | exact True.intro | refine And.intro ?_ ?_)), (by repeat' (first | rfl | exact True.intro | refine And.intro ?_ ?_))⟩⟩
             have hs : forgetV (idAt t) x.g.r8 = vZero := by
               unfold forgetV
               rw [if_pos]
               clear hq e1 e2 hg hf k0 k1 k2 k3 hid ho
               simp at *
               grind
             show { g with r8 := vZero } = upTo (forgetV (idAt t)) x.g 9
             rw [hg]
             simp [upTo, hs])
          | (refine ⟨((9 : Nat), g), ⟨⟨(show 9 ≤ 10 by omega), ?_⟩, (show 10 - 9 < 10 - 8 by omega)⟩, ⟨⟨rfl, rfl, rfl⟩, (by repeat' (first | rfl | exact True.intro | refine And.intro ?_ ?_)), (by repeat' (first | rfl | exact True.intro | refine And.intro ?_ ?_))⟩⟩
             have hs : forgetV (idAt t) x.g.r8 = x.g.r8 := by
               unfold forgetV
               rw [if_neg]
               clear hq e1 e2 hg hf k0 k1 k2 k3 hid ho
               simp at *
               grind
             show g = upTo (forgetV (idAt t)) x.g 9
             rw [hg]
             simp [upTo, hs])
      · repeat' ((conv => whnf); first | with_reducible refine br_pre rfl ?_ | with_reducible refine br_true ?_ | with_reducible refine br_false ?_ | with_reducible refine br_true' (by assumption) ?_ | with_reducible refine br_false' (by assumption) ?_ | with_reducible refine br_pre (by assumption) ?_ | (with_reducible refine br_intro (fun h => ?_) (fun h => ?_) <;> try exact absurd h (by decide)) | ((with_reducible apply drw_intro); · kernel_rfl))
        all_goals conv => whnf
        all_goals first
          | (refine ⟨((10 : Nat), { g with r9 := vZero }), ⟨⟨(show 10 ≤ 10 by omega), ?_⟩, (show 10 - 10 < 10 - 9 by omega)⟩, ⟨⟨rfl, rfl, rfl⟩, (by repeat' (first | rfl | exact True.intro | refine And.intro ?_ ?_)), (by repeat' (first | rfl | exact True.intro | refine And.intro ?_ ?_))⟩⟩
             have hs : forgetV (idAt t) x.g.r9 = vZero := by
               unfold forgetV
               rw [if_pos]
               clear hq e1 e2 hg hf k0 k1 k2 k3 hid ho
               simp at *
               grind
             show { g with r9 := vZero } = upTo (forgetV (idAt t)) x.g 10
             rw [hg]
             simp [upTo, hs])
          | (refine ⟨((10 : Nat), g), ⟨⟨(show 10 ≤ 10 by omega), ?_⟩, (show 10 - 10 < 10 - 9 by omega)⟩, ⟨⟨rfl, rfl, rfl⟩, (by repeat' (first | rfl | exact True.intro | refine And.intro ?_ ?_)), (by repeat' (first | rfl | exact True.intro | refine And.intro ?_ ?_))⟩⟩
             have hs : forgetV (idAt t) x.g.r9 = x.g.r9 := by
               unfold forgetV
               rw [if_neg]
               clear hq e1 e2 hg hf k0 k1 k2 k3 hid ho
               simp at *
               grind
             show g = upTo (forgetV (idAt t)) x.g 10
             rw [hg]
             simp [upTo, hs])
      · subst hg
        rcases (by omega : r = 0 ∨ r = 1 ∨ r = 2 ∨ r = 3 ∨ r = 4 ∨ r = 5 ∨ r = 6 ∨ r = 7 ∨ r = 8 ∨ r = 9) with rfl | rfl | rfl | rfl | rfl | rfl | rfl | rfl | rfl | rfl
        all_goals repeat' ((conv => whnf); first | with_reducible refine br_pre rfl ?_ | with_reducible refine br_true ?_ | with_reducible refine br_false ?_ | with_reducible refine br_true' (by assumption) ?_ | with_reducible refine br_false' (by assumption) ?_ | with_reducible refine br_pre (by assumption) ?_ | (with_reducible refine br_intro (fun h => ?_) (fun h => ?_) <;> try exact absurd h (by decide)) | ((with_reducible apply drw_intro); · kernel_rfl))
        all_goals conv => whnf
        all_goals refine doneA_intro [some 3] rfl rfl rfl ?_ ⟨rfl, trivial⟩
        all_goals repeat' (first | rfl | exact True.intro | refine And.intro ?_ ?_)
    · have e1 : madeX x r t = zeroSt := by simp [madeX, hk]
      have e2 : madeErr x r t = 2 := by simp [madeErr, hk]
      rw [e1, e2]
      refine aok_exec (aTabOK_cons aTabOK_nil check11_ok) mixed eqs_ok 11 [] [([0, 1, 0, 1, 1, 1, 1], inv26 x r (idAt t))] Try.func26 rfl rfl rfl rfl (avs := [.a (stS x 0), .c (.v (.int .i64 r)), .c (.v (.int .i64 t))]) (H0 := [(0, .ext (.k x.l))]) (n0 := 1) (res := .t [.a (stS zeroSt 1), .c (.v (.int .i64 2))]) (new := [.ext (.k [])]) rfl rfl rfl rfl rfl rfl ?_
      by_cases ho : stOk x = true
      · have hq : (stCheck x != 0) = false := by simp [stCheck, ho]
        have ha : madeArg r t = false := by
          cases hh : madeArg r t with
          | false => rfl
          | true => exact absurd (by simp [madeOk, ho, hh]) hk
        have e3 : stCheck x = 0 := by simp [stCheck, ho]
        refine of_execR ?_; repeat' ((conv => whnf); first | with_reducible refine br_pre rfl ?_ | with_reducible refine br_true ?_ | with_reducible refine br_false ?_ | with_reducible refine br_true' (by assumption) ?_ | with_reducible refine br_false' (by assumption) ?_ | with_reducible refine br_pre (by assumption) ?_ | (with_reducible refine br_intro (fun h => ?_) (fun h => ?_) <;> try exact absurd h (by decide)) | ((with_reducible apply drw_intro); · kernel_rfl))
        all_goals conv => whnf
        all_goals first
          | (refine doneA_intro [none] rfl rfl rfl ?_ ⟨rfl, trivial⟩
             refine ⟨?_, rfl, trivial⟩
             repeat' (first | rfl | exact True.intro | refine And.intro ?_ ?_))
          | (exfalso
             clear hq hk e1 e2 e3
             simp [madeArg] at *
             omega)
      · have hq : (stCheck x != 0) = true := by simp [stCheck, ho]
        have e3 : stCheck x = 2 := by simp [stCheck, ho]
        refine of_execR ?_; repeat' ((conv => whnf); first | with_reducible refine br_pre rfl ?_ | with_reducible refine br_true ?_ | with_reducible refine br_false ?_ | with_reducible refine br_true' (by assumption) ?_ | with_reducible refine br_false' (by assumption) ?_ | with_reducible refine br_pre (by assumption) ?_ | (with_reducible refine br_intro (fun h => ?_) (fun h => ?_) <;> try exact absurd h (by decide)) | ((with_reducible apply drw_intro); · kernel_rfl))
        all_goals conv => whnf
        all_goals
          refine doneA_intro [none] rfl rfl rfl ?_ ⟨rfl, trivial⟩
          refine ⟨?_, e3, trivial⟩
          repeat' (first | rfl | exact True.intro | refine And.intro ?_ ?_)
  · cases h
end Go.Proofs.Ytcjiokiafdagdaa
