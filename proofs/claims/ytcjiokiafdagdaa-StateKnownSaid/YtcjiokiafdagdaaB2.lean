/- The State laws: what reads lists. -/
import Derived.Test.YtcjiokiafdagdaaB1
namespace Go.Proofs.Ytcjiokiafdagdaa
open Go.Sx Go.RowKit
set_option linter.unusedVariables false
set_option linter.unusedSimpArgs false
set_option maxRecDepth 100000
set_option maxHeartbeats 1000000
/-- What is known of pointers, out of an argument: nil is the empty list. -/
def knownOf : AC G → Option (List (Int × Int))
  | .g (.k l) => some l
  | .v (.slice none 0 0) => some []
  | _ => none
theorem knownOf_rd {base : Nat} {w : World} {c : AC G} {v : Value} {l : List (Int × Int)} (h : knownOf c = some l) (hr : RdC base w c v) : RdC base w (.g (G.k l)) v := by
  unfold knownOf at h
  split at h
  · injection h with h
    subst h
    exact hr
  · injection h with h
    subst h
    exact ⟨none, 0, hr.1, fun i hi => absurd hi (Nat.not_lt_zero i), fun _ h => by cases h⟩
  · cases h
def kChk : Int → List (Int × Int) → Int
  | _, [] => 0
  | last, x :: r => if x.1 ≤ last ∨ ¬ (0 ≤ x.1 ∧ x.1 ≤ 256) ∨ x.2 < 1 ∨ 2048 < x.2 then 2 else kChk x.1 r
def kCheck (l : List (Int × Int)) : Int := if 257 < l.length then 3 else kChk (-1) l
theorem drop_kid {l : List (Int × Int)} {i : Nat} (h : i < l.length) : l.drop i = (kid l i, kby l i) :: l.drop (i + 1) := by
  rw [List.drop_eq_getElem_cons h]
  simp only [kid, kby, List.getD_eq_getElem?_getD, List.getElem?_eq_getElem h, Option.getD_some]
theorem wrap_i64 {x : Int} (h0 : -9223372036854775808 ≤ x) (h1 : x ≤ 9223372036854775807) : IntKind.i64.wrap x = x := by
  simp only [IntKind.wrap, IntKind.bits, IntKind.signed]
  simp
  omega
theorem at_row {l : List (Int × Int)} {i : Nat} (h : i < l.length) : (decide (0 ≤ (i : Int)) && decide ((i : Int) < ((Gh.len (G.k l) : Nat) : Int))) = true := by
  have : Gh.len (G.k l) = l.length := rfl
  simp [this, h]
theorem at_load {l : List (Int × Int)} {i : Nat} (h : i < l.length) : decide (Int.toNat (i : Int) < Gh.len (G.k l)) = true := by
  have : Gh.len (G.k l) = l.length := rfl
  simp [this, h]
def list39T : List (AV G) → Option (Bool × AT G)
  | [.c x] => match knownOf x with
    | some l => some (true, erA (kCheck l))
    | none => none
  | _ => none
def inv39 (l : List (Int × Int)) : LInv G :=
  { α := Nat × Int
    I := fun x => ⟨38, [(11, .v (.c (.v (.int .i64 (x.1 : Int))))), (3, .v (.c (.v (.int .i64 x.2)))), (10, .v (.c (.v (.int .i64 ((Gh.len (G.k l) : Nat) : Int))))), (9, .v (.c (.r 0)))], 1, [(0, .ext (.k l))]⟩
    R := fun x => x.1 ≤ l.length ∧ kChk (-1) l = kChk x.2 (l.drop x.1)
    μ := fun x => l.length - x.1 }
theorem list39_ok : ∀ a r, list39T a = some (true, r) → AOK G P 39 a r := by
  intro args r h
  unfold list39T at h
  split at h
  · rename_i x
    split at h
    · rename_i l hl
      cases h
      refine aok_args (args := [.c (.g (.k l))]) ?_ (fun w vs hv => by
        match vs, hv with
        | [v], hv => exact ⟨knownOf_rd hl hv.1, trivial⟩)
      refine aok_exec (aTabOK_cons aTabOK_nil idMay65_ok) mixed eqs_ok 0 [] [([0, 1, 0, 1, 1, 1], inv39 l)] Try.func39 rfl rfl rfl rfl (avs := [.c (.r 0)]) (H0 := [(0, .ext (.k l))]) (n0 := 1) (res := .v (.c (.v (.int .i64 (kCheck l))))) (new := []) rfl rfl rfl rfl rfl rfl ?_
      repeat' ((conv => whnf); first | with_reducible refine br_pre rfl ?_ | with_reducible refine br_true ?_ | with_reducible refine br_false ?_ | with_reducible refine br_true' (by assumption) ?_ | with_reducible refine br_false' (by assumption) ?_ | with_reducible refine br_pre (by assumption) ?_ | (with_reducible refine br_intro (fun h => ?_) (fun h => ?_) <;> try exact absurd h (by decide)) | ((with_reducible apply drw_intro); · kernel_rfl))
      · conv => whnf
        refine doneA_plain rfl rfl rfl (show (_ : Int) = _ from ?_)
        have h : 257 < l.length := by
          have := of_decide_eq_true h
          simp only [Gh.len] at this
          omega
        simp [kCheck, h]
      · rename_i h
        have h : ¬ 257 < l.length := by
          have := of_decide_eq_false h
          simp only [Gh.len] at this
          omega
        have hk : kCheck l = kChk (-1) l := by simp [kCheck, h]
        conv => whnf
        refine ⟨((0 : Nat), (-1 : Int)), ⟨⟨Nat.zero_le _, rfl⟩, ⟨⟨rfl, rfl, rfl⟩, ?_, ?_⟩⟩, ?_⟩
        · repeat' (first | trivial | rfl | refine And.intro ?_ ?_)
        · repeat' (first | trivial | rfl | refine And.intro ?_ ?_)
        rintro ⟨i, last⟩ ⟨hi, hc⟩
        dsimp only at hi hc
        by_cases hlt : i < l.length
        · have d0 : decide ((i : Int) < ((Gh.len (G.k l) : Nat) : Int)) = true := by simp [Gh.len, hlt]
          have d1 := at_row hlt
          have d2 := at_load hlt
          have d3 := at_row hlt
          rw [drop_kid hlt] at hc
          simp only [kChk] at hc
          repeat' ((conv => whnf); first | with_reducible refine br_pre rfl ?_ | with_reducible refine br_true ?_ | with_reducible refine br_false ?_ | with_reducible refine br_true' (by assumption) ?_ | with_reducible refine br_false' (by assumption) ?_ | with_reducible refine br_pre (by assumption) ?_ | (with_reducible refine br_intro (fun h => ?_) (fun h => ?_) <;> try exact absurd h (by decide)) | ((with_reducible apply drw_intro); · kernel_rfl))
          all_goals conv => whnf
          all_goals first
            | (refine doneA_plain rfl rfl rfl (show (_ : Int) = _ from ?_)
               rw [hk, hc, if_pos (by simp_all <;> omega)])
            | (refine ⟨(i + 1, kid l i), ⟨⟨hlt, ?_⟩, ?_⟩, ⟨⟨rfl, rfl, rfl⟩, ?_, ?_⟩⟩
               · rw [hc, if_neg (by simp_all <;> omega)]
               · show l.length - (i + 1) < l.length - i
                 omega
               · refine ⟨(show IntKind.i64.wrap ((i : Int) + 1) = ((i + 1 : Nat) : Int) from ?_), (show kid l (Int.toNat (i : Int)) = kid l i from rfl), rfl, rfl, trivial⟩
                 rw [wrap_i64 (by omega) (by omega)]
                 omega
               · exact ⟨rfl, trivial⟩)
        · have d0 : decide ((i : Int) < ((Gh.len (G.k l) : Nat) : Int)) = false := by simp [Gh.len]; omega
          repeat' ((conv => whnf); first | with_reducible refine br_pre rfl ?_ | with_reducible refine br_true ?_ | with_reducible refine br_false ?_ | with_reducible refine br_true' (by assumption) ?_ | with_reducible refine br_false' (by assumption) ?_ | with_reducible refine br_pre (by assumption) ?_ | (with_reducible refine br_intro (fun h => ?_) (fun h => ?_) <;> try exact absurd h (by decide)) | ((with_reducible apply drw_intro); · kernel_rfl))
          conv => whnf
          refine doneA_plain rfl rfl rfl (show (_ : Int) = _ from ?_)
          rw [hk, hc, List.drop_of_length_le (by omega)]
          rfl
    · cases h
  · cases h
end Go.Proofs.Ytcjiokiafdagdaa
