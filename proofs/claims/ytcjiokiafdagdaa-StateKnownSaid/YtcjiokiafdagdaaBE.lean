/- The State laws: Equal, Same, Check, asked. -/
import Derived.Test.YtcjiokiafdagdaaBD
namespace Go.Proofs.Ytcjiokiafdagdaa
open Go.Sx Go.RowKit
set_option linter.unusedVariables false
set_option linter.unusedSimpArgs false
set_option maxRecDepth 100000
set_option maxHeartbeats 1000000
theorem take_step {l m : List (Int × Int)} {i : Nat} (h : i < l.length) (hm : i < m.length) (ht : l.take i = m.take i) : l.take (i + 1) = m.take (i + 1) ↔ (kid l i = kid m i ∧ kby l i = kby m i) := by
  have el : l.take (i + 1) = l.take i ++ [(kid l i, kby l i)] := by
    simp only [kid, kby, List.getD_eq_getElem?_getD, List.getElem?_eq_getElem h, Option.getD_some]
    exact (List.take_append_getElem h).symm
  have em : m.take (i + 1) = m.take i ++ [(kid m i, kby m i)] := by
    simp only [kid, kby, List.getD_eq_getElem?_getD, List.getElem?_eq_getElem hm, Option.getD_some]
    exact (List.take_append_getElem hm).symm
  rw [el, em, ht]
  simp
def kSame (l m : List (Int × Int)) : Bool := decide (l = m)
def equal43T : List (AV G) → Option (Bool × AT G)
  | [.c x, .c y] => match knownOf x, knownOf y with
    | some l, some m => some (decide (l.length ≤ 4611686018427387904), boA (kSame l m))
    | _, _ => none
  | _ => none
def inv43 (l m : List (Int × Int)) : LInv G :=
  { α := Nat
    I := fun x => ⟨26, [(13, .v (.c (.v (.int .i64 (x : Int))))), (12, .v (.c (.v (.int .i64 ((Gh.len (G.k l) : Nat) : Int))))), (0, .v (.c (.r 0))), (1, .v (.c (.r 1)))], 2, [(0, .ext (.k l)), (1, .ext (.k m))]⟩
    R := fun x => x ≤ l.length ∧ l.take x = m.take x
    μ := fun x => l.length - x }
theorem equal43_ok : ∀ a r, equal43T a = some (true, r) → AOK G P 43 a r := by
  intro args r h
  unfold equal43T at h
  split at h
  · rename_i x y
    split at h
    · rename_i l m hl hm
      injection h with h
      injection h with hpre h2
      subst h2
      have hpre := of_decide_eq_true hpre
      refine aok_args (args := [.c (.g (.k l)), .c (.g (.k m))]) ?_ (fun w vs hv => by
        match vs, hv with
        | [v, u], hv => exact ⟨knownOf_rd hl hv.1, knownOf_rd hm hv.2.1, trivial⟩)
      refine aok_exec aTabOK_nil mixed eqs_ok 0 [(6, ⟨[(0, true), (1, true), (2, true), (3, true), (4, true), (5, true), (6, true), (7, true), (8, true)], [], []⟩)] [([0, 1, 0, 1, 1], inv43 l m)] Try.func43 rfl rfl rfl rfl (avs := [.c (.r 0), .c (.r 1)]) (H0 := [(0, .ext (.k l)), (1, .ext (.k m))]) (n0 := 2) (res := .v (.c (.v (.bool (kSame l m))))) (new := []) rfl rfl rfl rfl rfl rfl ?_
      refine of_execR ?_; repeat' ((conv => whnf); first | with_reducible refine br_pre rfl ?_ | with_reducible refine br_true ?_ | with_reducible refine br_false ?_ | with_reducible refine br_true' (by assumption) ?_ | with_reducible refine br_false' (by assumption) ?_ | with_reducible refine br_pre (by assumption) ?_ | (with_reducible refine br_intro (fun h => ?_) (fun h => ?_) <;> try exact absurd h (by decide)) | ((with_reducible apply drw_intro); · kernel_rfl))
      · refine doneA_plain rfl rfl rfl (show (_ : Bool) = _ from ?_)
        rename_i h
        have h : l.length ≠ m.length := by
          simp only [Gh.len] at h
          simp at h
          omega
        have : l ≠ m := fun e => h (by rw [e])
        simp [kSame, this]
      · rename_i h
        have h : l.length = m.length := by
          simp only [Gh.len] at h
          simp at h
          omega
        refine ⟨(0 : Nat), ⟨⟨Nat.zero_le _, rfl⟩, ⟨⟨rfl, rfl, rfl⟩, ?_, ?_⟩⟩, ?_⟩
        · repeat' (first | rfl | exact True.intro | refine And.intro ?_ ?_)
        · repeat' (first | rfl | exact True.intro | refine And.intro ?_ ?_)
        rintro (i : Nat) ⟨hi, hc⟩
        change i ≤ l.length at hi
        change l.take i = m.take i at hc
        refine of_execR ?_
        by_cases hlt : i < l.length
        · have d0 : decide ((i : Int) < ((Gh.len (G.k l) : Nat) : Int)) = true := by simp [Gh.len, hlt]
          have hlm : i < m.length := by omega
          have d1 := at_row hlt
          have d2 := at_load hlt
          have d3 := at_row hlm
          have d4 := at_load hlm
          repeat' ((conv => whnf); first | with_reducible refine br_pre rfl ?_ | with_reducible refine br_true ?_ | with_reducible refine br_false ?_ | with_reducible refine br_true' (by assumption) ?_ | with_reducible refine br_false' (by assumption) ?_ | with_reducible refine br_pre (by assumption) ?_ | (with_reducible refine br_intro (fun h => ?_) (fun h => ?_) <;> try exact absurd h (by decide)) | ((with_reducible apply drw_intro); · kernel_rfl))
          · refine doneA_plain rfl rfl rfl (show (_ : Bool) = _ from ?_)
            rename_i h
            have h : ¬(kid l i = kid m i ∧ kby l i = kby m i) := by
              rintro ⟨e1, e2⟩
              simp [e1, e2] at h
            have : l ≠ m := fun e => h ((take_step hlt hlm hc).1 (by rw [e]))
            simp [kSame, this]
          · rename_i h
            have h : kid l i = kid m i ∧ kby l i = kby m i := by
              simpa using h
            refine ⟨i + 1, ⟨⟨hlt, (take_step hlt hlm hc).2 h⟩, ?_⟩, ⟨⟨rfl, rfl, rfl⟩, ?_, ?_⟩⟩
            · show l.length - (i + 1) < l.length - i
              omega
            · refine ⟨(show IntKind.i64.wrap ((i : Int) + 1) = ((i + 1 : Nat) : Int) from ?_), rfl, rfl, rfl, trivial⟩
              rw [wrap_i64 (by omega) (by omega)]
              omega
            · repeat' (first | rfl | exact True.intro | refine And.intro ?_ ?_)
        · have d0 : decide ((i : Int) < ((Gh.len (G.k l) : Nat) : Int)) = false := by simp [Gh.len]; omega
          repeat' ((conv => whnf); first | with_reducible refine br_pre rfl ?_ | with_reducible refine br_true ?_ | with_reducible refine br_false ?_ | with_reducible refine br_true' (by assumption) ?_ | with_reducible refine br_false' (by assumption) ?_ | with_reducible refine br_pre (by assumption) ?_ | (with_reducible refine br_intro (fun h => ?_) (fun h => ?_) <;> try exact absurd h (by decide)) | ((with_reducible apply drw_intro); · kernel_rfl))
          refine doneA_plain rfl rfl rfl (show (_ : Bool) = _ from ?_)
          have : l = m := by
            rw [List.take_of_length_le (by omega), List.take_of_length_le (by omega)] at hc
            exact hc
          simp [kSame, this]
    · cases h
  · cases h
end Go.Proofs.Ytcjiokiafdagdaa
