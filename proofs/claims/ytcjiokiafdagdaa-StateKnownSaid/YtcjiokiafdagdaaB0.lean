/- The State laws: what is told of memory; the small functions. -/
import Derived.Test.YtcjiokiafdagdaaSxQ
import Derived.Test.YtcjiokiafdagdaaChecked
namespace Go.Proofs.Ytcjiokiafdagdaa
open Go.Sx Go.RowKit
set_option linter.unusedVariables false
set_option linter.unusedSimpArgs false
set_option maxRecDepth 100000
/-- Rows: what is known of pointers (numbers, bytes); numbers. -/
inductive G where
  | k (l : List (Int × Int))
  | u (l : List Int)
def kid (l : List (Int × Int)) (i : Nat) : Int := (l.getD i (0, 0)).1
def kby (l : List (Int × Int)) (i : Nat) : Int := (l.getD i (0, 0)).2
def uat (l : List Int) (i : Nat) : Int := l.getD i 0
instance : Gh G where
  len
    | .k l => l.length
    | .u l => l.length
  sz
    | .k _ => 2
    | .u _ => 1
  row
    | .k l, i => [.v (.int .i64 (kid l i)), .v (.int .i64 (kby l i))]
    | .u l, i => [.v (.int .u64 (uat l i))]
  row_len g i := by cases g <;> rfl
  row_one g i c h := by
    cases g with
    | k l =>
      simp only [List.mem_cons, List.not_mem_nil, or_false] at h
      rcases h with rfl | rfl
      · exact ⟨_, rfl, rfl⟩
      · exact ⟨_, rfl, rfl⟩
    | u l =>
      simp only [List.mem_cons, List.not_mem_nil, or_false] at h
      subst h
      exact ⟨_, rfl, rfl⟩
def parseK : Nat → List SC → Option (List (Int × Int))
  | 0, _ => some []
  | n + 1, .v (.int .i64 a) :: .v (.int .i64 b) :: r => match parseK n r with
    | some l => some ((a, b) :: l)
    | none => none
  | _, _ => none
def parseU : Nat → List SC → Option (List Int)
  | 0, _ => some []
  | n + 1, .v (.int .u64 a) :: r => match parseU n r with
    | some l => some (a :: l)
    | none => none
  | _, _ => none
theorem parseK_ok : ∀ {n : Nat} {cs : List SC} {l : List (Int × Int)}, parseK n cs = some l → l.length = n ∧ ∀ i, i < n → (cs.drop (i * 2)).take 2 = [.v (.int .i64 (kid l i)), .v (.int .i64 (kby l i))]
  | 0, cs, l, h => by
    simp only [parseK] at h
    injection h with h
    subst h
    exact ⟨rfl, fun i hi => by omega⟩
  | n + 1, cs, l, h => by
    unfold parseK at h
    split at h
    · rename_i h0; cases h0
    · rename_i x1 m a b r hm
      injection hm with hm
      subst hm
      split at h
      · rename_i l' hl
        injection h with h
        subst h
        obtain ⟨h1, h2⟩ := parseK_ok hl
        refine ⟨by simp [h1], fun i hi => ?_⟩
        cases i with
        | zero => simp [kid, kby]
        | succ i =>
          have := h2 i (by omega)
          rw [show (i + 1) * 2 = i * 2 + 1 + 1 from by omega, List.drop_succ_cons, List.drop_succ_cons, this]
          simp [kid, kby]
      · cases h
    · cases h
theorem parseU_ok : ∀ {n : Nat} {cs : List SC} {l : List Int}, parseU n cs = some l → l.length = n ∧ ∀ i, i < n → (cs.drop (i * 1)).take 1 = [.v (.int .u64 (uat l i))]
  | 0, cs, l, h => by
    simp only [parseU] at h
    injection h with h
    subst h
    exact ⟨rfl, fun i hi => by omega⟩
  | n + 1, cs, l, h => by
    unfold parseU at h
    split at h
    · rename_i h0; cases h0
    · rename_i x1 m a r hm
      injection hm with hm
      subst hm
      split at h
      · rename_i l' hl
        injection h with h
        subst h
        obtain ⟨h1, h2⟩ := parseU_ok hl
        refine ⟨by simp [h1], fun i hi => ?_⟩
        cases i with
        | zero => simp [uat]
        | succ i =>
          have := h2 i (by omega)
          rw [show (i + 1) * 1 = i * 1 + 1 from by omega, List.drop_succ_cons, this]
          simp [uat]
      · cases h
    · cases h
instance : GhO G where
  ofC ty n cs := match Nat.beq ty 52 with
    | true => match parseK n cs with
      | some l => some (.k l)
      | none => none
    | false => match Nat.beq ty 22 with
      | true => match parseU n cs with
        | some l => some (.u l)
        | none => none
      | false => none
  ofC_ok ty n cs g h := by
    split at h
    · split at h
      · rename_i l hl
        injection h with h
        subst h
        obtain ⟨h1, h2⟩ := parseK_ok hl
        exact ⟨h1, fun i hi => (h2 i hi).symm⟩
      · cases h
    · split at h
      · split at h
        · rename_i l hl
          injection h with h
          subst h
          obtain ⟨h1, h2⟩ := parseU_ok hl
          exact ⟨h1, fun i hi => (h2 i hi).symm⟩
        · cases h
      · cases h
noncomputable abbrev P := Try.prog
theorem mixed : P.follows .mixedOrders = true := by kernel_rfl
def eqs : TypeId → Bool := fun t => match Nat.beq t 24 with
  | true => true
  | false => match Nat.beq t 26 with
    | true => true
    | false => match Nat.beq t 27 with
      | true => true
      | false => match Nat.beq t 28 with
        | true => true
        | false => Nat.beq t 52
theorem eqs_ok : EqOK P eqs := by
  refine eqOK_of ?_
  intro t ht
  unfold eqs at ht
  split at ht
  · rename_i h
    obtain rfl : t = 24 := Nat.eq_of_beq_eq_true h
    exact ⟨by kernel_rfl, by kernel_rfl, 2, by kernel_rfl⟩
  · split at ht
    · rename_i h
      obtain rfl : t = 26 := Nat.eq_of_beq_eq_true h
      exact ⟨by kernel_rfl, by kernel_rfl, 5, by kernel_rfl⟩
    · split at ht
      · rename_i h
        obtain rfl : t = 27 := Nat.eq_of_beq_eq_true h
        exact ⟨by kernel_rfl, by kernel_rfl, 50, by kernel_rfl⟩
      · split at ht
        · rename_i h
          obtain rfl : t = 28 := Nat.eq_of_beq_eq_true h
          exact ⟨by kernel_rfl, by kernel_rfl, 16, by kernel_rfl⟩
        · obtain rfl : t = 52 := Nat.eq_of_beq_eq_true ht
          exact ⟨by kernel_rfl, by kernel_rfl, 2, by kernel_rfl⟩
/-! ### Values -/
structure Sp where
  lo : Int
  hi : Int
structure Vl where
  k : Int
  lo : Int
  hi : Int
  id : Int
  off : Int
def ci (n : Int) : AC G := .v (.int .i64 n)
def boA (b : Bool) : AT G := .v (.c (.v (.bool b)))
def erA (n : Int) : AT G := .v (.c (.v (.int .i64 n)))
def spV (a b : Int) : AV G := .a [.v (.int .u64 a), .v (.int .u64 b)]
def vlV (x : Vl) : AV G := .a [.v (.int .u8 x.k), .v (.int .u64 x.lo), .v (.int .u64 x.hi), .v (.int .i64 x.id), .v (.int .i64 x.off)]
end Go.Proofs.Ytcjiokiafdagdaa
