/- The State laws: states as rows hand them in. -/
import Derived.Test.YtcjiokiafdagdaaBF
import Derived.Test.YtcjiokiafdagdaaSxR
import Derived.Test.YtcjiokiafdagdaaRows
import Derived.Deep.SlicePairs
import Derived.Deep.Strs
namespace Go.Proofs.Ytcjiokiafdagdaa
open Go.Sx Go.RowKit
set_option linter.unusedVariables false
set_option linter.unusedSimpArgs false
set_option maxRecDepth 100000
set_option maxHeartbeats 1000000
def ksSt : List IntKind := [.u8, .u64, .u64, .i64, .i64, .u8, .u64, .u64, .i64, .i64, .u8, .u64, .u64, .i64, .i64, .u8, .u64, .u64, .i64, .i64, .u8, .u64, .u64, .i64, .i64, .u8, .u64, .u64, .i64, .i64, .u8, .u64, .u64, .i64, .i64, .u8, .u64, .u64, .i64, .i64, .u8, .u64, .u64, .i64, .i64, .u8, .u64, .u64, .i64, .i64, .u64, .u64, .u64, .u64, .u64, .u64, .u64, .u64, .u64, .u64, .u64, .u64, .u64, .u64, .u64, .u64]
def stOf (f : Nat → Int) (l : List (Int × Int)) : Stt := ⟨⟨⟨f 0, f 1, f 2, f 3, f 4⟩, ⟨f 5, f 6, f 7, f 8, f 9⟩, ⟨f 10, f 11, f 12, f 13, f 14⟩, ⟨f 15, f 16, f 17, f 18, f 19⟩, ⟨f 20, f 21, f 22, f 23, f 24⟩, ⟨f 25, f 26, f 27, f 28, f 29⟩, ⟨f 30, f 31, f 32, f 33, f 34⟩, ⟨f 35, f 36, f 37, f 38, f 39⟩, ⟨f 40, f 41, f 42, f 43, f 44⟩, ⟨f 45, f 46, f 47, f 48, f 49⟩⟩, ⟨⟨f 50, f 51⟩, ⟨f 52, f 53⟩, ⟨f 54, f 55⟩, ⟨f 56, f 57⟩, ⟨f 58, f 59⟩, ⟨f 60, f 61⟩, ⟨f 62, f 63⟩, ⟨f 64, f 65⟩⟩, l⟩
def E0 : Env := ⟨fun _ => none, fun _ => 0, fun _ => 0⟩
/-- Integers at the front of a struct by value. -/
theorem front_ints {P : Program} {w : World} {base : Nat} {t : TypeId} {cs : Array Value} {ts : List TypeId} {ks : List IntKind} {n : Nat} (h : Row.okWide P w .any base t cs) (hn : cs.size = P.cellsOf t) (hc : P.cellsOf t = ks.length + n) (hts : P.cellTypes P.depth t = some ts) (hl : ts.length = ks.length + n) (hk : kindsOf P (ts.take ks.length) = some ks) :
    ∃ f : Nat → Int, cs.toList.take ks.length = (intsL ks 0 f).map (SC.den E0) ∧ ∀ (i : Nat) (k : IntKind), ks[i]? = some k → k.min ≤ f i ∧ f i ≤ k.max := by
  obtain ⟨ts', h1, _, h3⟩ := h
  rw [hts] at h1
  injection h1 with h1
  subst h1
  obtain ⟨hl', hg⟩ := kindsOf_get hk
  have key : ∀ (i : Nat) (k : IntKind), ks[i]? = some k → ∃ n, cs[i]? = some (.int k n) ∧ k.min ≤ n ∧ n ≤ k.max := by
    intro i k hi
    have hi' : i < ks.length := (List.getElem?_eq_some_iff.1 hi).1
    have hv : cs[i]? = some cs[i] := Array.getElem?_eq_getElem (by omega)
    obtain ⟨u, hu, ho⟩ := h3 i _ hv
    rw [Nat.mod_eq_of_lt (by omega)] at hu
    obtain ⟨k', hk', hku⟩ := hg i u (by rw [List.getElem?_take_of_lt hi']; exact hu)
    rw [hi] at hk'
    injection hk' with hk'
    subst hk'
    rw [hv]
    unfold Cell.okWide at ho
    rw [hku] at ho
    have ho : Cell.ok P w .any base u cs[i] := by
      revert ho
      cases cs[i] <;> exact id
    unfold Cell.ok at ho
    rw [hku] at ho
    revert ho
    cases cs[i] <;> dsimp only <;> intro ho <;> try exact ho.elim
    obtain ⟨rfl, ho⟩ := ho
    exact ⟨_, rfl, ho⟩
  refine ⟨fun i => intOf' (cs.getD i undef), ?_, fun i k hi => ?_⟩
  · apply List.ext_getElem?
    intro i
    rw [List.getElem?_map, intsL_get]
    cases hi : ks[i]? with
    | none =>
      have : ks.length ≤ i := List.getElem?_eq_none_iff.1 hi
      rw [List.getElem?_eq_none (by rw [List.length_take]; omega)]
      rfl
    | some k =>
      obtain ⟨n, h1, _⟩ := key i k hi
      have hi' : i < ks.length := (List.getElem?_eq_some_iff.1 hi).1
      rw [List.getElem?_take_of_lt hi', Array.getElem?_toList, h1]
      simp [SC.den, intOf', h1]
  · obtain ⟨n, h1, h2⟩ := key i k hi
    simp only [Array.getD_eq_getD_getElem?, h1, Option.getD_some, intOf']
    exact h2
/-- A list of what is known, read. -/
theorem known_of {H : Type} {enc : TypeId × Value → H} {w : World} {base fuel : Nat} {v : Value} {x : DataW H × List MemPlace} (h : DataW.trod enc Try.prog w base (fun _ => true) true fuel 29 [v] = some x) : ∃ l, RdC 0 w (.g (G.k l)) v := by
  rcases Go.Deep.open_slice_pairs (Try.underlying29) (Try.underlying52) (by kernel_rfl) rfl rfl (by kernel_rfl) (by kernel_rfl) h with ⟨h1, _⟩ | ⟨a, len, cap, m, n, V0, V1, D0, D1, P0, P1, h1, hb, hl, hc, hm, hx, hv⟩
  · injection h1 with h1
    exact ⟨[], none, 0, h1, fun i hi => absurd hi (Nat.not_lt_zero i), fun _ h => by cases h⟩
  · injection h1 with h1
    have hlm : len ≤ m := by rw [hm]; split <;> omega
    refine ⟨(List.range len).map fun i => (intOf' (V0 i), intOf' (V1 i)), some a, cap, ?_, ?_, fun _ _ => Nat.zero_le _⟩
    · rw [h1]
      simp [Gh.len]
    · intro i hi
      have hi : i < len := by simpa [Gh.len] using hi
      refine ⟨a, rfl, fun j c hj => ?_⟩
      obtain ⟨c0, c1, t0, t1⟩ := hv i (by omega)
      obtain ⟨n0, e0, _⟩ := DataW.trod_int (by kernel_rfl : Try.prog.underlying 3 = some (.int .i64)) t0
      obtain ⟨n1, e1, _⟩ := DataW.trod_int (by kernel_rfl : Try.prog.underlying 3 = some (.int .i64)) t1
      injection e0 with e0
      injection e1 with e1
      have k0 : kid ((List.range len).map fun i => (intOf' (V0 i), intOf' (V1 i))) i = n0 := by
        simp [kid, List.getD_eq_getElem?_getD, hi, e0, intOf']
      have k1 : kby ((List.range len).map fun i => (intOf' (V0 i), intOf' (V1 i))) i = n1 := by
        simp [kby, List.getD_eq_getElem?_getD, hi, e1, intOf']
      simp only [Gh.row, k0, k1] at hj
      have hsz : Gh.sz (G.k ((List.range len).map fun i => (intOf' (V0 i), intOf' (V1 i)))) = 2 := rfl
      rw [hsz]
      match j, hj with
      | 0, hj =>
        simp only [List.getElem?_cons_zero, Option.some.injEq, SC.v.injEq] at hj
        rw [← hj, ← e0]
        exact c0
      | 1, hj =>
        simp only [List.getElem?_cons_succ, List.getElem?_cons_zero, Option.some.injEq, SC.v.injEq] at hj
        rw [← hj, ← e1]
        exact c1
/-- A state that is handed in. -/
theorem st_of {H : Type} {enc : TypeId × Value → H} {w : World} {base : Nat} {v : Value} {d : DataW H} {p : List MemPlace} (h : Value.okWide Try.prog w .any base 31 v) (ht : DataW.Trod enc Try.prog w 0 (fun _ => true) true 31 v d p) :
    ∃ (f : Nat → Int) (l : List (Int × Int)), RdV 0 w (stV (stOf f l)) v ∧ ∀ (i : Nat) (k : IntKind), ksSt[i]? = some k → k.min ≤ f i ∧ f i ≤ k.max := by
  unfold Value.okWide at h
  rw [Try.underlying31] at h
  obtain ⟨cs, rfl, h1, h2⟩ := h
  obtain ⟨f, h3, h4⟩ := front_ints (ks := ksSt) (n := 1) h2 h1 (by kernel_rfl) (ts := [5, 22, 22, 3, 3, 5, 22, 22, 3, 3, 5, 22, 22, 3, 3, 5, 22, 22, 3, 3, 5, 22, 22, 3, 3, 5, 22, 22, 3, 3, 5, 22, 22, 3, 3, 5, 22, 22, 3, 3, 5, 22, 22, 3, 3, 5, 22, 22, 3, 3, 22, 22, 22, 22, 22, 22, 22, 22, 22, 22, 22, 22, 22, 22, 22, 22, 29]) (by kernel_rfl) (by kernel_rfl) (by kernel_rfl)
  obtain ⟨fuel, ht⟩ := ht
  obtain ⟨y0, y1, y2, n, _, hl, _, _, t2⟩ := Go.Deep.trod_struct3 Try.underlying31 ht
  have hl : cs.toList.length = 67 := hl
  obtain ⟨u, hd⟩ : ∃ u, cs.toList.drop 66 = [u] := ⟨cs.toList[66]'(by omega), by
    rw [List.drop_eq_getElem_cons (by omega), List.drop_of_length_le (by omega)]⟩
  have t2 : DataW.trod enc Try.prog w 0 (fun _ => true) true n 29 (List.take 1 (cs.toList.drop 66)) = some y2 := t2
  rw [hd] at t2
  obtain ⟨l, hk⟩ := known_of t2
  refine ⟨f, l, ⟨cs.toList, by simp, ?_⟩, h4⟩
  have e : cs.toList = (intsL ksSt 0 f).map (SC.den E0) ++ [u] := by
    conv => lhs; rw [← List.take_append_drop 66 cs.toList]
    rw [hd]
    exact congrArg (· ++ _) h3
  rw [e]
  repeat' (first | exact ⟨rfl, rfl⟩ | exact hk | exact trivial | refine And.intro ?_ ?_)
/-- An integer that is handed in. -/
theorem int_of {w : World} {base : Nat} {v : Value} (h : Value.okWide Try.prog w .any base 3 v) : ∃ n : Int, RdV (γ := G) 0 w (.c (ci n)) v := by
  have hu : Try.prog.underlying 3 = some (.int .i64) := by kernel_rfl
  unfold Value.okWide Cell.okWide at h
  rw [hu] at h
  have ho : Cell.ok Try.prog w .any base 3 v := by
    revert h
    cases v <;> exact id
  unfold Cell.ok at ho
  rw [hu] at ho
  revert ho
  cases v <;> dsimp only <;> intro ho <;> try exact ho.elim
  obtain ⟨rfl, ho⟩ := ho
  exact ⟨_, rfl, rfl⟩
end Go.Proofs.Ytcjiokiafdagdaa
