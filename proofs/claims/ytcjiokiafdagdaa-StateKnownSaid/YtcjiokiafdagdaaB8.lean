/- The State laws: a map of numbers as a list. -/
import Derived.Test.YtcjiokiafdagdaaB7
import Derived.WalkSmall
namespace Go.Proofs.Ytcjiokiafdagdaa
open Go.Sx Go.RowKit Go.Maps Go.Sort
set_option linter.unusedVariables false
set_option linter.unusedSimpArgs false
def kcells (l : List (Int × Int)) : List Value := l.flatMap fun x => [.int .i64 x.1, .int .i64 x.2]
theorem kcells_snoc (l : List (Int × Int)) (x : Int × Int) : kcells (l ++ [x]) = kcells l ++ [.int .i64 x.1, .int .i64 x.2] := by simp [kcells]
theorem kcells_get : ∀ (l : List (Int × Int)) (i : Nat), i < l.length → (kcells l)[i * 2]? = some (.int .i64 (kid l i)) ∧ (kcells l)[i * 2 + 1]? = some (.int .i64 (kby l i))
  | [], i, h => by cases h
  | x :: r, 0, _ => by simp [kcells, kid, kby]
  | x :: r, i + 1, h => by
    have := kcells_get r i (by simpa using h)
    rw [show (i + 1) * 2 = i * 2 + 1 + 1 from by omega]
    simpa [kcells, kid, kby] using this
theorem info52 : (Try.prog.info? 52).map (fun i => (i.zero, i.size, i.bytes)) = some (some (.agg #[.int .i64 0, .int .i64 0]), 2, 16) := by kernel_rfl
theorem zero3 (w : World) : (zeroValue 3).run Try.prog w = .ok (.int .i64 0) w := by kernel_rfl
theorem intKeys_dmap {H : Type} (l : List (Int × Int)) : intKeys (dmap l : DataW H) = l.map (·.1) := by
  simp [intKeys, dmap, ent, kl, intOfL, Function.comp_def]
theorem size_dmap {H : Type} (l : List (Int × Int)) : Maps.size (dmap l : DataW H) = l.length := by simp [dmap, Maps.size]
theorem sorted_keys {l : List (Int × Int)} (hr : Ris l) {ss : List Int} (hp : ss.Perm (l.map (·.1))) : ss.mergeSort (fun x y => decide (x ≤ y)) = l.map (·.1) := by
  have h1 : (ss.mergeSort (fun x y => decide (x ≤ y))).Perm (l.map (·.1)) := (List.mergeSort_perm _ _).trans hp
  have h2 : (ss.mergeSort (fun x y => decide (x ≤ y))).Pairwise (fun x y => (decide (x ≤ y)) = true) := List.pairwise_mergeSort (fun a b c h1 h2 => by simp at *; omega) (fun a b => by simp; omega) _
  have h3 : (l.map (·.1)).Pairwise (fun x y => (decide (x ≤ y)) = true) := by
    rw [List.pairwise_map]
    exact hr.imp fun {a b} h => by simp; omega
  exact h1.eq_of_pairwise (fun a b _ _ h4 h5 => by simp at h4 h5; omega) h2 h3
theorem kBytes_at {l : List (Int × Int)} (hr : Ris l) : ∀ {i : Nat}, i < l.length → kBytes (kid l i) l = kby l i := by
  induction l with
  | nil => intro i h; cases h
  | cons x r ih =>
    intro i h
    cases i with
    | zero => simp [kBytes, kid, kby]
    | succ i =>
      have h' : i < r.length := by simpa using h
      have hlt : x.1 < kid r i := (List.pairwise_cons.1 hr).1 _ (kid_mem h')
      have e1 : kid (x :: r) (i + 1) = kid r i := by simp [kid]
      have e2 : kby (x :: r) (i + 1) = kby r i := by simp [kby]
      rw [e1, e2, kBytes, if_neg (by omega)]
      exact ih (List.pairwise_cons.1 hr).2 h'
theorem any_at {l : List (Int × Int)} {i : Nat} (h : i < l.length) : l.any (fun x => decide (x.1 = kid l i)) = true := by
  rw [List.any_eq_true]
  exact ⟨_, kid_mem h, by simp⟩
/-- What comes of maps.Keys and slices.Sorted at a map that is a sorted list. -/
theorem sorted77 {l : List (Int × Int)} {b n : Nat} {w : World} (hr : Ris l) (hlen : l.length ≤ 257) (hown : w.ownsMap (H := Unit) Try.prog 3 (plainElem Try.prog 3) b n (dmap l)) :
    Calls Try.prog 77 #[.func (.func 81) #[] #[.pointer (some ⟨w.heap.size, 0, none⟩)]] (w.alloc (.cells #[.map (some b)] 92)) fun e w' => ∃ v, e = .returned v ∧
      w'.ownsRow (w.alloc (.cells #[.map (some b)] 92)).heap.size 3 1 v l.length ((l.map (·.1)).map encI) ∧ Below (w.alloc (.cells #[.map (some b)] 92)).heap.size (w.alloc (.cells #[.map (some b)] 92)) w' := by
  have hbl := hown.lt
  have hseq := ki_keys_gives Fence.wide 2 trivial rfl (by omega) w.heap.size b n (dmap l : DataW Unit) (w.alloc (.cells #[.map (some b)] 92)) (by simp) (by simp) (hown.alloc _)
  rw [size_dmap, intKeys_dmap] at hseq
  refine (ki_sorted 81 _ (enters_of (fn := Try.f81) Try.func81 rfl rfl) _ _ (by unfold maxLen; omega) (by omega) _ hseq).mono ?_
  rintro e w' ⟨v, ss, rfl, hS, hrow, _, hb⟩
  have hl : ss.length = l.length := by rw [hS.length_eq, List.length_map]
  rw [sorted_keys hr hS, hl] at hrow
  exact ⟨v, rfl, hrow, hb⟩
theorem keys78 (b : Nat) (w : World) : Calls Try.prog 78 #[.map (some b)] w fun e w' => e = .returned (.func (.func 81) #[] #[.pointer (some ⟨w.heap.size, 0, none⟩)]) ∧ w' = w.alloc (.cells #[.map (some b)] 92) :=
  (callsIn_wide (n := 5)).1 (ki_keys_in Fence.wide 5 trivial rfl (some b) w)
/-- Two rows of cells of two types lie in two blocks. -/
theorem rows_apart {w : World} {b1 b2 : Nat} {e1 e2 s1 s2 n1 n2 : Nat} {v1 v2 : Value} {x1 x2 : List Value} (h1 : w.ownsRow b1 e1 s1 v1 n1 x1) (h2 : w.ownsRow b2 e2 s2 v2 n2 x2) (he : e1 ≠ e2) : v1.ownBlock = none ∨ v1.ownBlock ≠ v2.ownBlock := by
  rcases h1.2 with ⟨rfl, _⟩ | ⟨g1, c1, u1, rfl, _, hg1, _⟩
  · exact .inl rfl
  · rcases h2.2 with ⟨rfl, _⟩ | ⟨g2, c2, u2, rfl, _, hg2, _⟩
    · exact .inr (by simp [Value.ownBlock])
    · refine .inr fun e => ?_
      have : g1 = g2 := by simpa [Value.ownBlock] using e
      subst this
      rw [hg1] at hg2
      injection hg2 with hg2
      injection hg2 with _ h3
      exact he h3
theorem row_ne {w : World} {b2 g k : Nat} {v : Value} {x : List Value} {cur : Array Value} (h : w.ownsRow b2 52 2 v k x) (hg : w.heap[g]? = some (.cells cur 3 (0, 0))) : some g ≠ v.ownBlock := by
  rcases h.2 with ⟨rfl, _⟩ | ⟨g2, c2, u2, rfl, _, hg2, _⟩
  · simp [Value.ownBlock]
  · intro e
    have : g = g2 := by simpa [Value.ownBlock] using e
    subst this
    rw [hg2] at hg
    injection hg with hg
    injection hg with _ h3
    cases h3
theorem map_apart {w : World} {b e s n m : Nat} {b2 : Nat} {v : Value} {x : List Value} {k : TypeId} {R : Value → Option (DataW Unit × List MemPlace)} {D : DataW Unit} (h1 : w.ownsMap Try.prog k R b n D) (h2 : w.ownsRow b2 e s v m x) : some b ≠ v.ownBlock := by
  obtain ⟨es, clock, hb, _⟩ := h1
  rcases h2.2 with ⟨rfl, _⟩ | ⟨g2, c2, u2, rfl, _, hg2, _⟩
  · simp [Value.ownBlock]
  · intro e
    have : b = g2 := by simpa [Value.ownBlock] using e
    subst this
    rw [hg2] at hb
    cases hb
set_option maxHeartbeats 2000000 in
theorem list73 (l : List (Int × Int)) (b n : Nat) (w : World) (hr : Ris l) (hlen : l.length ≤ 257) (hx : ∀ x ∈ l, 0 ≤ x.1 ∧ x.1 ≤ 256 ∧ 1 ≤ x.2 ∧ x.2 ≤ 2048) (hown : w.ownsMap (H := Unit) Try.prog 3 (plainElem Try.prog 3) b n (dmap l)) :
    Calls Try.prog 73 #[.map (some b)] w fun e w' => ∃ v, e = .returned v ∧ w'.ownsRow w.heap.size 52 2 v l.length (kcells l) ∧ Below w.heap.size w w' := by
  have c77 := sorted77 hr hlen hown
  have hb0 : Below w.heap.size w (w.alloc (.cells #[.map (some b)] 92)) := (Below.refl _ _).alloc (Nat.le_refl _) _
  obtain ⟨i0, hi, hz0, hz1, hz2⟩ := info_parts info52
  have hown0 := hown.alloc (.cells #[.map (some b)] 92)
  have hbl := hown.lt
  have HI := Lib.hid hi
  have HZ0 := Lib.hid hz0
  have HZ1 := Lib.hid hz1
  have HZ2 := Lib.hid hz2
  clear hi hz0 hz1 hz2
  go_enter Try.func73, Try.ntmps73
  go_wp2_with fail
  go_at_call 78
  refine (keys78 b _).mono ?_
  rintro e w' ⟨rfl, rfl⟩
  go_wp2_with fail
  go_at_call 77
  refine c77.mono ?_
  rintro e w1 ⟨v, rfl, hkr, hb1⟩
  have hb2 : Below w.heap.size w w1 := hb0.trans (hb1.mono hb0.size)
  have hown1 : w1.ownsMap (H := Unit) Try.prog 3 (plainElem Try.prog 3) b n (dmap l) := by
    obtain ⟨es, clock, h1, h2⟩ := hown
    exact ⟨es, clock, (hb2.block b hbl).trans h1, h2⟩
  clear c77 hb1 hb0 hown0
  rcases hkr.2 with ⟨rfl, h0⟩ | ⟨g, cap, cur, rfl, hbase, hgb, r1, r2, r3, r4⟩
  · have hl : l = [] := List.eq_nil_of_length_eq_zero h0
    subst hl
    clear hkr h0
    go_wp2
    go_loopw [3, 10] (fun o i wr => o = .slice none 0 0 ∧ i = .int .i64 0 ∧ wr = w1) (fun _ _ _ => 0)
    case atStart => exact ⟨rfl, rfl, rfl⟩
    case round =>
      obtain ⟨rfl, rfl, rfl⟩ := hrel
      go_wp2
      go_ret
      exact ⟨_, rfl, ⟨rfl, .inl ⟨rfl, rfl⟩⟩, hb2⟩
  · have hcur : ∀ i, i < l.length → cur[i]? = some (.int .i64 (kid l i)) := by
      intro i hi
      have := World.ownsRow.cells hkr (g := g) rfl i (.int .i64 (kid l i)) (by simp [kid, hi])
      rw [addr_add, Nat.zero_add, cell_at hgb] at this
      exact this
    clear hkr r1 r2 r3 r4
    simp only [World.size_alloc] at hbase
    go_wp2
    go_loopw [3, 10] (fun o i wr => ∃ k : Nat, k ≤ l.length ∧ i = .int .i64 k ∧ wr.ownsRow w.heap.size 52 2 o k (kcells (l.take k)) ∧ wr.heap[g]? = some (.cells cur 3 (0, 0)) ∧ wr.ownsMap (H := Unit) Try.prog 3 (plainElem Try.prog 3) b n (dmap l) ∧ Below w.heap.size w wr) (fun _ i _ => l.length - (intOf i).toNat)
    case atStart => exact ⟨0, Nat.zero_le _, rfl, ⟨rfl, .inl ⟨rfl, rfl⟩⟩, hgb, hown1, hb2⟩
    case round =>
      obtain ⟨k, hkl, rfl, hrow, hg, hm, hb⟩ := hrel
      by_cases hlt : k < l.length
      · have hc : wr.cell? ⟨g, k, none⟩ = some (.int .i64 (kid l k)) := (cell_at hg).trans (hcur k hlt)
        have hbd := hx _ (kid_mem hlt)
        have HKEY : keyOf Try.prog 3 (.int .i64 (kid l k)) = some (kl (kid l k)) := keyOf_int_mk Try.underlying3 (wf64 (by omega) (by omega))
        have HG := Lib.hid hg
        have HB := Lib.hid hgb
        clear hg hgb
        go_wp2_with (first
          | (at_lookup; refine wpList_lookup_own_int _ rfl _ _ 92 rfl 3 3 .i64 (int_keyed Try.underlying3) Try.underlying92 Try.underlying3 (zero3 _) b n _ rfl hm _ _ rfl HKEY ?_; intro c hat hwc; obtain rfl : kby l k = c := by (rw [at_dmap, if_pos (any_at hlt), kBytes_at hr hlt] at hat; simpa [nd] using hat))
          | (at_builtin; refine wpList_append_own _ rfl _ _ 29 rfl w.heap.size 52 i0 (.agg #[.int .i64 0, .int .i64 0]) 2 16 Try.underlying29 HI.out HZ0.out HZ1.out HZ2.out rfl (by decide) _ k _ rfl (hrow.alloc _) ⟨wr.heap.size, 0, none⟩ 1 1 [.int .i64 (kid l k), .int .i64 (kby l k)] rfl rfl (cell_two_new _ _ _ _) (by simp [Value.oneCell']) (by unfold maxLen; omega) (by omega) (by have := hb.size; simp; omega) ?_; intro v' w3 hrow3 hg3 hnil3)
          | go_in)
        have hg3 : (wr.alloc (.cells #[.int .i64 (kid l k), .int .i64 (kby l k)] 52)).grownBy w3 u3.ownBlock := hg3
        have hw : (wr.alloc (.cells #[.int .i64 (kid l k), .int .i64 (kby l k)] 52)).heap[g]? = some (.cells cur 3 (0, 0)) := (Below.heap_alloc _ _ g (Array.getElem?_eq_some_iff.1 HG.out).1).trans HG.out
        have hg4 : w3.heap[g]? = some (.cells cur 3 (0, 0)) := (hg3.block g (Array.getElem?_eq_some_iff.1 hw).1 (row_ne (hrow.alloc _) hw)).trans hw
        have hm4 : w3.ownsMap (H := Unit) Try.prog 3 (plainElem Try.prog 3) b n (dmap l) := (hm.alloc _).kept hg3 (map_apart hm hrow)
        have hb4 : Below w.heap.size w w3 := (hb.alloc hb.size _).grown hg3 (by have := hb.size; simp; omega) (fun j e => (hrow.lt j e).1)
        go_roundw
        case rel => exact ⟨k + 1, hlt, by go_num, by rw [take_kid hlt, kcells_snoc]; exact hrow3, hg4, hm4, hb4⟩
        case measure => simp [intOf]; omega
      · have hke : k = l.length := by omega
        subst hke
        rw [List.take_length] at hrow
        go_wp2
        go_ret
        exact ⟨_, rfl, hrow, hb⟩
end Go.Proofs.Ytcjiokiafdagdaa
