/- The State laws: track.Bytes, which looks by a closure. -/
import Derived.Test.YtcjiokiafdagdaaB2
import Derived.OwnWalk
import Derived.Outline
import Derived.Lib.Hide
namespace Go.Proofs.Ytcjiokiafdagdaa
open Go.Sx Go.RowKit
set_option linter.unusedVariables false
set_option linter.unusedSimpArgs false
def kIdx (id : Int) : List (Int × Int) → Nat → Int
  | [], _ => -1
  | x :: r, i => if x.1 = id then i else kIdx id r (i + 1)
theorem clos71 (x y id : Int) (c : Nat) (w : World) (hc : w.cell? ⟨c, 0, none⟩ = some (.int .i64 id)) (hlt : c < w.heap.size) :
    Calls Try.prog 71 #[.agg #[.int .i64 x, .int .i64 y], .pointer (some ⟨c, 0, none⟩)] w fun e w' => e = .returned (.bool (x == id)) ∧ Below w.heap.size w w' := by
  have hne : w.heap.size ≠ c := by omega
  go_enter Try.func71, Try.ntmps71
  go_wp2
  go_ret
  exact ⟨rfl, (Below.refl _ _).alloc (Nat.le_refl _) _⟩
theorem cell_lt {w : World} {b o : Nat} {v : Value} (h : w.cell? ⟨b, o, none⟩ = some v) : b < w.heap.size := by
  cases hb : w.heap[b]? with
  | none => simp [World.cell?, hb] at h
  | some x => exact (Array.getElem?_eq_some_iff.1 hb).1
/-- The row's cells in a world. -/
def AtRow (l : List (Int × Int)) (b off : Nat) (w : World) : Prop := ∀ i, i < l.length → w.cell? ⟨b, off + i * 2, none⟩ = some (.int .i64 (kid l i)) ∧ w.cell? ⟨b, off + i * 2 + 1, none⟩ = some (.int .i64 (kby l i))
theorem AtRow.below {l : List (Int × Int)} {b off : Nat} {w w' : World} (h : AtRow l b off w) (hb : Below w.heap.size w w') : AtRow l b off w' := by
  intro i hi
  obtain ⟨h1, h2⟩ := h i hi
  have hlt : b < w.heap.size := cell_lt h1
  exact ⟨(hb.cell (p := ⟨b, _, none⟩) hlt).trans h1, (hb.cell (p := ⟨b, _, none⟩) hlt).trans h2⟩
set_option maxHeartbeats 400000 in
theorem idx70 (l : List (Int × Int)) (b off cap c : Nat) (id : Int) (w : World) (hl : l.length ≤ 4611686018427387904) (hr : AtRow l b off w) (hc : w.cell? ⟨c, 0, none⟩ = some (.int .i64 id)) (hlt : c < w.heap.size) :
    Calls Try.prog 70 #[.slice (some ⟨b, off, none⟩) l.length cap, .func (.func 71) #[] #[.pointer (some ⟨c, 0, none⟩)]] w fun e w' => e = .returned (.int .i64 (kIdx id l 0)) ∧ Below w.heap.size w w' := by
  go_enter Try.func70, Try.ntmps70
  go_wp2
  go_loopw [8] (fun i wr => ∃ k : Nat, k ≤ l.length ∧ i = .int .i64 k ∧ kIdx id l 0 = kIdx id (l.drop k) k ∧ Below w.heap.size w wr) (fun i _ => l.length - (intOf i).toNat)
  case atStart => exact ⟨0, Nat.zero_le _, rfl, rfl, Below.refl _ _⟩
  case round =>
    obtain ⟨k, hk, rfl, hki, hb⟩ := hrel
    by_cases hlt2 : k < l.length
    · obtain ⟨h1, h2⟩ := hr.below hb k hlt2
      have hcc := (hb.cell (p := ⟨c, 0, none⟩) hlt).trans hc
      have hcl := Nat.lt_of_lt_of_le hlt hb.size
      rw [drop_kid hlt2] at hki
      simp only [kIdx] at hki
      have HK := Lib.hid hki
      clear hki
      by_cases he : kid l k = id
      · have h3 : (kid l k == id) = true := by simp [he]
        have HE := Lib.hid he
        clear he
        go_wp2_with (go_at_call 71; refine (clos71 _ _ id c _ hcc hcl).mono ?_; rintro e w' ⟨rfl, hb2⟩)
        go_ret
        exact ⟨by rw [HK.out, if_pos HE.out]; rfl, hb.trans (hb2.mono hb.size)⟩
      · have h3 : (kid l k == id) = false := by simp [he]
        have HE := Lib.hid he
        clear he
        go_wp2_with (go_at_call 71; refine (clos71 _ _ id c _ hcc hcl).mono ?_; rintro e w' ⟨rfl, hb2⟩)
        go_roundw
        case rel => exact ⟨k + 1, hlt2, by go_num, by rw [HK.out, if_neg HE.out], hb.trans (hb2.mono hb.size)⟩
        case measure => simp [intOf]; omega
    · have HK := Lib.hid hki
      clear hki
      go_wp2
      go_ret
      exact ⟨by rw [HK.out, List.drop_of_length_le (by omega)]; rfl, hb⟩
def kBytes (id : Int) : List (Int × Int) → Int
  | [] => 0
  | x :: r => if x.1 = id then x.2 else kBytes id r
theorem kIdx_spec (id : Int) : ∀ (l : List (Int × Int)) (i : Nat), (kIdx id l i = -1 ∧ kBytes id l = 0) ∨ ∃ k, k < l.length ∧ kIdx id l i = ((i + k : Nat) : Int) ∧ kBytes id l = kby l k
  | [], i => .inl ⟨rfl, rfl⟩
  | x :: r, i => by
    by_cases h : x.1 = id
    · exact .inr ⟨0, by simp, by simp [kIdx, h], by simp [kBytes, h, kby]⟩
    · rcases kIdx_spec id r (i + 1) with ⟨h1, h2⟩ | ⟨k, h1, h2, h3⟩
      · exact .inl ⟨by simp [kIdx, h, h1], by simp [kBytes, h, h2]⟩
      · exact .inr ⟨k + 1, by simp; omega, by simp only [kIdx, if_neg h, h2]; congr 1; omega, by simp [kBytes, h, h3, kby]⟩
set_option maxHeartbeats 400000 in
theorem bytes46 (l : List (Int × Int)) (b off cap : Nat) (id : Int) (w : World) (hl : l.length ≤ 4611686018427387904) (hr : AtRow l b off w) :
    Calls Try.prog 46 #[.slice (some ⟨b, off, none⟩) l.length cap, .int .i64 id] w fun e w' => e = .returned (.int .i64 (kBytes id l)) ∧ Below w.heap.size w w' := by
  have hr2 : AtRow l b off (w.alloc (.cells #[.int .i64 id] 3)) := hr.below ((Below.refl _ _).alloc (Nat.le_refl _) _)
  have key := idx70 l b off cap w.heap.size id (w.alloc (.cells #[.int .i64 id] 3)) hl hr2 (by simp) (by simp)
  have hb0 : Below w.heap.size w (w.alloc (.cells #[.int .i64 id] 3)) := (Below.refl _ _).alloc (Nat.le_refl _) _
  rcases kIdx_spec id l 0 with ⟨h1, h2⟩ | ⟨k, h1, h2, h3⟩
  · rw [h2]
    rw [h1] at key
    go_enter Try.func46, Try.ntmps46
    go_wp2_with (go_at_call 70; refine key.mono ?_; rintro e w' ⟨rfl, hb2⟩)
    go_ret
    exact ⟨rfl, hb0.trans (hb2.mono hb0.size)⟩
  · rw [h3]
    rw [Nat.zero_add] at h2
    rw [h2] at key
    go_enter Try.func46, Try.ntmps46
    go_wp2_with (go_at_call 70; refine key.mono ?_; rintro e w' ⟨rfl, hb2⟩; obtain ⟨g1, g2⟩ := (hr2.below hb2) k h1)
    go_ret
    exact ⟨rfl, hb0.trans (hb2.mono hb0.size)⟩
theorem idx70_nil (ad : Option Addr) (cap : Nat) (fv : Value) (w : World) : Calls Try.prog 70 #[.slice ad 0 cap, fv] w fun e w' => e = .returned (.int .i64 (-1)) ∧ Below w.heap.size w w' := by
  go_enter Try.func70, Try.ntmps70
  go_wp2
  go_loopw [8] (fun i wr => i = .int .i64 0 ∧ wr = w) (fun _ _ => 0)
  case atStart => exact ⟨rfl, rfl⟩
  case round =>
    obtain ⟨rfl, rfl⟩ := hrel
    go_wp2
    go_ret
    exact ⟨rfl, Below.refl _ _⟩
theorem bytes46_nil (ad : Option Addr) (cap : Nat) (id : Int) (w : World) : Calls Try.prog 46 #[.slice ad 0 cap, .int .i64 id] w fun e w' => e = .returned (.int .i64 0) ∧ Below w.heap.size w w' := by
  have key := idx70_nil ad cap (.func (.func 71) #[] #[.pointer (some ⟨w.heap.size, 0, none⟩)]) (w.alloc (.cells #[.int .i64 id] 3))
  have hb0 : Below w.heap.size w (w.alloc (.cells #[.int .i64 id] 3)) := (Below.refl _ _).alloc (Nat.le_refl _) _
  go_enter Try.func46, Try.ntmps46
  go_wp2_with (go_at_call 70; refine key.mono ?_; rintro e w' ⟨rfl, hb2⟩)
  go_ret
  exact ⟨rfl, hb0.trans (hb2.mono hb0.size)⟩
/-- A list in memory. -/
theorem rd_known {base : Nat} {w : World} {l : List (Int × Int)} {v : Value} (h : RdC base w (.g (G.k l)) v) : (l = [] ∧ ∃ ad cap, v = .slice ad 0 cap) ∨ ∃ b off cap, v = .slice (some ⟨b, off, none⟩) l.length cap ∧ AtRow l b off w := by
  obtain ⟨ad, cap, rfl, h1, _⟩ := h
  have hlen : Gh.len (G.k l) = l.length := rfl
  by_cases hl : l = []
  · subst hl
    exact .inl ⟨rfl, ad, cap, rfl⟩
  · have h0 : 0 < l.length := List.length_pos_iff.2 hl
    obtain ⟨⟨b, off, spot⟩, rfl, h2⟩ := h1 0 h0
    have hs : spot = none := by
      have := h2 0 (.int .i64 (kid l 0)) rfl
      simpa [Addr.add] using World.cell?_spot this
    subst hs
    refine .inr ⟨b, off, cap, rfl, fun i hi => ?_⟩
    obtain ⟨a, ha, h3⟩ := h1 i hi
    injection ha with ha
    subst ha
    have e0 := h3 0 (.int .i64 (kid l i)) rfl
    have e1 := h3 1 (.int .i64 (kby l i)) rfl
    have hsz : Gh.sz (G.k l) = 2 := rfl
    rw [addr_add, hsz] at e0 e1
    exact ⟨e0, by rw [Nat.add_assoc]; exact e1⟩
def bytes46T : List (AV G) → Option (Bool × AT G)
  | [.c x, .c (.v (.int .i64 id))] => match knownOf x with
    | some l => some (decide (l.length ≤ 4611686018427387904), erA (kBytes id l))
    | none => none
  | _ => none
theorem bytes46_ok : ∀ a r, bytes46T a = some (true, r) → AOK G P 46 a r := by
  intro args r h
  unfold bytes46T at h
  split at h
  · rename_i x id
    split at h
    · rename_i l hl
      injection h with h
      injection h with hpre h2
      subst h2
      have hpre := of_decide_eq_true hpre
      refine aok_calls (enters_of (fn := Try.f46) Try.func46 rfl rfl) (fun w vs hv => ?_)
      match vs, hv with
      | [v, u], hv =>
        obtain ⟨h1, h2, _⟩ := hv
        obtain ⟨rfl, _⟩ := (h2 : u = .int .i64 id ∧ _)
        rcases rd_known (knownOf_rd hl h1) with ⟨rfl, ad, cap, rfl⟩ | ⟨b, off, cap, rfl, hr⟩
        · exact (bytes46_nil ad cap id w).mono fun e w' h => ⟨_, h.1, ⟨rfl, rfl⟩, h.2⟩
        · exact (bytes46 l b off cap id w hpre hr).mono fun e w' h => ⟨_, h.1, ⟨rfl, rfl⟩, h.2⟩
    · cases h
  · cases h
end Go.Proofs.Ytcjiokiafdagdaa
