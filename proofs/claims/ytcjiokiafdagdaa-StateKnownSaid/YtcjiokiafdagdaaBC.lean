/- The State laws: what makes lists, as contracts without numbers. -/
import Derived.Test.YtcjiokiafdagdaaBB
import Derived.WalkSpells
import Derived.Lib.SliceRun
namespace Go.Proofs.Ytcjiokiafdagdaa
open Go.Sx Go.RowKit Go.Maps Go.Sort
set_option linter.unusedVariables false
set_option linter.unusedSimpArgs false
set_option maxHeartbeats 1000000 in
theorem join52 {l m : List (Int × Int)} {v u : Value} {w : World} (h : RdC 0 w (.g (G.k l)) v) (h2 : RdC 0 w (.g (G.k m)) u) :
    Calls Try.prog 52 #[v, u] w fun e w' => ∃ x, e = .returned (.tuple #[x, .int .i64 (joinE l m)]) ∧ OwnK w.heap.size w' (joinR l m) x ∧ RowKit.Below w.heap.size w w' := by
  by_cases hk : kCheck l = 0
  · by_cases hkm : kCheck m = 0
    · have e1 : joinE l m = 0 := by simp [joinE, hk, hkm]
      have e2 : joinR l m = joinL l m := by simp [joinR, e1]
      rw [e1, e2]
      exact join52_go hk hkm h h2
    · have e1 : joinE l m = kCheck m := by simp [joinE, hk]
      have e2 : joinR l m = [] := by simp [joinR, e1, hkm]
      rw [e1, e2]
      have c72 := open72_ok hk h
      obtain ⟨n, hn⟩ : ∃ n, kCheck m = n := ⟨_, rfl⟩
      have hne : (n == 0) = false := by simpa [← hn] using hkm
      have hne' : (n != 0) = true := by simpa [← hn] using hkm
      rw [hn]
      have HN := Lib.hid hn
      clear hn e1 e2 hk
      go_enter Try.func52, Try.ntmps52
      go_wp2_with fail
      go_at_call 72
      refine c72.mono ?_
      rintro e w1 ⟨A, rfl, hA, hownA, hb1⟩
      have h2' : RdC 0 w1 (.g (G.k m)) u := by
        rcases rd_known h2 with ⟨rfl, ad, cap, rfl⟩ | ⟨b, off, cap, rfl, hr⟩
        · exact rd_nil
        · exact rd_mk (hr.below hb1)
      have c72b := open72_bad hkm h2'
      rw [HN.out] at c72b
      clear c72 h h2 h2' hownA hkm
      go_wp2_with fail
      go_at_call 72
      refine c72b.mono ?_
      rintro e w2 ⟨rfl, hb2⟩
      go_wp2
      go_ret2
      exact ⟨_, rfl, OwnK.nil, hb1.trans (hb2.mono hb1.size)⟩
  · have c72 := open72_bad hk h
    have e1 : joinE l m = kCheck l := by simp [joinE, hk]
    have e2 : joinR l m = [] := by simp [joinR, e1, hk]
    rw [e1, e2]
    obtain ⟨n, hn⟩ : ∃ n, kCheck l = n := ⟨_, rfl⟩
    rw [hn] at hk c72
    rw [hn]
    have hne : (n == 0) = false := by simpa using hk
    have hne' : (n != 0) = true := by simpa using hk
    clear hk hn h e1 e2 h2
    go_enter Try.func52, Try.ntmps52
    go_wp2_with fail
    go_at_call 72
    refine c72.mono ?_
    rintro e w1 ⟨rfl, hb1⟩
    go_wp2
    go_ret2
    exact ⟨_, rfl, OwnK.nil, hb1⟩
/-- The cells of a row that is read. -/
theorem rd_cells {l : List (Int × Int)} {b off : Nat} {w : World} (h : AtRow l b off w) : ∀ j u, (kcells l)[j]? = some u → w.cell? ((⟨b, off, none⟩ : Addr).add j) = some u := by
  intro j u hj
  have hl : (kcells l).length = l.length * 2 := by
    clear h hj
    induction l with
    | nil => rfl
    | cons x r ih => simp only [kcells, List.flatMap_cons, List.length_append, List.length_cons, List.length_nil] at ih ⊢; omega
  have hj' : j < l.length * 2 := by rw [← hl]; exact (List.getElem?_eq_some_iff.1 hj).1
  have hi : j / 2 < l.length := by omega
  obtain ⟨k0, k1⟩ := kcells_get l (j / 2) hi
  obtain ⟨c0, c1⟩ := h (j / 2) hi
  rw [addr_add]
  by_cases he : j % 2 = 0
  · have : j / 2 * 2 = j := by omega
    rw [this] at k0 c0
    rw [k0] at hj
    injection hj with hj
    rw [← hj]
    exact c0
  · have : j / 2 * 2 + 1 = j := by omega
    rw [this] at k1
    rw [Nat.add_assoc, this] at c1
    rw [k1] at hj
    injection hj with hj
    rw [← hj]
    exact c1
theorem kcells_len (l : List (Int × Int)) : (kcells l).length = l.length * 2 := by
  induction l with
  | nil => rfl
  | cons x r ih => simp only [kcells, List.flatMap_cons, List.length_append, List.length_cons, List.length_nil] at ih ⊢; omega
theorem kcells_one (l : List (Int × Int)) : ∀ u ∈ kcells l, u.oneCell' = true := by
  intro u hu
  simp only [kcells, List.mem_flatMap, List.mem_cons, List.not_mem_nil, or_false] at hu
  obtain ⟨x, _, rfl | rfl⟩ := hu <;> rfl
set_option maxHeartbeats 1000000 in
theorem clone56_some (l : List (Int × Int)) (ad : Addr) (cap : Nat) (w : World) (hl : l.length * 16 ≤ 140737488355328) (hc : ∀ (w' : World), RowKit.Below w.heap.size w w' → ∀ j u, (kcells l)[j]? = some u → w'.cell? (ad.add j) = some u) :
    Calls Try.prog 56 #[.slice (some ad) l.length cap] w fun e w' => ∃ x, e = .returned x ∧ OwnK w.heap.size w' l x ∧ RowKit.Below w.heap.size w w' := by
  obtain ⟨i0, hi, hz0, hz1, hz2⟩ := info_parts info52
  have HI := Lib.hid hi
  have HZ0 := Lib.hid hz0
  have HZ1 := Lib.hid hz1
  have HZ2 := Lib.hid hz2
  have HC := Lib.hid hc
  clear hi hz0 hz1 hz2 hc
  have heq := fun (w' : World) => Lib.run_eql_slice_nil (P := Try.prog) w' 29 52 (some ad) l.length cap 0 0 Try.underlying29
  simp only [Option.isNone] at heq
  have hkl := kcells_len l
  have hko := kcells_one l
  have HKL := Lib.hid hkl
  have HKO := Lib.hid hko
  clear hkl hko
  go_enter Try.func56, Try.ntmps56
  go_wp2_with (first
    | (at_builtin; refine wpList_append_own _ rfl _ _ 29 rfl w.heap.size 52 i0 (.agg #[.int .i64 0, .int .i64 0]) 2 16 Try.underlying29 HI.out HZ0.out HZ1.out HZ2.out rfl (by decide) _ 0 _ rfl (World.ownsRow_made _ #[] 0 (Nat.le_refl _) (by unfold maxLen; omega) rfl) ad l.length cap (kcells l) rfl HKL.out (HC.out _ ((RowKit.Below.refl _ _).alloc (Nat.le_refl _) _)) HKO.out (by unfold maxLen; omega) (by omega) (by simp) ?_; intro v' w3 hrow3 hg3 hnil3)
    | fail)
  simp only [Nat.zero_add, List.nil_append] at hrow3
  have hg3 : (w.alloc (.cells #[] 52)).grownBy w3 (some w.heap.size) := hg3
  have hb3 : RowKit.Below w.heap.size w w3 := ((RowKit.Below.refl _ _).alloc (Nat.le_refl _) _).grown hg3 (by simp) (fun j e => by cases e; exact Nat.le_refl _)
  go_ret
  exact ⟨_, rfl, hrow3, hb3⟩
theorem clone56_nil (cap : Nat) (w : World) : Calls Try.prog 56 #[.slice none 0 cap] w fun e w' => e = .returned (.slice none 0 0) ∧ RowKit.Below w.heap.size w w' := by
  have heq := fun (w' : World) => Lib.run_eql_slice_nil (P := Try.prog) w' 29 52 none 0 cap 0 0 Try.underlying29
  simp only [Option.isNone] at heq
  go_enter Try.func56, Try.ntmps56
  go_wp2
  go_ret
  exact ⟨rfl, RowKit.Below.refl _ _⟩
theorem clone56 {l : List (Int × Int)} {v : Value} {w : World} (hl : l.length * 16 ≤ 140737488355328) (h : RdC 0 w (.g (G.k l)) v) :
    Calls Try.prog 56 #[v] w fun e w' => ∃ x, e = .returned x ∧ OwnK w.heap.size w' l x ∧ RowKit.Below w.heap.size w w' := by
  rcases rd_known h with ⟨rfl, ad, cap, rfl⟩ | ⟨b, off, cap, rfl, hr⟩
  · cases ad with
    | none => exact (clone56_nil cap w).mono fun e w' h => ⟨_, h.1, OwnK.nil, h.2⟩
    | some ad => exact clone56_some [] ad cap w (by simp) (fun _ _ j u hj => by simp [kcells] at hj)
  · exact clone56_some l ⟨b, off, none⟩ cap w hl (fun w' hb => rd_cells (hr.below hb))
def join52T : List (AV G) → Option (Bool × AT G)
  | [.c x, .c y] => match knownOf x, knownOf y with
    | some l, some m => some (true, .t [.c (.g (.k (joinR l m))), .c (ci (joinE l m))])
    | _, _ => none
  | _ => none
theorem join52_ok : ∀ a r, join52T a = some (true, r) → AOK G P 52 a r := by
  intro args r h
  unfold join52T at h
  split at h
  · rename_i x y
    split at h
    · rename_i l m hl hm
      cases h
      refine aok_calls (enters_of (fn := Try.f52) Try.func52 rfl rfl) (fun w vs hv => ?_)
      match vs, hv with
      | [v, u], hv => exact (join52 (knownOf_rd hl hv.1) (knownOf_rd hm hv.2.1)).mono fun e w' ⟨x, h1, h2, h3⟩ => ⟨_, h1, ⟨[x, .int .i64 (joinE l m)], rfl, rd_of_own h2, ⟨rfl, rfl⟩, trivial⟩, h3⟩
    · cases h
  · cases h
def forget59T : List (AV G) → Option (Bool × AT G)
  | [.c x, .c (.v (.int .i64 id))] => match knownOf x with
    | some l => some (true, .t [.c (.g (.k (forgetR l id))), .c (ci (forgetE l id))])
    | none => none
  | _ => none
theorem forget59_ok : ∀ a r, forget59T a = some (true, r) → AOK G P 59 a r := by
  intro args r h
  unfold forget59T at h
  split at h
  · rename_i x id
    split at h
    · rename_i l hl
      cases h
      refine aok_calls (enters_of (fn := Try.f59) Try.func59 rfl rfl) (fun w vs hv => ?_)
      match vs, hv with
      | [v, u], hv =>
        obtain ⟨rfl, _⟩ := (hv.2.1 : u = .int .i64 id ∧ _)
        exact (forget59 id (knownOf_rd hl hv.1)).mono fun e w' ⟨x, h1, h2, h3⟩ => ⟨_, h1, ⟨[x, .int .i64 (forgetE l id)], rfl, rd_of_own h2, ⟨rfl, rfl⟩, trivial⟩, h3⟩
    · cases h
  · cases h
def clone56T : List (AV G) → Option (Bool × AT G)
  | [.c x] => match knownOf x with
    | some l => some (decide (l.length ≤ 257), .v (.c (.g (.k l))))
    | none => none
  | _ => none
theorem clone56_ok : ∀ a r, clone56T a = some (true, r) → AOK G P 56 a r := by
  intro args r h
  unfold clone56T at h
  split at h
  · rename_i x
    split at h
    · rename_i l hl
      injection h with h
      injection h with hpre h2
      subst h2
      have hpre := of_decide_eq_true hpre
      refine aok_calls (enters_of (fn := Try.f56) Try.func56 rfl rfl) (fun w vs hv => ?_)
      match vs, hv with
      | [v], hv => exact (clone56 (by omega) (knownOf_rd hl hv.1)).mono fun e w' ⟨x, h1, h2, h3⟩ => ⟨_, h1, rd_of_own h2, h3⟩
    · cases h
  · cases h
end Go.Proofs.Ytcjiokiafdagdaa
