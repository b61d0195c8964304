/- The State laws: track.Forget, track.Join, slices.Clone. -/
import Derived.Test.YtcjiokiafdagdaaB8
namespace Go.Proofs.Ytcjiokiafdagdaa
open Go.Sx Go.RowKit Go.Maps Go.Sort
set_option linter.unusedVariables false
set_option linter.unusedSimpArgs false
/-- A new row of what is known. -/
def OwnK (base : Nat) (w : World) (l : List (Int × Int)) (v : Value) : Prop := w.ownsRow base 52 2 v l.length (kcells l)
theorem rd_of_own {base : Nat} {w : World} {l : List (Int × Int)} {v : Value} (h : OwnK base w l v) : RdC base w (.g (G.k l)) v := by
  have h' : w.ownsRow base 52 2 v l.length (kcells l) := h
  rcases h'.2 with ⟨rfl, h0⟩ | ⟨g, cap, cur, rfl, hb, hg, _⟩
  · have : l = [] := List.eq_nil_of_length_eq_zero h0
    subst this
    exact ⟨none, 0, rfl, fun i hi => absurd hi (Nat.not_lt_zero i), fun _ h => by cases h⟩
  · refine ⟨some ⟨g, 0, none⟩, cap, rfl, fun i hi => ⟨_, rfl, fun j c hc => ?_⟩, fun a ha => by injection ha with ha; subst ha; exact hb⟩
    have hsz : Gh.sz (G.k l) = 2 := rfl
    have hi' : i < l.length := hi
    obtain ⟨k0, k1⟩ := kcells_get l i hi'
    rw [hsz]
    match j, hc with
    | 0, hc =>
      have : c = .int .i64 (kid l i) := by simpa [Gh.row] using hc.symm
      rw [this]
      exact World.ownsRow.cells h' rfl _ _ k0
    | 1, hc =>
      have : c = .int .i64 (kby l i) := by simpa [Gh.row] using hc.symm
      rw [this]
      exact World.ownsRow.cells h' rfl _ _ k1
    | j + 2, hc => simp [Gh.row] at hc
theorem OwnK.mono {base b2 : Nat} {w : World} {l : List (Int × Int)} {v : Value} (h : OwnK base w l v) (hb : b2 ≤ base) : OwnK b2 w l v := by
  obtain ⟨h1, h2⟩ := h
  refine ⟨h1, ?_⟩
  rcases h2 with h2 | ⟨g, cap, cur, h3, h4, h5⟩
  · exact .inl h2
  · exact .inr ⟨g, cap, cur, h3, Nat.le_trans hb h4, h5⟩
theorem OwnK.nil {base : Nat} {w : World} : OwnK base w [] (.slice none 0 0) := ⟨rfl, .inl ⟨rfl, rfl⟩⟩
theorem del_dmap {H : Type} (l : List (Int × Int)) (i : Int) : (dmap l : DataW H).del (kl i) = dmap (l.filter fun x => decide (x.1 ≠ i)) := by
  simp only [dmap, DataW.del, List.filter_map]
  congr 3
  funext x
  simp [ent, same_kl]
def forgetE (l : List (Int × Int)) (id : Int) : Int := if kCheck l = 0 then if 0 ≤ id ∧ id ≤ 256 then 0 else 2 else kCheck l
def forgetR (l : List (Int × Int)) (id : Int) : List (Int × Int) := if forgetE l id = 0 then l.filter fun x => decide (x.1 ≠ id) else []
theorem ris_filter {l : List (Int × Int)} (h : Ris l) (f : Int × Int → Bool) : Ris (l.filter f) := List.Pairwise.filter f h
theorem idMay65_calls (id : Int) (w : World) : Calls Try.prog 65 #[.int .i64 id] w fun e w' => e = .returned (.bool (decide (0 ≤ id) && decide (id ≤ 256))) ∧ Below w.heap.size w w' :=
  (calls_of_aok (idMay65_ok [.c (.v (.int .i64 id))] _ rfl) (enters_of (fn := Try.f65) Try.func65 rfl rfl) (vs := [.int .i64 id]) ⟨⟨rfl, rfl⟩, trivial⟩).mono fun e w' ⟨u, h1, h2, h3⟩ => ⟨by rw [h1, h2.1], h3⟩
set_option maxHeartbeats 1000000 in
theorem forget59 {l : List (Int × Int)} {v : Value} {w : World} (id : Int) (h : RdC 0 w (.g (G.k l)) v) :
    Calls Try.prog 59 #[v, .int .i64 id] w fun e w' => ∃ u, e = .returned (.tuple #[u, .int .i64 (forgetE l id)]) ∧ OwnK w.heap.size w' (forgetR l id) u ∧ Below w.heap.size w w' := by
  by_cases hk : kCheck l = 0
  · obtain ⟨hlen, hris, hx⟩ := kCheck_facts hk
    have c72 := open72_ok hk h
    have c65 := idMay65_calls id
    by_cases hid : 0 ≤ id ∧ id ≤ 256
    · have e1 : forgetE l id = 0 := by simp [forgetE, hk, hid]
      have e2 : forgetR l id = l.filter fun x => decide (x.1 ≠ id) := by simp [forgetR, e1]
      rw [e1, e2]
      have e3 : (decide (0 ≤ id) && decide (id ≤ 256)) = true := by simp [hid]
      rw [e3] at c65
      have HKEY : keyOf Try.prog 3 (.int .i64 id) = some (kl id) := keyOf_int_mk Try.underlying3 (wf64 (by omega) (by omega))
      have hl2 : (l.filter fun x => decide (x.1 ≠ id)).length ≤ 257 := Nat.le_trans (List.length_filter_le _ _) hlen
      have hx2 : ∀ x ∈ (l.filter fun x => decide (x.1 ≠ id)), 0 ≤ x.1 ∧ x.1 ≤ 256 ∧ 1 ≤ x.2 ∧ x.2 ≤ 2048 := fun x hxm => hx x (List.mem_filter.1 hxm).1
      have hr2 := ris_filter hris (fun x => decide (x.1 ≠ id))
      clear hk h e1 e2 e3 hid hlen hx hris
      go_enter Try.func59, Try.ntmps59
      go_wp2_with fail
      go_at_call 72
      refine c72.mono ?_
      rintro e w1 ⟨B, rfl, hB, hown, hb1⟩
      go_wp2_with fail
      go_at_call 65
      refine (c65 _).mono ?_
      rintro e w2 ⟨rfl, hb2⟩
      have hown2 : w2.ownsMap (H := Unit) Try.prog 3 (plainElem Try.prog 3) B l.length (dmap l) := by
        have hBl := hown.lt
        obtain ⟨es, clock, h1, h2⟩ := hown
        exact ⟨es, clock, (hb2.block B hBl).trans h1, h2⟩
      have hb12 : Below w.heap.size w w2 := hb1.trans (hb2.mono hb1.size)
      clear hown hb1 hb2 c65 c72
      go_wp2_with (first
        | (at_delete; refine wpList_delete_own _ rfl _ _ 92 3 rfl 3 (int_keyed Try.underlying3) Try.underlying92 _ B l.length _ rfl hown2 _ _ rfl HKEY ?_; intro w3 hown3 hturn)
        | fail)
      rw [del_dmap] at hown3
      have hb3 : Below w.heap.size w w3 := hb12.grown hturn.grown hb12.size (fun j e => by cases e; exact hB)
      have c73 := list73 _ B l.length w3 hr2 hl2 hx2 hown3
      clear hown2 hown3 hturn HKEY
      go_wp2_with fail
      go_at_call 73
      refine c73.mono ?_
      rintro e w4 ⟨u, rfl, hrow, hb4⟩
      have hrow2 : OwnK w.heap.size w4 (l.filter fun x => decide (x.1 ≠ id)) u := OwnK.mono hrow hb3.size
      have hb5 : Below w.heap.size w w4 := hb3.trans (hb4.mono hb3.size)
      clear hrow hb4 c73
      go_wp2
      go_ret2
      exact ⟨u, rfl, hrow2, hb5⟩
    · have e1 : forgetE l id = 2 := by simp [forgetE, hk, hid]
      have e2 : forgetR l id = [] := by simp [forgetR, e1]
      rw [e1, e2]
      have e3 : (decide (0 ≤ id) && decide (id ≤ 256)) = false := by
        cases hc : (decide (0 ≤ id) && decide (id ≤ 256)) with
        | false => rfl
        | true => simp at hc; exact absurd hc hid
      rw [e3] at c65
      clear hk h e1 e2 e3 hid hlen hx hris
      go_enter Try.func59, Try.ntmps59
      go_wp2_with fail
      go_at_call 72
      refine c72.mono ?_
      rintro e w1 ⟨B, rfl, hB, hown, hb1⟩
      clear hown
      go_wp2_with fail
      go_at_call 65
      refine (c65 _).mono ?_
      rintro e w2 ⟨rfl, hb2⟩
      go_wp2
      go_ret2
      exact ⟨_, rfl, OwnK.nil, hb1.trans (hb2.mono hb1.size)⟩
  · have c72 := open72_bad hk h
    have e1 : forgetE l id = kCheck l := by simp [forgetE, hk]
    have e2 : forgetR l id = [] := by simp [forgetR, e1, hk]
    rw [e1, e2]
    obtain ⟨n, hn⟩ : ∃ n, kCheck l = n := ⟨_, rfl⟩
    rw [hn] at hk c72
    rw [hn]
    have hne : (n == 0) = false := by simpa using hk
    have hne' : (n != 0) = true := by simpa using hk
    clear hk hn h e1 e2
    go_enter Try.func59, Try.ntmps59
    go_wp2_with fail
    go_at_call 72
    refine c72.mono ?_
    rintro e w1 ⟨rfl, hb1⟩
    go_wp2
    go_ret2
    exact ⟨_, rfl, OwnK.nil, hb1⟩
end Go.Proofs.Ytcjiokiafdagdaa
