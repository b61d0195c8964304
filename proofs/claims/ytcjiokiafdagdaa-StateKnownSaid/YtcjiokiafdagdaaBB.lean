/- The State laws: track.Join, the walk. -/
import Derived.Test.YtcjiokiafdagdaaBA
namespace Go.Proofs.Ytcjiokiafdagdaa
open Go.Sx Go.RowKit Go.Maps Go.Sort
set_option linter.unusedVariables false
set_option linter.unusedSimpArgs false
def joinE (l m : List (Int × Int)) : Int := if kCheck l = 0 then kCheck m else kCheck l
def joinR (l m : List (Int × Int)) : List (Int × Int) := if joinE l m = 0 then joinL l m else []
theorem mn_min (x y : Int) : mn x y = min x y := by
  unfold mn
  omega
theorem owns_later {w w' : World} {B n : Nat} {D : DataW Unit} (h : w.ownsMap Try.prog 3 (plainElem Try.prog 3) B n D) (hb : RowKit.Below w.heap.size w w') : w'.ownsMap Try.prog 3 (plainElem Try.prog 3) B n D := by
  have hl := h.lt
  obtain ⟨es, clock, h1, h2⟩ := h
  exact ⟨es, clock, (hb.block B hl).trans h1, h2⟩
set_option maxRecDepth 100000 in
set_option maxHeartbeats 2000000 in
theorem join52_go {l m : List (Int × Int)} {v u : Value} {w : World} (hk : kCheck l = 0) (hkm : kCheck m = 0) (h : RdC 0 w (.g (G.k l)) v) (h2 : RdC 0 w (.g (G.k m)) u) :
    Calls Try.prog 52 #[v, u] w fun e w' => ∃ x, e = .returned (.tuple #[x, .int .i64 0]) ∧ OwnK w.heap.size w' (joinL l m) x ∧ RowKit.Below w.heap.size w w' := by
  obtain ⟨hlen, hris, hx⟩ := kCheck_facts hk
  obtain ⟨hlenm, hrism, hxm⟩ := kCheck_facts hkm
  have c72 := open72_ok hk h
  go_enter Try.func52, Try.ntmps52
  go_wp2_with fail
  go_at_call 72
  refine c72.mono ?_
  rintro e w1 ⟨A, rfl, hA, hownA, hb1⟩
  have h2' : RdC 0 w1 (.g (G.k m)) u := by
    rcases rd_known h2 with ⟨rfl, ad, cap, rfl⟩ | ⟨b, off, cap, rfl, hr⟩
    · exact rd_nil
    · exact rd_mk (hr.below hb1)
  have c72b := open72_ok hkm h2'
  clear c72 h h2 h2'
  go_wp2_with fail
  go_at_call 72
  refine c72b.mono ?_
  rintro e w2 ⟨Bm, rfl, hB, hownB, hb2⟩
  have hownA2 := owns_later hownA hb2
  have hb12 : RowKit.Below w.heap.size w w2 := hb1.trans (hb2.mono hb1.size)
  have hAlt := hownA.lt
  have hne : A ≠ Bm := by omega
  clear c72b hownA hb2 hb1
  go_wp2_with (first
    | (at_range; refine wpList_range_own _ rfl _ 92 rfl 3 3 (int_keyed Try.underlying3) Try.underlying92 _ A l.length _ rfl hownA2 ?_; intro w0 hrg0 hg0 hs0)
    | fail)
  go_frame
  have hBlt := hownB.lt
  have hb0 : RowKit.Below w.heap.size w w0 := hb12.grown hg0 hb12.size (fun j e => by cases e)
  have hownB0 : w0.ownsMap (H := Unit) Try.prog 3 (plainElem Try.prog 3) Bm m.length (dmap m) := hownB.kept hg0 (by simp)
  have hrw := hb12.size
  obtain ⟨r, hr⟩ : ∃ r, w2.heap.size = r := ⟨_, rfl⟩
  rw [hr] at hrg0 hrw
  rw [hr]
  have hrB : r ≠ Bm := by omega
  have hAB : w.heap.size ≤ A := hA
  clear hg0 hs0 hr hBlt hAlt hownA2 hownB hb12 hB hA
  go_loopw [9] (fun _ wr => ∃ (D : DataW Unit) (left : Lit → Bool) (cnt : Nat), wr.ranges Try.prog 3 (plainElem Try.prog 3) A r l.length D left cnt ∧ JoinAt l m D left ∧ wr.ownsMap (H := Unit) Try.prog 3 (plainElem Try.prog 3) Bm m.length (dmap m) ∧ RowKit.Below w.heap.size w wr)
    (fun _ wr => wr.rangeLeft A r)
  case atStart => exact ⟨_, _, _, hrg0, JoinAt.start l m, hownB0, hb0⟩
  case round =>
    obtain ⟨D, left, cnt, hrg, hJ, hmB, hb⟩ := hrel
    clear hrg0 hownB0 hb0
    go_wp2_with (first
      | (at_next; refine wpList_next_ranges_ii _ rfl _ rfl 3 3 .i64 .i64 (int_keyed Try.underlying3) Try.underlying3 Try.underlying3 A r l.length _ _ _ rfl hrg ?_ ?_)
      | fail)
    · intro hc0 hl0
      have hD := hJ.done hris hl0 (hrg.owns.canon (int_keyed Try.underlying3)) (fun k hk => by
        obtain ⟨es, he, h3⟩ := hrg.owns.keysOf
        rw [he, has_eq, List.any_eq_true] at hk
        obtain ⟨p, hp, hs⟩ := hk
        obtain ⟨i, hi⟩ := keysOf_int Try.underlying3 (h3 p hp)
        exact ⟨i, (WideAt.sameKey_eq hs).symm.trans hi⟩)
      have hownD := hrg.owns
      rw [hD] at hownD
      have hx2 : ∀ x ∈ joinL l m, 0 ≤ x.1 ∧ x.1 ≤ 256 ∧ 1 ≤ x.2 ∧ x.2 ≤ 2048 := by
        intro x hxj
        obtain ⟨y, hy, rfl⟩ := List.mem_map.1 hxj
        obtain ⟨hy1, hy2⟩ := List.mem_filter.1 hy
        have := hx y hy1
        simp only [knows, List.any_eq_true, decide_eq_true_eq] at hy2
        obtain ⟨z, hz, hzy⟩ := hy2
        have h4 := hxm z hz
        have h5 : kBytes y.1 m = z.2 := by rw [← hzy]; exact kBytes_mem hrism hz
        simp only [h5, mn]
        split <;> omega
      have hl2 : (joinL l m).length ≤ 257 := by
        have := List.length_filter_le (fun x : Int × Int => knows m x.1) l
        simp only [joinL, List.length_map]
        omega
      have c73 := fun w' hw' => list73 (joinL l m) A l.length w' (ris_joinL hris) hl2 hx2 hw'
      clear hD hJ hrg hmB hl0 hc0
      go_wp2_with fail
      go_at_call 73
      refine (c73 _ hownD).mono ?_
      rintro e w3 ⟨x, rfl, hrow, hb3⟩
      have hrow2 : OwnK w.heap.size w3 (joinL l m) x := OwnK.mono hrow hb.size
      have hb4 : RowKit.Below w.heap.size w w3 := hb.trans (hb3.mono hb.size)
      clear hrow hb3 c73 hownD hb
      go_wp2
      go_ret2
      exact ⟨x, rfl, hrow2, hb4⟩
    · intro x c w1 cnt1 hwx hwc hlx hat hrg1 hlt hg1 hs1 hen
      have hxD : Maps.has D (kl x) = true := has_true_of_atKey hat
      have hc : kBytes x l = c := by
        have e1 := hJ.at' x (nd 0) hxD
        rw [show left (kl x) = true from hlx, if_pos rfl, show D.atKey (kl x) (nd 0) = _ from hat _] at e1
        simpa [nd] using e1.symm
      subst hc
      have hmB1 : w1.ownsMap (H := Unit) Try.prog 3 (plainElem Try.prog 3) Bm m.length (dmap m) := hmB.kept hg1 (fun e => hrB (by injection e with e; exact e.symm))
      have hb1 : RowKit.Below w.heap.size w w1 := hb.grown hg1 hb.size (fun j e => by cases e; exact hrw)
      have HKEY : keyOf Try.prog 3 (.int .i64 x) = some (kl x) := keyOf_int_mk Try.underlying3 hwx
      have hIM : IsMap D := by
        obtain ⟨es, he, _⟩ := hrg.owns.keysOf
        exact ⟨es, he⟩
      have hleft := hrg.left_eq
      have HL := Lib.hid hleft
      clear hmB hg1 hs1 hat hb hleft
      cases hm : knows m x
      · have HM : Maps.has (dmap m : DataW Unit) (kl x) = false := by rw [has_dmap]; exact hm
        have HMh := Lib.hid HM
        have HMm := Lib.hid hm
        clear HM hm hxD hIM
        go_wp2_with (first
          | (at_lookup; refine wpList_lookup_own_ok_int _ rfl _ _ 92 rfl 3 3 .i64 (int_keyed Try.underlying3) Try.underlying92 Try.underlying3 (zero3 _) Bm m.length _ rfl hmB1 _ _ rfl HKEY ?_; intro c2 hat2 hwc2; rw [HMh.out]; clear hat2)
          | (at_delete; refine wpList_delete_ranges _ rfl _ _ 92 3 rfl 3 (int_keyed Try.underlying3) Try.underlying92 _ A r l.length _ _ _ rfl hrg1 _ _ rfl HKEY ?_; intro w3 cnt3 hrg3 hle3 hturn)
          | fail)
        have hgr : w1.grownBy w3 (some A) := World.mapTurned.grown hturn
        have hmB3 : w3.ownsMap (H := Unit) Try.prog 3 (plainElem Try.prog 3) Bm m.length (dmap m) := hmB1.kept hgr (fun e => hne (Option.some.inj e).symm)
        have hb3 : RowKit.Below w.heap.size w w3 := hb1.grown hgr hb1.size (fun j e => by cases e; exact hAB)
        have hJ3 := hJ.drop HMm.out
        have hst : (fun z : Lit => (left z && !z.sameKey (Lit.int .i64 x)) && !z.sameKey (kl x)) = fun z => left z && !z.sameKey (kl x) := Maps.strike_twice left (kl x)
        rw [hst] at hrg3
        go_frame
        go_roundw
        case rel => exact ⟨_, _, cnt3, hrg3, hJ3, hmB3, hb3⟩
        case measure => rw [hrg3.left_eq, HL.out]; omega
      · have HM : Maps.has (dmap m : DataW Unit) (kl x) = true := by rw [has_dmap]; exact hm
        have HMh := Lib.hid HM
        have HMm := Lib.hid hm
        have HXD := Lib.hid hxD
        clear HM hm hxD
        go_wp2_with (first
          | (at_lookup; refine wpList_lookup_own_ok_int _ rfl _ _ 92 rfl 3 3 .i64 (int_keyed Try.underlying3) Try.underlying92 Try.underlying3 (zero3 _) Bm m.length _ rfl hmB1 _ _ rfl HKEY ?_; intro c2 hat2 hwc2; rw [HMh.out]; obtain rfl : kBytes x m = c2 := by (rw [at_dmap, if_pos (show m.any (fun y => decide (y.1 = x)) = true from HMm.out)] at hat2; simpa [nd] using hat2))
          | (at_mapUpdate; refine wpList_mapUpdate_ranges _ rfl _ _ _ 92 rfl 3 3 (int_keyed Try.underlying3) Try.underlying92 _ A r l.length D _ cnt1 rfl hrg1 _ _ (kl x) rfl rfl HKEY (nd (min (kBytes x l) (kBytes x m))) [] ?hv HXD.out ?_; rotate_left; intro w3 hrg3 hturn)
          | fail)
        case hv =>
          show plainElem Try.prog 3 (.int .i64 (min (kBytes x l) (kBytes x m))) = _
          refine plainElem_int Try.underlying3 ?_
          rw [← mn_min, mn]
          split
          · exact hwc2
          · exact hwc
        rw [← mn_min] at hrg3
        have hgr : w1.grownBy w3 (some A) := World.mapTurned.grown hturn
        have hmB3 : w3.ownsMap (H := Unit) Try.prog 3 (plainElem Try.prog 3) Bm m.length (dmap m) := hmB1.kept hgr (fun e => hne (Option.some.inj e).symm)
        have hb3 : RowKit.Below w.heap.size w w3 := hb1.grown hgr hb1.size (fun j e => by cases e; exact hAB)
        have hJ3 := hJ.store hIM hlx HXD.out HMm.out
        go_frame
        go_roundw
        case rel => exact ⟨_, _, cnt1, hrg3, hJ3, hmB3, hb3⟩
        case measure => rw [hrg3.left_eq, HL.out]; omega
end Go.Proofs.Ytcjiokiafdagdaa
