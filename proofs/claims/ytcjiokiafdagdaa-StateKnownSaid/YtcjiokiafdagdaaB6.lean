/- The State laws: a list opened as a map. -/
import Derived.Test.YtcjiokiafdagdaaB5
import Derived.OwnWalk
namespace Go
theorem wpList_mapUpdate_ranges {H : Type} {P : Program} (w : World) {ops : Array Oper} {rest : List Oper} {o : Oper} {a : Act} {Q : Exit → Act → World → Prop}
    (hg : o.guard = none) (m x v : Operand) (t : TypeId) (hop : o.op = Op.mapUpdate t m x v)
    (k e : TypeId) (K : Maps.Keyed P k) (ht : P.underlying t = some (.map k e)) (R : Value → Option (DataW H × List MemPlace)) (b r n : Nat) (D : DataW H) (left : Lit → Bool) (cnt : Nat)
    (hm : a.eval m = .map (some b)) (h : w.ranges P k R b r n D left cnt) (key val : Value) (kl : Lit) (hx : a.eval x = key) (hv : a.eval v = val) (hkey : keyOf P k key = some kl)
    (d : DataW H) (ps : List MemPlace) (hval : R val = some (d, ps)) (hin : Maps.has D kl = true)
    (hK : ∀ w', w'.ranges P k R b r n (D.put kl d) left cnt → w.mapTurned w' b → wpList P ops Q rest (a.put o.dst undef) w') :
    wpList P ops Q (o :: rest) a w := by
  refine wpList_plain hg fun K' hK' => ?_
  obtain ⟨w', hrun, r1, r2⟩ := Maps.ranges_store h K ht hkey hval hin
  unfold Oper.wp
  simp [execOp, hop, hm, hx, hv, hrun, Result.andThen]
  exact hK' _ _ (hK w' r1 r2)
end Go
namespace Go.Proofs.Ytcjiokiafdagdaa
open Go.Sx Go.RowKit Go.Maps
set_option linter.unusedVariables false
set_option linter.unusedSimpArgs false
/-- A contract without numbers, for a walk. -/
theorem calls_of_aok {f : FuncId} {args : List (AV G)} {r : AT G} (h : AOK G P f args r) (he : Enters P f) {w : World} {vs : List Value} (hv : RdVs 0 w args vs) : Calls P f vs.toArray w fun e w' => ∃ v, e = .returned v ∧ RdT w.heap.size w' r v ∧ Below w.heap.size w w' := by
  rcases h w vs hv with ⟨_, h⟩ | ⟨v, h, _⟩
  · exact h
  · rw [he] at h
    cases h
theorem rd_mk {l : List (Int × Int)} {b off cap : Nat} {w : World} (h : AtRow l b off w) : RdC 0 w (.g (G.k l)) (.slice (some ⟨b, off, none⟩) l.length cap) := by
  refine ⟨some ⟨b, off, none⟩, cap, rfl, fun i hi => ⟨_, rfl, fun j c hc => ?_⟩, fun _ _ => Nat.zero_le _⟩
  obtain ⟨h1, h2⟩ := h i hi
  have hsz : Gh.sz (G.k l) = 2 := rfl
  rw [addr_add, hsz]
  match j, hc with
  | 0, hc =>
    have : c = .int .i64 (kid l i) := by simpa [Gh.row] using hc.symm
    rw [this]
    exact h1
  | 1, hc =>
    have : c = .int .i64 (kby l i) := by simpa [Gh.row] using hc.symm
    rw [this, ← Nat.add_assoc]
    exact h2
  | j + 2, hc => simp [Gh.row] at hc
theorem rd_nil {ad : Option Addr} {cap : Nat} {w : World} : RdC 0 w (.g (G.k [])) (.slice ad 0 cap) :=
  ⟨ad, cap, rfl, fun i hi => absurd hi (Nat.not_lt_zero i), fun _ _ => Nat.zero_le _⟩
/-- track.Check, for a walk. -/
theorem check39 {l : List (Int × Int)} {v : Value} {w : World} (h : RdC 0 w (.g (G.k l)) v) : Calls Try.prog 39 #[v] w fun e w' => e = .returned (.int .i64 (kCheck l)) ∧ Below w.heap.size w w' :=
  (calls_of_aok (list39_ok [.c (.g (.k l))] _ rfl) (enters_of (fn := Try.f39) Try.func39 rfl rfl) (vs := [v]) ⟨h, trivial⟩).mono fun e w' ⟨u, h1, h2, h3⟩ => ⟨by rw [h1, h2.1], h3⟩
theorem kChk_facts : ∀ {l : List (Int × Int)} {last : Int}, kChk last l = 0 → Ris l ∧ ∀ x ∈ l, last < x.1 ∧ 0 ≤ x.1 ∧ x.1 ≤ 256 ∧ 1 ≤ x.2 ∧ x.2 ≤ 2048
  | [], last, _ => ⟨List.Pairwise.nil, fun _ h => by cases h⟩
  | x :: r, last, h => by
    simp only [kChk] at h
    split at h
    · cases h
    · rename_i hn
      obtain ⟨h1, h2⟩ := kChk_facts h
      refine ⟨List.Pairwise.cons (fun y hy => (h2 y hy).1) h1, fun y hy => ?_⟩
      rcases List.mem_cons.1 hy with rfl | hy
      · omega
      · have := h2 y hy
        omega
theorem kCheck_facts {l : List (Int × Int)} (h : kCheck l = 0) : l.length ≤ 257 ∧ Ris l ∧ ∀ x ∈ l, 0 ≤ x.1 ∧ x.1 ≤ 256 ∧ 1 ≤ x.2 ∧ x.2 ≤ 2048 := by
  unfold kCheck at h
  split at h
  · cases h
  · obtain ⟨h1, h2⟩ := kChk_facts h
    exact ⟨by omega, h1, fun x hx => (h2 x hx).2⟩
theorem kCheck_cases (l : List (Int × Int)) : kCheck l = 0 ∨ kCheck l = 2 ∨ kCheck l = 3 := by
  have : ∀ (l : List (Int × Int)) (last : Int), kChk last l = 0 ∨ kChk last l = 2 := by
    intro l
    induction l with
    | nil => intro last; exact .inl rfl
    | cons x r ih =>
      intro last
      simp only [kChk]
      split
      · exact .inr rfl
      · exact ih _
  unfold kCheck
  split
  · exact .inr (.inr rfl)
  · rcases this l (-1) with h | h
    · exact .inl h
    · exact .inr (.inl h)
theorem wf64 {a : Int} (h0 : -9223372036854775808 ≤ a) (h1 : a ≤ 9223372036854775807) : (Lit.int .i64 a).wf = true := by
  simp [Lit.wf, IntKind.min, IntKind.max, IntKind.signed, IntKind.bits]
  omega
theorem kid_mem {l : List (Int × Int)} {i : Nat} (h : i < l.length) : (kid l i, kby l i) ∈ l := by
  simp only [kid, kby, List.getD_eq_getElem?_getD, List.getElem?_eq_getElem h, Option.getD_some]
  exact List.getElem_mem h
theorem take_kid {l : List (Int × Int)} {i : Nat} (h : i < l.length) : l.take (i + 1) = l.take i ++ [(kid l i, kby l i)] := by
  rw [List.take_succ_eq_append_getElem h]
  simp only [kid, kby, List.getD_eq_getElem?_getD, List.getElem?_eq_getElem h, Option.getD_some]
theorem take_lt {l : List (Int × Int)} (hr : Ris l) {i : Nat} (h : i < l.length) : ∀ y ∈ l.take i, y.1 < kid l i := by
  intro y hy
  have := List.pairwise_append.1 (by rw [Ris, ← List.take_append_drop i l] at hr; exact hr)
  refine this.2.2 y hy (kid l i, kby l i) ?_
  rw [drop_kid h]
  simp
set_option maxHeartbeats 1000000 in
theorem open72 (l : List (Int × Int)) (b off cap : Nat) (w : World) (hk : kCheck l = 0) (hr : AtRow l b off w) :
    Calls Try.prog 72 #[.slice (some ⟨b, off, none⟩) l.length cap] w fun e w' => ∃ B, e = .returned (.tuple #[.map (some B), .int .i64 0]) ∧ w.heap.size ≤ B ∧ w'.ownsMap (H := Unit) Try.prog 3 (plainElem Try.prog 3) B l.length (dmap l) ∧ Below w.heap.size w w' := by
  obtain ⟨hlen, hris, hx⟩ := kCheck_facts hk
  have hc := check39 (rd_mk (cap := cap) hr)
  rw [hk] at hc
  have HK := Lib.hid hk
  clear hk
  have hmm := @run_makeMap Try.prog
  go_enter Try.func72, Try.ntmps72
  go_wp2_with (go_at_call 39; refine hc.mono ?_; rintro e w1 ⟨rfl, hb1⟩)
  have hsz := hb1.size
  have hm0 := World.ownsMap_made (H := Unit) w1 Try.prog 3 (plainElem Try.prog 3)
  have hb2 : Below w.heap.size w (w1.alloc (.map #[] 0)) := hb1.alloc hb1.size _
  obtain ⟨B, hB⟩ : ∃ B, w1.heap.size = B := ⟨_, rfl⟩
  rw [hB] at hm0 hsz
  rw [hB]
  obtain ⟨w2, hw2⟩ : ∃ w2, w1.alloc (.map #[] 0) = w2 := ⟨_, rfl⟩
  rw [hw2] at hm0 hb2
  rw [hw2]
  clear hw2 hB hb1 hmm hc
  go_loopw [16] (fun i wr => ∃ k : Nat, k ≤ l.length ∧ i = .int .i64 k ∧ wr.ownsMap (H := Unit) Try.prog 3 (plainElem Try.prog 3) B k (dmap (l.take k)) ∧ Below w.heap.size w wr) (fun i _ => l.length - (intOf i).toNat)
  case atStart => exact ⟨0, Nat.zero_le _, rfl, hm0, hb2⟩
  case round =>
    obtain ⟨k, hkl, rfl, hown, hb⟩ := hrel
    clear hm0 hb2
    by_cases hlt : k < l.length
    · obtain ⟨h1, h2⟩ := hr.below hb k hlt
      have hbd := hx _ (kid_mem hlt)
      have HKEY : keyOf Try.prog 3 (.int .i64 (kid l k)) = some (kl (kid l k)) := keyOf_int_mk Try.underlying3 (wf64 (by omega) (by omega))
      have HVAL : plainElem (H := Unit) Try.prog 3 (.int .i64 (kby l k)) = some (nd (kby l k), []) := plainElem_int Try.underlying3 (wf64 (by omega) (by omega))
      go_wp2_with (first
        | (at_mapUpdate; refine wpList_mapUpdate_own _ rfl _ _ _ 92 rfl 3 3 (int_keyed Try.underlying3) Try.underlying92 _ B k _ rfl (hown.alloc _) (by unfold maxLen; omega) _ _ (kl (kid l k)) rfl rfl HKEY (nd (kby l k)) [] HVAL ?_; intro w3 hown3 hg3)
        | go_in)
      have hb3 : Below w.heap.size w w3 := (hb.alloc hb.size _).grown hg3 (by have := hb.size; simp; omega) (fun j e => by cases e; exact hsz)
      go_roundw
      case rel => exact ⟨k + 1, hlt, by go_num, by rw [take_kid hlt, ← put_end (x := (kid l k, kby l k)) (take_lt hris hlt)]; exact hown3, hb3⟩
      case measure => simp [intOf]; omega
    · have hke : k = l.length := by omega
      subst hke
      rw [List.take_length] at hown
      go_wp2
      go_ret2
      exact ⟨B, rfl, hsz, hown, hb⟩
theorem open72_nil (ad : Option Addr) (cap : Nat) (w : World) :
    Calls Try.prog 72 #[.slice ad 0 cap] w fun e w' => ∃ B, e = .returned (.tuple #[.map (some B), .int .i64 0]) ∧ w.heap.size ≤ B ∧ w'.ownsMap (H := Unit) Try.prog 3 (plainElem Try.prog 3) B 0 (dmap []) ∧ Below w.heap.size w w' := by
  have hc := check39 (rd_nil (ad := ad) (cap := cap) (w := w))
  rw [show kCheck [] = 0 from rfl] at hc
  have hmm := @run_makeMap Try.prog
  go_enter Try.func72, Try.ntmps72
  go_wp2_with (go_at_call 39; refine hc.mono ?_; rintro e w1 ⟨rfl, hb1⟩)
  have hsz := hb1.size
  have hm0 := World.ownsMap_made (H := Unit) w1 Try.prog 3 (plainElem Try.prog 3)
  have hb2 : Below w.heap.size w (w1.alloc (.map #[] 0)) := hb1.alloc hb1.size _
  obtain ⟨B, hB⟩ : ∃ B, w1.heap.size = B := ⟨_, rfl⟩
  rw [hB] at hm0 hsz
  rw [hB]
  obtain ⟨w2, hw2⟩ : ∃ w2, w1.alloc (.map #[] 0) = w2 := ⟨_, rfl⟩
  rw [hw2] at hm0 hb2
  rw [hw2]
  clear hw2 hB hb1 hmm hc
  go_loopw [16] (fun i wr => i = .int .i64 0 ∧ wr = w2) (fun _ _ => 0)
  case atStart => exact ⟨rfl, rfl⟩
  case round =>
    obtain ⟨rfl, rfl⟩ := hrel
    go_wp2
    go_ret2
    exact ⟨B, rfl, hsz, hm0, hb2⟩
/-- A list that may be, as a map. -/
theorem open72_ok {l : List (Int × Int)} {v : Value} {w : World} (hk : kCheck l = 0) (h : RdC 0 w (.g (G.k l)) v) :
    Calls Try.prog 72 #[v] w fun e w' => ∃ B, e = .returned (.tuple #[.map (some B), .int .i64 0]) ∧ w.heap.size ≤ B ∧ w'.ownsMap (H := Unit) Try.prog 3 (plainElem Try.prog 3) B l.length (dmap l) ∧ Below w.heap.size w w' := by
  rcases rd_known h with ⟨rfl, ad, cap, rfl⟩ | ⟨b, off, cap, rfl, hr⟩
  · exact open72_nil ad cap w
  · exact open72 l b off cap w hk hr
theorem open72_bad {l : List (Int × Int)} {v : Value} {w : World} (hk : kCheck l ≠ 0) (h : RdC 0 w (.g (G.k l)) v) :
    Calls Try.prog 72 #[v] w fun e w' => e = .returned (.tuple #[.map none, .int .i64 (kCheck l)]) ∧ Below w.heap.size w w' := by
  have hc := check39 h
  obtain ⟨n, hn⟩ : ∃ n, kCheck l = n := ⟨_, rfl⟩
  rw [hn] at hk hc
  rw [hn]
  have hne : (n == 0) = false := by simpa using hk
  have hne' : (n != 0) = true := by simpa using hk
  clear hk hn
  go_enter Try.func72, Try.ntmps72
  go_wp2_with (go_at_call 39; refine hc.mono ?_; rintro e w1 ⟨rfl, hb1⟩)
  go_ret2
  exact ⟨rfl, hb1⟩
end Go.Proofs.Ytcjiokiafdagdaa
