/- The State laws: Moved, Called, Made, plain. -/
import Derived.Test.YtcjiokiafdagdaaBO
import Derived.Test.YtcjiokiafdagdaaBS
import Derived.Test.YtcjiokiafdagdaaBT
namespace Go.Proofs.Ytcjiokiafdagdaa
open Go.Sx Go.RowKit
set_option linter.unusedVariables false
set_option linter.unusedSimpArgs false
set_option maxRecDepth 100000
set_option maxHeartbeats 1000000
theorem ks_filter {l : List (Int × Int)} (h : KS l) (f : Int × Int → Bool) : KS (l.filter f) := ⟨ris_filter h.1 f, fun x hx => h.2 x (List.mem_filter.1 hx).1⟩
theorem kBytes_filter (id i : Int) : ∀ (l : List (Int × Int)), kBytes i (l.filter fun x => decide (x.1 ≠ id)) = if i = id then 0 else kBytes i l
  | [] => by simp [kBytes]
  | (a, b) :: r => by
    have ih := kBytes_filter id i r
    by_cases ha : a = id
    · rw [List.filter_cons_of_neg (by simp [ha]), ih]
      by_cases hi : i = id
      · rw [if_pos hi, if_pos hi]
      · rw [if_neg hi, if_neg hi, kBytes_cons, if_neg (by omega)]
    · rw [List.filter_cons_of_pos (by simp [ha]), kBytes_cons, kBytes_cons, ih]
      by_cases hi : i = id
      · rw [if_pos hi, if_neg (by omega)]
        simp [hi]
      · rw [if_neg hi, if_neg hi]
theorem forget_eq {l : List (Int × Int)} {id : Int} (h : kCheck l = 0) (h0 : 0 ≤ id) (h1 : id ≤ 256) : forgetR l id = l.filter fun x => decide (x.1 ≠ id) := by
  have : forgetE l id = 0 := by
    unfold forgetE
    rw [if_pos h, if_pos ⟨h0, h1⟩]
  unfold forgetR
  rw [if_pos this]
theorem filter_check {l : List (Int × Int)} (h : kCheck l = 0) (f : Int × Int → Bool) : kCheck (l.filter f) = 0 := by
  obtain ⟨n1, r1, b1⟩ := kCheck_facts h
  exact kCheck_of (Nat.le_trans (List.length_filter_le _ _) n1) (ris_filter r1 f) fun x hx => b1 x (List.mem_filter.1 hx).1
theorem reg_map (f : Vl → Vl) (g : Rg) (i : Nat) : reg (mapG f g) i = f (reg g i) := by
    match i with
    | 0 => rfl
    | 1 => rfl
    | 2 => rfl
    | 3 => rfl
    | 4 => rfl
    | 5 => rfl
    | 6 => rfl
    | 7 => rfl
    | 8 => rfl
    | n + 9 => rfl
theorem says_moved {v w : Vl} (h : saysF v w = true) : saysF (movedV v) (movedV w) = true := by
  rw [says_iff] at h
  rcases h with h | h | h
  · rw [show movedV w = w from by unfold movedV; rw [if_neg (by omega)], says_iff]
    exact .inl h
  · rw [h]; exact says_refl _
  · rw [show movedV w = w from by unfold movedV; rw [if_neg (by omega)], show movedV v = v from by unfold movedV; rw [if_neg (by omega)], says_iff]
    exact .inr (.inr h)
theorem says_forget {v w : Vl} (id : Int) (h : saysF v w = true) : saysF (forgetV id v) (forgetV id w) = true := by
  rw [says_iff] at h
  rcases h with h | h | h
  · rw [show forgetV id w = w from by unfold forgetV; rw [if_neg (by omega)], says_iff]
    exact .inl h
  · rw [h]; exact says_refl _
  · rw [show forgetV id w = w from by unfold forgetV; rw [if_neg (by omega)], show forgetV id v = v from by unfold forgetV; rw [if_neg (by omega)], says_iff]
    exact .inr (.inr h)
theorem may_vZero : mayF vZero = true := rfl
theorem may_moved {v : Vl} (h : mayF v = true) : mayF (movedV v) = true := by
  unfold movedV
  split
  · rfl
  · exact h
theorem may_forget {v : Vl} (id : Int) (h : mayF v = true) : mayF (forgetV id v) = true := by
  unfold forgetV
  split
  · rfl
  · exact h
theorem moved_eq {x : Stt} (hx : stOk x = true) : movedX x = ⟨mapG movedV x.g, x.s, []⟩ := by simp [movedX, hx]
theorem ok_moved {x : Stt} (hx : stOk x = true) : stOk (movedX x) = true := by
  rw [moved_eq hx]
  obtain ⟨a1, a2, a3⟩ := stOk_iff.1 hx
  exact stOk_iff.2 ⟨fun i => by rw [reg_map]; exact may_moved (a1 i), a2, rfl⟩
theorem under_moved {x y : Stt} (hx : stOk x = true) (hy : stOk y = true) (h : underB x y = true) : underB (movedX x) (movedX y) = true := by
  rw [underB_eq (ok_moved hx) (ok_moved hy), moved_eq hx, moved_eq hy]
  rw [underB_eq hx hy] at h
  obtain ⟨a1, a2, a3⟩ := underF_iff.1 h
  exact underF_iff.2 ⟨fun i => by rw [reg_map, reg_map]; exact says_moved (a1 i), a2, rfl⟩
theorem called_eq {x : Stt} (hx : stOk x = true) : calledX x = ⟨calledG x.g, x.s, x.l⟩ := by simp [calledX, hx]
theorem ok_called {x : Stt} (hx : stOk x = true) : stOk (calledX x) = true := by
  rw [called_eq hx]
  obtain ⟨a1, a2, a3⟩ := stOk_iff.1 hx
  refine stOk_iff.2 ⟨fun i => ?_, a2, a3⟩
  match i with
  | 0 => rfl
  | 1 => rfl
  | 2 => rfl
  | 3 => rfl
  | 4 => rfl
  | 5 => rfl
  | 6 => exact a1 6
  | 7 => exact a1 7
  | 8 => exact a1 8
  | n + 9 => exact a1 9
theorem under_called {x y : Stt} (hx : stOk x = true) (hy : stOk y = true) (h : underB x y = true) : underB (calledX x) (calledX y) = true := by
  rw [underB_eq (ok_called hx) (ok_called hy), called_eq hx, called_eq hy]
  rw [underB_eq hx hy] at h
  obtain ⟨a1, a2, a3⟩ := underF_iff.1 h
  refine underF_iff.2 ⟨fun i => ?_, a2, a3⟩
  match i with
  | 0 => rfl
  | 1 => rfl
  | 2 => rfl
  | 3 => rfl
  | 4 => rfl
  | 5 => rfl
  | 6 => exact a1 6
  | 7 => exact a1 7
  | 8 => exact a1 8
  | n + 9 => exact a1 9
theorem regs2_set {p : Vl → Vl → Bool} {g h : Rg} {v : Vl} (n : Nat) (hh : regs2 p g h = true) (hv : p v v = true) : regs2 p (setR g n v) (setR h n v) = true := by
  simp only [regs2, Bool.and_eq_true] at hh ⊢
  obtain ⟨h0, h1, h2, h3, h4, h5, h6, h7, h8, h9⟩ := hh
  match n with
  | 0 => exact ⟨hv, h1, h2, h3, h4, h5, h6, h7, h8, h9⟩
  | 1 => exact ⟨h0, hv, h2, h3, h4, h5, h6, h7, h8, h9⟩
  | 2 => exact ⟨h0, h1, hv, h3, h4, h5, h6, h7, h8, h9⟩
  | 3 => exact ⟨h0, h1, h2, hv, h4, h5, h6, h7, h8, h9⟩
  | 4 => exact ⟨h0, h1, h2, h3, hv, h5, h6, h7, h8, h9⟩
  | 5 => exact ⟨h0, h1, h2, h3, h4, hv, h6, h7, h8, h9⟩
  | 6 => exact ⟨h0, h1, h2, h3, h4, h5, hv, h7, h8, h9⟩
  | 7 => exact ⟨h0, h1, h2, h3, h4, h5, h6, hv, h8, h9⟩
  | 8 => exact ⟨h0, h1, h2, h3, h4, h5, h6, h7, hv, h9⟩
  | n + 9 => exact ⟨h0, h1, h2, h3, h4, h5, h6, h7, h8, hv⟩
theorem regsAll_set {p : Vl → Bool} {g : Rg} {v : Vl} (n : Nat) (hh : regsAll p g = true) (hv : p v = true) : regsAll p (setR g n v) = true := by
  simp only [regsAll, Bool.and_eq_true] at hh ⊢
  obtain ⟨h0, h1, h2, h3, h4, h5, h6, h7, h8, h9⟩ := hh
  match n with
  | 0 => exact ⟨hv, h1, h2, h3, h4, h5, h6, h7, h8, h9⟩
  | 1 => exact ⟨h0, hv, h2, h3, h4, h5, h6, h7, h8, h9⟩
  | 2 => exact ⟨h0, h1, hv, h3, h4, h5, h6, h7, h8, h9⟩
  | 3 => exact ⟨h0, h1, h2, hv, h4, h5, h6, h7, h8, h9⟩
  | 4 => exact ⟨h0, h1, h2, h3, hv, h5, h6, h7, h8, h9⟩
  | 5 => exact ⟨h0, h1, h2, h3, h4, hv, h6, h7, h8, h9⟩
  | 6 => exact ⟨h0, h1, h2, h3, h4, h5, hv, h7, h8, h9⟩
  | 7 => exact ⟨h0, h1, h2, h3, h4, h5, h6, hv, h8, h9⟩
  | 8 => exact ⟨h0, h1, h2, h3, h4, h5, h6, h7, hv, h9⟩
  | n + 9 => exact ⟨h0, h1, h2, h3, h4, h5, h6, h7, h8, hv⟩
theorem madeOk_iff {x : Stt} {r t : Int} : madeOk x r t = true ↔ stOk x = true ∧ 0 ≤ r ∧ r < 10 ∧ 0 ≤ t ∧ t < 256 := by
  simp only [madeOk, madeArg, Bool.and_eq_true, decide_eq_true_eq]
theorem made_eq {x : Stt} {r t : Int} (hx : stOk x = true) (hr : 0 ≤ r ∧ r < 10 ∧ 0 ≤ t ∧ t < 256) : madeX x r t = ⟨setR (mapG (forgetV (idAt t)) x.g) r.toNat ⟨2, 0, 0, idAt t, 0⟩, x.s, x.l.filter fun y => decide (y.1 ≠ idAt t)⟩ := by
  have h : madeOk x r t = true := madeOk_iff.2 ⟨hx, hr⟩
  have hid := idAt_eq hr.2.2.1 hr.2.2.2
  simp only [madeX, h, if_true]
  rw [forget_eq (stOk_check hx) (by omega) (by omega)]
theorem may_new {id : Int} (h0 : 0 ≤ id) (h1 : id ≤ 256) : mayF ⟨2, 0, 0, id, 0⟩ = true := by
  simp [mayF, pointerF, h0, h1]
theorem ok_made {x : Stt} {r t : Int} (hx : stOk x = true) (hr : 0 ≤ r ∧ r < 10 ∧ 0 ≤ t ∧ t < 256) : stOk (madeX x r t) = true := by
  rw [made_eq hx hr]
  obtain ⟨a1, a2, a3⟩ := stOk_iff.1 hx
  have hid := idAt_eq hr.2.2.1 hr.2.2.2
  refine stOk_iff.2 ⟨regsAll_iff.1 (regsAll_set _ (regsAll_iff.2 fun i => by rw [reg_map]; exact may_forget _ (a1 i)) (may_new (by omega) (by omega))), a2, filter_check a3 _⟩
theorem made_err {x : Stt} {r t : Int} (hx : stOk x = true) (hr : 0 ≤ r ∧ r < 10 ∧ 0 ≤ t ∧ t < 256) : madeErr x r t = 0 := by
  simp [madeErr, madeOk_iff.2 ⟨hx, hr⟩]
theorem under_made {x y : Stt} {r t : Int} (hx : stOk x = true) (hy : stOk y = true) (hr : 0 ≤ r ∧ r < 10 ∧ 0 ≤ t ∧ t < 256) (h : underB x y = true) : underB (madeX x r t) (madeX y r t) = true := by
  rw [underB_eq (ok_made hx hr) (ok_made hy hr), made_eq hx hr, made_eq hy hr]
  rw [underB_eq hx hy] at h
  obtain ⟨a1, a2, a3⟩ := underF_iff.1 h
  have kx := ks_of (stOk_check hx)
  have ky := ks_of (stOk_check hy)
  refine underF_iff.2 ⟨regs2_iff.1 (regs2_set _ (regs2_iff.2 fun i => by rw [reg_map, reg_map]; exact says_forget _ (a1 i)) (says_refl _)), a2, ?_⟩
  rw [kUnder_iff (ks_filter kx _) (ks_filter ky _)]
  intro i
  rw [kBytes_filter, kBytes_filter]
  split
  · exact Int.le_refl _
  · exact (kUnder_iff kx ky).1 a3 i
theorem bring_range (n : Int) : 0 ≤ bringF n 256 ∧ bringF n 256 < 256 := by
  have h1 : -256 < n.tmod 256 := by
    have := Int.lt_tmod_of_pos n (show (0 : Int) < 256 by decide)
    omega
  have h2 : n.tmod 256 < 256 := Int.tmod_lt_of_pos n (by decide)
  unfold bringF
  split
  · rw [wrap_i64 (by omega) (by omega)]
    omega
  · omega
end Go.Proofs.Ytcjiokiafdagdaa
