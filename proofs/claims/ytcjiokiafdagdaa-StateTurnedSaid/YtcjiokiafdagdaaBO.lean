/- The State laws: the order of states, plain. -/
import Derived.Test.YtcjiokiafdagdaaBM
namespace Go.Proofs.Ytcjiokiafdagdaa
open Go.Sx Go.RowKit
set_option linter.unusedVariables false
set_option linter.unusedSimpArgs false
set_option maxRecDepth 100000
set_option maxHeartbeats 1000000
theorem ok2 {x y : Stt} (hx : stOk x = true) (hy : stOk y = true) : stOk2 x y = true := by simp [stOk2, hx, hy]
theorem ok2_iff {x y : Stt} : stOk2 x y = true ↔ stOk x = true ∧ stOk y = true := by simp [stOk2]
theorem joinX_eq {x y : Stt} (hx : stOk x = true) (hy : stOk y = true) : joinX x y = joinG commonF x y := by simp [joinX, ok2 hx hy]
theorem underB_eq {x y : Stt} (hx : stOk x = true) (hy : stOk y = true) : underB x y = underF x y := by simp [underB, ok2 hx hy]
theorem err2_eq {x y : Stt} (hx : stOk x = true) (hy : stOk y = true) : err2 x y = 0 := by simp [err2, ok2 hx hy]
theorem known_join (f : Vl → Vl → Vl) {x y : Stt} (hx : stOk x = true) (hy : stOk y = true) : (joinG f x y).l = joinL x.l y.l := joinR_ok (stOk_check hx) (stOk_check hy)
theorem ok_join {x y : Stt} (hx : stOk x = true) (hy : stOk y = true) : stOk (joinX x y) = true := by
  rw [joinX_eq hx hy]
  obtain ⟨a1, a2, a3⟩ := stOk_iff.1 hx
  obtain ⟨b1, b2, b3⟩ := stOk_iff.1 hy
  refine stOk_iff.2 ⟨fun i => ?_, fun i => ?_, ?_⟩
  · rw [reg_join]; exact may_common (a1 i) (b1 i)
  · rw [slot_join]; exact may_spJ (a2 i) (b2 i)
  · rw [known_join commonF hx hy]; exact join_check a3 b3
theorem under_refl {x : Stt} (hx : stOk x = true) : underB x x = true := by
  rw [underB_eq hx hx]
  have hk := ks_of (stOk_check hx)
  exact underF_iff.2 ⟨fun i => says_refl _, fun i => spU_iff.2 ⟨by omega, by omega⟩, (kUnder_iff hk hk).2 fun i => Int.le_refl _⟩
theorem under_trans {x y z : Stt} (hx : stOk x = true) (hy : stOk y = true) (hz : stOk z = true) (h1 : underB x y = true) (h2 : underB y z = true) : underB x z = true := by
  rw [underB_eq hx hy] at h1
  rw [underB_eq hy hz] at h2
  rw [underB_eq hx hz]
  have kx := ks_of (stOk_check hx)
  have ky := ks_of (stOk_check hy)
  have kz := ks_of (stOk_check hz)
  obtain ⟨a1, a2, a3⟩ := underF_iff.1 h1
  obtain ⟨b1, b2, b3⟩ := underF_iff.1 h2
  refine underF_iff.2 ⟨fun i => says_trans (a1 i) (b1 i) ((stOk_iff.1 hy).1 i) ((stOk_iff.1 hz).1 i), fun i => ?_, ?_⟩
  · have p := spU_iff.1 (a2 i)
    have q := spU_iff.1 (b2 i)
    exact spU_iff.2 ⟨by omega, by omega⟩
  · rw [kUnder_iff kx kz]
    exact fun i => Int.le_trans ((kUnder_iff ky kz).1 b3 i) ((kUnder_iff kx ky).1 a3 i)
theorem under_anti {x y : Stt} (hx : stOk x = true) (hy : stOk y = true) (h1 : underB x y = true) (h2 : underB y x = true) : x = y := by
  rw [underB_eq hx hy] at h1
  rw [underB_eq hy hx] at h2
  have kx := ks_of (stOk_check hx)
  have ky := ks_of (stOk_check hy)
  obtain ⟨a1, a2, a3⟩ := underF_iff.1 h1
  obtain ⟨b1, b2, b3⟩ := underF_iff.1 h2
  obtain ⟨x1, x2, x3⟩ := stOk_iff.1 hx
  obtain ⟨y1, y2, y3⟩ := stOk_iff.1 hy
  have e1 : x.g = y.g := reg_ext fun i => says_anti (x1 i) (y1 i) (a1 i) (b1 i)
  have e2 : x.s = y.s := slot_ext fun i => by
    have p := spU_iff.1 (a2 i)
    have q := spU_iff.1 (b2 i)
    have : ∀ s t : Sp, s.lo = t.lo → s.hi = t.hi → s = t := fun s t h1 h2 => by cases s; cases t; simp_all
    exact this _ _ (by omega) (by omega)
  have e3 : x.l = y.l := known_ext kx ky fun i => Int.le_antisymm ((kUnder_iff ky kx).1 b3 i) ((kUnder_iff kx ky).1 a3 i)
  cases x; cases y
  simp_all
theorem under_join {x y : Stt} (hx : stOk x = true) (hy : stOk y = true) : underB x (joinX x y) = true := by
  rw [underB_eq hx (ok_join hx hy), joinX_eq hx hy]
  have kx := ks_of (stOk_check hx)
  have ky := ks_of (stOk_check hy)
  refine underF_iff.2 ⟨fun i => ?_, fun i => ?_, ?_⟩
  · rw [reg_join]; exact says_common _ _
  · rw [slot_join]; exact spU_join _ _
  · rw [known_join commonF hx hy, kUnder_iff kx (join_ks kx ky)]
    intro i
    rw [kBytes_join kx ky]
    unfold mn
    split <;> omega
theorem same_anti {x y : Stt} (hx : stOk x = true) (hy : stOk y = true) : stSame x y = (underB x y && underB y x) := by
  rw [Bool.eq_iff_iff]
  rw [stSame_iff, Bool.and_eq_true]
  constructor
  · rintro rfl
    exact ⟨under_refl hx, under_refl hx⟩
  · rintro ⟨h1, h2⟩
    exact under_anti hx hy h1 h2
theorem st_ext {x y : Stt} (h1 : ∀ i, reg x.g i = reg y.g i) (h2 : ∀ i, slot x.s i = slot y.s i) (h3 : x.l = y.l) : x = y := by
  have := reg_ext h1
  have := slot_ext h2
  cases x; cases y
  simp_all
theorem joinX_comm {x y : Stt} (hx : stOk x = true) (hy : stOk y = true) : joinX x y = joinX y x := by
  rw [joinX_eq hx hy, joinX_eq hy hx]
  have kx := ks_of (stOk_check hx)
  have ky := ks_of (stOk_check hy)
  refine st_ext (fun i => ?_) (fun i => ?_) ?_
  · rw [reg_join, reg_join]; exact common_comm _ _
  · rw [slot_join, slot_join]; exact spJ_comm _ _
  · rw [known_join commonF hx hy, known_join commonF hy hx]
    refine known_ext (join_ks kx ky) (join_ks ky kx) fun i => ?_
    rw [kBytes_join kx ky, kBytes_join ky kx]
    unfold mn
    split <;> split <;> omega
theorem joinX_says {x y : Stt} (hx : stOk x = true) (hy : stOk y = true) : underB x y = true ↔ joinX x y = y := by
  rw [underB_eq hx hy, joinX_eq hx hy]
  have kx := ks_of (stOk_check hx)
  have ky := ks_of (stOk_check hy)
  obtain ⟨x1, x2, x3⟩ := stOk_iff.1 hx
  obtain ⟨y1, y2, y3⟩ := stOk_iff.1 hy
  constructor
  · intro h
    obtain ⟨a1, a2, a3⟩ := underF_iff.1 h
    refine st_ext (fun i => ?_) (fun i => ?_) ?_
    · rw [reg_join]; exact (common_says (x1 i) (y1 i)).1 (a1 i)
    · rw [slot_join]; exact spJ_says.1 (a2 i)
    · rw [known_join commonF hx hy]
      refine known_ext (join_ks kx ky) ky fun i => ?_
      rw [kBytes_join kx ky]
      have := (kUnder_iff kx ky).1 a3 i
      unfold mn
      split <;> omega
  · intro h
    refine underF_iff.2 ⟨fun i => ?_, fun i => ?_, ?_⟩
    · refine (common_says (x1 i) (y1 i)).2 ?_
      rw [← reg_join commonF x y i, h]
    · refine spJ_says.2 ?_
      rw [← slot_join commonF x y i, h]
    · rw [kUnder_iff kx ky]
      intro i
      have : y.l = joinL x.l y.l := by rw [← known_join commonF hx hy, h]
      rw [this, kBytes_join kx ky]
      unfold mn
      split <;> omega
theorem joinX_self {x : Stt} (hx : stOk x = true) : joinX x x = x := (joinX_says hx hx).1 (under_refl hx)
theorem joinX_again {x y : Stt} (hx : stOk x = true) (hy : stOk y = true) : joinX (joinX x y) x = joinX x y := by
  rw [joinX_comm (ok_join hx hy) hx]
  exact (joinX_says hx (ok_join hx hy)).1 (under_join hx hy)
end Go.Proofs.Ytcjiokiafdagdaa
