/- The State laws: works. -/
import Derived.Test.YtcjiokiafdagdaaBI
import Derived.Test.YtcjiokiafdagdaaBJ
namespace Go.Proofs.Ytcjiokiafdagdaa
open Go.Sx Go.RowKit
set_option linter.unusedVariables false
set_option linter.unusedSimpArgs false
set_option maxRecDepth 100000
set_option maxHeartbeats 1000000
def works21T : List (AV G) → Option (Bool × AT G)
  | [] => some (true, boA true)
  | _ => none
theorem works21_ok : ∀ a r, works21T a = some (true, r) → AOK G P 21 a r := by
  intro args r h
  unfold works21T at h
  split at h
  · cases h
    exact aok_execO (aTabOK_cons (aTabOK_cons (aTabOK_cons (aTabOK_cons (aTabOK_cons (aTabOK_cons (aTabOK_cons (aTabOK_cons (aTabOK_cons aTabOK_nil num29_ok) pkt30_ok) end33_ok) with32_ok) join17_ok) moved22_ok) under15_ok) same13_ok) start31_ok) mixed eqs_ok 11 [(11, ⟨[(0, true), (1, true), (2, true), (3, true), (4, true), (5, true), (6, true), (7, true), (8, true), (9, true), (10, true), (11, true), (12, true), (13, true), (14, true), (15, true), (16, true), (17, true), (18, true), (19, true), (20, true), (21, true), (22, false), (23, false), (24, true), (25, true), (26, true), (27, true), (28, true), (29, true), (30, true), (31, true), (32, true), (33, true), (35, true), (34, false), (36, true), (37, true), (38, true)], [], []⟩)] Try.func21 rfl rfl rfl rfl (avs := []) (H0 := []) (n0 := 0) (res := .v (.c (.v (.bool true)))) rfl rfl rfl rfl rfl rfl rfl (by kernel_rfl)
  · cases h
end Go.Proofs.Ytcjiokiafdagdaa
