/- The State laws: StateKnown, the text. -/
import Derived.Test.YtcjiokiafdagdaaBK
import Derived.Test.YtcjiokiafdagdaaBS
import Derived.Test.YtcjiokiafdagdaaBT
namespace Go.Proofs.Ytcjiokiafdagdaa
open Go.Sx Go.RowKit
set_option linter.unusedVariables false
set_option linter.unusedSimpArgs false
set_option maxRecDepth 100000
set_option maxHeartbeats 20000000
def known8T : List (AV G) → Option (Bool × AT G)
  | [] => some (true, boA true)
  | _ => none
theorem known8_ok : AOK G P 8 [] (boA true) :=
  aok_execO (aTabOK_cons (aTabOK_cons (aTabOK_cons (aTabOK_cons (aTabOK_cons (aTabOK_cons (aTabOK_cons (aTabOK_cons (aTabOK_cons (aTabOK_cons (aTabOK_cons (aTabOK_cons (aTabOK_cons aTabOK_nil works21_ok) num29_ok) pkt30_ok) end33_ok) with32_ok) join17_ok) moved22_ok) under15_ok) same13_ok) start31_ok) called24_ok) made26_ok) check11_ok) mixed eqs_ok 13 [(4, ⟨[(0, true), (1, true), (2, true), (3, true), (4, true), (5, false)], [], []⟩), (6, ⟨[(0, true), (1, true), (2, true), (3, true), (4, true), (5, false)], [], []⟩), (7, ⟨[(0, true), (1, true), (2, true), (3, true), (4, true), (5, false)], [], []⟩), (13, ⟨[(0, true), (1, true), (2, true), (3, true), (4, true), (5, false)], [], []⟩), (17, ⟨[(0, true), (1, true), (2, true), (3, true), (4, false), (5, false), (6, true), (7, true), (8, true)], [9], [(10, false), (11, true)]⟩), (18, ⟨[(1, true), (2, true), (3, true), (4, true), (0, false), (5, false), (6, true), (7, true), (8, true)], [9], [(10, false), (11, true)]⟩), (19, ⟨[(0, true), (1, true), (2, true), (3, true), (4, true), (5, true), (6, true), (7, true), (8, true), (9, true), (10, true), (11, true), (12, true), (13, true)], [], []⟩), (52, ⟨[(0, true), (1, true), (2, true), (3, true), (4, false), (5, true), (6, true), (7, true), (8, true), (9, true), (10, true), (11, true), (12, true), (13, true), (14, false), (15, false), (16, true), (17, true), (18, true), (19, true), (20, true), (21, true), (22, true), (23, true), (24, true), (25, true), (26, true), (27, true), (28, true), (29, true), (30, true), (31, true), (32, true), (33, true), (34, true), (35, true), (36, true), (37, true), (38, true), (39, true), (40, true), (41, true), (42, true), (43, true), (44, true), (45, true), (46, true), (47, true), (48, true), (49, true), (50, true), (51, true), (52, true), (53, true), (54, true), (55, true), (56, true), (57, true), (58, true), (59, true), (60, false), (61, true), (62, true), (63, true)], [], []⟩)] Try.func8 rfl rfl rfl rfl (avs := []) (H0 := []) (n0 := 0) (res := .v (.c (.v (.bool true)))) rfl rfl rfl rfl rfl rfl rfl (by kernel_rfl)
end Go.Proofs.Ytcjiokiafdagdaa
