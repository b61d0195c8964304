/- SpanLeft: the law's own call 'works'. -/
import Derived.Test.YtnahgpoafghchaaA2
import Derived.Test.YtnahgpoafghchaaA4
import Derived.Test.YtnahgpoafghchaaSxM
namespace Go.Proofs.Ytnahgpoafghchaa
open Go.Sx Go.RowKit
set_option linter.unusedVariables false
set_option linter.unusedSimpArgs false
set_option maxRecDepth 100000
def worksT : List SV → Option (Bool × ST)
  | [] => some (true, .v (bo true))
  | _ => none
def plans4 : List (Nat × Plan) := [(6, ⟨[(0, true), (1, true), (2, true), (3, true), (4, true), (5, true), (6, true), (7, true), (8, true), (9, true), (10, true), (11, true), (12, true), (13, true), (14, true), (15, true), (16, true), (17, true), (18, true), (19, true), (20, true), (21, true), (22, true), (23, true), (24, true), (25, true), (26, true), (27, true), (28, true), (29, true), (30, true), (31, true), (32, true), (33, true), (34, true), (35, true), (36, true), (37, true), (38, true), (39, true), (40, true), (41, true), (42, true), (43, true), (44, true), (45, true), (46, true), (47, true), (48, true)], [], []⟩)]
theorem tab5_ok : TabOK G0 P (Tab.cons 6 cutT (Tab.cons 8 compareT (Tab.cons 11 doT (Tab.cons 12 toT (Tab.cons 13 oneT Tab.nil))))) :=
  tabOK_cons (tabOK_cons (tabOK_cons (tabOK_cons (tabOK_cons tabOK_nil one_ok) to_ok) do_ok) compare_ok) cut_ok
theorem works_ok : ∀ a r, worksT a = some (true, r) → PureOK G0 P 4 a r := by
  intro args r h
  unfold worksT at h
  split at h
  · cases h
    exact pure_execO tab5_ok mixed eqs_ok 0 plans4 Try.func4 rfl rfl rfl rfl rfl rfl rfl rfl (by kernel_rfl)
  · cases h
end Go.Proofs.Ytnahgpoafghchaa
