/- SpanLeft: numbers within spans, and what is reckoned at fixed numbers. -/
import Derived.Test.YtnahgpoafghchaaA1
namespace Go.Proofs.Ytnahgpoafghchaa
open Go.Sx Go.RowKit
set_option linter.unusedVariables false
set_option linter.unusedSimpArgs false
set_option maxRecDepth 100000
set_option maxHeartbeats 2000000
def top : Int := 18446744073709551615
def insideF (a b n : Int) : Int := if (a == 0) = true ∧ (b == top) = true then n else IntKind.u64.wrap (a + n.tmod (IntKind.u64.wrap (IntKind.u64.wrap (b - a) + 1)))
def insideT : List SV → Option (Bool × ST)
  | [.a [.v (.int .u64 a), .v (.int .u64 b)], .c (.v (.int .u64 n))] => some (decide (0 ≤ a) && decide (a ≤ b) && decide (b ≤ top), .v (u64 (insideF a b n)))
  | _ => none
def plans7 : List (Nat × Plan) := [(3, ⟨[(0, true), (1, true), (2, true), (3, true), (4, true), (5, true), (6, true), (7, true), (8, true), (9, true), (10, true), (11, true)], [], []⟩)]
theorem wrap_u64 (x : Int) : IntKind.u64.wrap x = x % 18446744073709551616 := by
  simp only [IntKind.wrap, IntKind.bits, IntKind.signed]
  simp
theorem inside_ok : ∀ a r, insideT a = some (true, r) → PureOK G0 P 7 a r := by
  intro args r h
  unfold insideT at h
  split at h
  · rename_i a b n
    injection h with h
    injection h with h1 h2
    subst h2
    simp only [Bool.and_eq_true, decide_eq_true_eq, top] at h1
    refine pure_exec (T := Tab.nil) tabOK_nil mixed eqs_ok 0 plans7 Try.func7 rfl rfl rfl rfl rfl rfl rfl rfl ?_
    repeat' ((conv => whnf); first | with_reducible refine br_true ?_ | with_reducible refine br_false ?_ | (with_reducible refine br_intro (fun h => ?_) (fun h => ?_) <;> try exact absurd h (by decide)) | ((with_reducible apply drw_intro); · kernel_rfl))
    all_goals try (conv => whnf)
    all_goals try refine done_intro rfl rfl rfl (show (_ : Int) = _ from ?_)
    all_goals first
      | (simp_all [insideF, top]; done)
      | (exfalso
         obtain ⟨⟨g1, g2⟩, g3⟩ := h1
         have g4 : b ≤ 18446744073709551615 := of_decide_eq_true g3
         simp [wrap_u64] at *
         omega)
  · cases h
def add64T : List SV → Option (Bool × ST)
  | [.c (.v (.int .u64 x)), .c (.v (.int .u64 y)), .c (.v (.int .u64 z))] => some ((x == 1 && y == 10 && z == 0) || (x == 5 && y == 20 && z == 0), .t [u64 (x + y), u64 0])
  | _ => none
theorem value_ok {f : FuncId} {args : List SV} {r : ST} (ha : args.all plainV = true) (hr : plainT r = true) (h : ∀ (w : World), (callFunc f (args.map (SV.den ⟨fun _ => none, fun _ => 0, fun _ => 0⟩)).toArray).run P w = .ok (.value (r.den ⟨fun _ => none, fun _ => 0, fun _ => 0⟩)) w) : PureOK G0 P f args r := by
  refine pureOK_of ?_ ha hr
  intro E w hH hargs
  right
  have hc : ∀ c, plainC c = true → c.den ⟨fun _ => none, fun _ => 0, fun _ => 0⟩ = c.den E := by
    intro c hc
    cases c <;> simp_all [plainC, SC.den]
  have hv : ∀ x, plainV x = true → x.den ⟨fun _ => none, fun _ => 0, fun _ => 0⟩ = x.den E := by
    intro x hx
    cases x with
    | c x => exact hc x hx
    | a cs => simp only [SV.den]; rw [List.map_congr_left (fun c h => hc c (List.all_eq_true.1 (hx : cs.all plainC = true) c h))]
  have ht : r.den ⟨fun _ => none, fun _ => 0, fun _ => 0⟩ = r.den E := by
    cases r with
    | v x => exact hv x hr
    | t xs => simp only [ST.den]; rw [List.map_congr_left (fun x h => hv x (List.all_eq_true.1 (hr : xs.all plainV = true) x h))]
  have hcn : ∀ c n, plainC c = true → c.okn E n := by
    intro c n hc
    cases c <;> simp_all [plainC, SC.okn]
  have hvn : ∀ x n, plainV x = true → x.okn E n := by
    intro x n hx
    cases x with
    | c x => exact hcn x n hx
    | a cs => exact fun c h => hcn c n (List.all_eq_true.1 (hx : cs.all plainC = true) c h)
  refine ⟨_, ?_, E, Ag.refl _ _, rfl, ?_, Below.refl _ _, fun k b hk => by cases hk⟩
  · rw [← List.map_congr_left (fun x h => hv x (List.all_eq_true.1 ha x h)), ← ht]
    exact h w
  · cases r with
    | v x => exact hvn x _ hr
    | t xs => exact fun x h => hvn x _ (List.all_eq_true.1 (hr : xs.all plainV = true) x h)
theorem add64_ok : ∀ a r, add64T a = some (true, r) → PureOK G0 P 21 a r := by
  intro args r h
  unfold add64T at h
  split at h
  · injection h with h
    injection h with h1 h2
    subst h2
    simp only [Bool.and_eq_true, Bool.or_eq_true, beq_iff_eq] at h1
    rcases h1 with ⟨⟨rfl, rfl⟩, rfl⟩ | ⟨⟨rfl, rfl⟩, rfl⟩
    · exact value_ok rfl rfl (fun w => by kernel_rfl)
    · exact value_ok rfl rfl (fun w => by kernel_rfl)
  · cases h
def len64T : List SV → Option (Bool × ST)
  | [.c (.v (.int .u64 x))] => some (x == 9, .v (.c (.v (.int .i64 4))))
  | _ => none
theorem len64_ok : ∀ a r, len64T a = some (true, r) → PureOK G0 P 26 a r := by
  intro args r h
  unfold len64T at h
  split at h
  · injection h with h
    injection h with h1 h2
    subst h2
    obtain rfl := eq_of_beq h1
    refine pure_exec (T := Tab.nil) tabOK_nil mixed eqs_ok 0 [] Try.func26 rfl rfl rfl rfl rfl rfl rfl rfl ?_
    repeat' ((conv => whnf); first | with_reducible refine br_true ?_ | with_reducible refine br_false ?_ | (with_reducible refine br_intro (fun h => ?_) (fun h => ?_) <;> try exact absurd h (by decide)) | ((with_reducible apply drw_intro); · kernel_rfl))
    all_goals refine done_intro rfl rfl rfl (show (_ : Int) = _ from ?_)
    all_goals rfl
  · cases h
end Go.Proofs.Ytnahgpoafghchaa
