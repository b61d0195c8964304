/- The State laws: Called. -/
import Derived.Test.YtcjiokiafdagdaaBI
import Derived.Test.YtcjiokiafdagdaaSxT
namespace Go.Proofs.Ytcjiokiafdagdaa
open Go.Sx Go.RowKit
set_option linter.unusedVariables false
set_option linter.unusedSimpArgs false
set_option maxRecDepth 100000
set_option maxHeartbeats 20000000
def z5 : List SC := [.v (.int .u8 0), .v (.int .u64 0), .v (.int .u64 0), .v (.int .i64 0), .v (.int .i64 0)]
def z25 : List SC := z5 ++ (z5 ++ (z5 ++ (z5 ++ z5)))
/-- clear(s.Regs[1:6]) -/
def R24 (st st' : St G) : Prop := st.nt = 22 ∧ Sx.look st.tmps 15 = none ∧ Sx.look st.tmps 16 = none ∧ ∃ id cs, Sx.look st.tmps 1 = some (.v (.c (.p id 0))) ∧ Sx.look st.heap id = some (.own 31 cs) ∧ cs.length = 67 ∧ st' = ⟨22, st.tmps, st.n, (id, .own 31 (setCs cs 5 z25)) :: st.heap⟩
def ops24 : Array Oper := #[{ dst := some 15, op := .fieldAddr 31 (.tmp 1) 0, type := 0, pos := "state.go:144", after := #[], guard := none },
  { dst := some 16, op := .slice 27 (.tmp 15) (some (.const (.int .i64 1))) (some (.const (.int .i64 6))) none, type := 80, pos := "state.go:144", after := #[{ on := 0, ground := .data }], guard := none },
  { dst := none, op := .call { callee := .builtin .clear, args := #[.tmp 16], argTypes := #[80] }, type := 0, pos := "state.go:144", after := #[{ on := 1, ground := .data }], guard := none }]
theorem hook24 (id : Nat) : HookOK P id ops24 false R24 := by
  rintro st st' ⟨hnt, h15, h16, i, cs, h1, hl, hlen, rfl⟩ E a w w0 B Q hR hQ
  obtain ⟨g, hg, hBg, hw⟩ := hR.hr.own _ _ _ hl
  have hokc := hR.hr.okc _ _ _ (.inl hl)
  have hsz : a.tmps.size = 22 := by rw [hR.tr.size, hnt]
  have e1 : a.tmps[1]? = some (.pointer (some ⟨g, 0, none⟩)) := by
    rw [hR.tr.get _ _ h1]
    simp [ST.den, SV.den, SC.den, hg, Addr.add]
  refine wp_region_list ?_
  show wpList P ops24 Q ops24.toList a w
  refine wpList_step fun K1 hK1 => ?_
  simp only [Region.wanted, if_true]
  have r0 : (execOp a.eval { dst := some 15, op := .fieldAddr 31 (.tmp 1) 0, type := 0, pos := "state.go:144", after := #[], guard := none }).run P w = .ok (.value (.pointer (some ⟨g, 0, none⟩))) w := by
    refine (pureOp_sound (st := st) (o := { dst := some 15, op := .fieldAddr 31 (.tmp 1) 0, type := 0, pos := "state.go:144", after := #[], guard := none }) eqs_ok hR.tr hR.hr (r := .v (.c (.p i 0))) (.inl ?_)).1.trans ?_
    · show pureOp P eqs st (.fieldAddr 31 (.tmp 1) 0) = _
      have e : pureOp P eqs st (.fieldAddr 31 (.tmp 1) 0) = fieldAddrV P 31 (.c (.p i 0)) 0 := by simp only [pureOp, evalV, evalO, h1]
      refine e.trans ?_
      show fieldAddrV Try.prog 31 (.c (.p i 0)) 0 = OR.ok (.v (.c (.p i 0)))
      kernel_rfl
    · simp [ST.den, SV.den, SC.den, hg, Addr.add]
  unfold Oper.wp
  rw [r0]
  refine hK1 _ _ ?_
  refine wpList_step fun K2 hK2 => ?_
  simp only [Region.wanted, if_true]
  have r1 : (execOp (a.put (some 15) (.pointer (some ⟨g, 0, none⟩))).eval { dst := some 16, op := .slice 27 (.tmp 15) (some (.const (.int .i64 1))) (some (.const (.int .i64 6))) none, type := 80, pos := "state.go:144", after := #[{ on := 0, ground := .data }], guard := none }).run P w = .ok (.value (.slice (some ⟨g, 5, none⟩) 5 9)) w := by
    have ev : (a.put (some 15) (.pointer (some ⟨g, 0, none⟩))).eval (.tmp 15) = .pointer (some ⟨g, 0, none⟩) := by
      simp [Act.put, Act.eval, hsz]
    show (execOp _ _).run P w = _
    unfold execOp
    obtain ⟨i26, hi⟩ : ∃ i, P.info? 26 = some i := Option.isSome_iff_exists.1 (by kernel_rfl)
    simp only [ev, Sem.run_bind, Option.map_some, Option.map_none]
    have c1 : (a.put (some 15) (.pointer (some ⟨g, 0, none⟩))).eval (.const (.int .i64 1)) = .int .i64 1 := rfl
    have c6 : (a.put (some 15) (.pointer (some ⟨g, 0, none⟩))).eval (.const (.int .i64 6)) = .int .i64 6 := rfl
    rw [c1, c6, run_sliceAt_array_lh w 27 ⟨g, 0, none⟩ (by kernel_rfl) .i64 .i64 1 6 (by decide) (by decide) (by rw [show P.arrayLen 27 = 10 from by kernel_rfl]; decide)]
    rw [show P.elem 27 = 26 from by kernel_rfl, run_sizeOf (w := w) hi, show P.cellsOf 26 = 5 from by kernel_rfl, show P.arrayLen 27 = 10 from by kernel_rfl]
    rfl
  unfold Oper.wp
  rw [r1]
  refine hK2 _ _ ?_
  refine wpList_step fun K3 hK3 => ?_
  simp only [Region.wanted, if_true]
  have r2 : (execOp ((a.put (some 15) (.pointer (some ⟨g, 0, none⟩))).put (some 16) (.slice (some ⟨g, 5, none⟩) 5 9)).eval { dst := none, op := .call { callee := .builtin .clear, args := #[.tmp 16], argTypes := #[80] }, type := 0, pos := "state.go:144", after := #[{ on := 1, ground := .data }], guard := none }).run P w = .ok (.value (.tuple #[])) (w.setRow g ((setCs cs 5 z25).map (SC.den E)).toArray) := by
    have ev : ((a.put (some 15) (.pointer (some ⟨g, 0, none⟩))).put (some 16) (.slice (some ⟨g, 5, none⟩) 5 9)).eval (.tmp 16) = .slice (some ⟨g, 5, none⟩) 5 9 := by
      simp [Act.put, Act.eval, hsz]
    show (execOp _ _).run P w = _
    unfold execOp
    have hz : (zeroValue 26).run P w = .ok ((SV.a z5).den E) w := (run_zeroV (E := E) (z := .a z5) (by kernel_rfl) st.n w).1
    have hzc : (Builtin.zeroCells ((SV.a z5).den E).cells 5).toList = z25.map (SC.den E) := by
      have := flatten_cells (z5.map (SC.den E)) 5 (by simp [z5])
      show ((Array.range (5 * (z5.map (SC.den E)).length)).map ((z5.map (SC.den E)).toArray[· % (z5.map (SC.den E)).toArray.size]!)).toList = _
      rw [this]
      rfl
    have hst := run_storeCells_at P g 5 31 (z25.map (SC.den E)) 0 _ w hw (by simp [hlen, z25, z5]) (by
      intro v hv
      simp only [z25, z5, List.cons_append, List.nil_append, List.map_cons, List.map_nil, List.mem_cons, List.not_mem_nil, or_false] at hv
      rcases hv with rfl | rfl | rfl | rfl | rfl | rfl | rfl | rfl | rfl | rfl | rfl | rfl | rfl | rfl | rfl | rfl | rfl | rfl | rfl | rfl | rfl | rfl | rfl | rfl | rfl <;> rfl)
    have hcl : (Builtin.clear_ #[80] 0 #[.slice (some ⟨g, 5, none⟩) 5 9]).run P w = .ok (.tuple #[]) (w.setRow g ((setCs cs 5 z25).map (SC.den E)).toArray) := by
      simp [Builtin.clear_, run_underlying (by kernel_rfl : P.underlying 80 = some (.slice 26)), hz, hzc, Result.andThen]
      rw [hst, setCs_den]
    simp [resolve, ev, Deferred.ofValue, invoke]
    show ((do pure (Next.value (← Builtin.clear_ #[80] 0 #[.slice (some ⟨g, 5, none⟩) 5 9])) : Sem Next)).run P w = _
    simp only [Sem.run_bind, hcl, Result.andThen_ok, Sem.run_pure]
  unfold Oper.wp
  rw [r2]
  refine hK3 _ _ ?_
  refine wpList_nil ?_
  refine hQ E _ _ ?_
  have hnew := hR.hr.store (new := setCs cs 5 z25) hl hg (setCs_okn hokc (fun c hc => by
    simp only [z25, z5, List.cons_append, List.nil_append, List.mem_cons, List.not_mem_nil, or_false] at hc
    rcases hc with rfl | rfl | rfl | rfl | rfl | rfl | rfl | rfl | rfl | rfl | rfl | rfl | rfl | rfl | rfl | rfl | rfl | rfl | rfl | rfl | rfl | rfl | rfl | rfl | rfl <;> rfl))
  refine ⟨?_, hnew, ?_, by simpa using hR.base, hR.ag, hR.le, fun j gg ad hj h0 h1 => by
    simp only [look_cons] at hj
    split at hj
    · injection hj with hj; cases hj
    · exact hR.fresh j gg ad hj h0 h1⟩
  · refine ⟨by simp [Act.put, hsz], fun d x hx => ?_, fun d x hx => hR.tr.ok d x hx, hR.tr.defs⟩
    have n15 : d ≠ 15 := fun e => by subst e; rw [h15] at hx; cases hx
    have n16 : d ≠ 16 := fun e => by subst e; rw [h16] at hx; cases hx
    simp only [Act.put]
    rw [Array.getElem?_setIfInBounds_ne (fun e => n16 e.symm), Array.getElem?_setIfInBounds_ne (fun e => n15 e.symm)]
    exact hR.tr.get d x hx
  · exact hR.below.trans ⟨rfl, rfl, rfl, by simp, fun k hk => setRow_other w g k _ (by omega)⟩
def hk24 : List Nat → Option (St G → St G → Prop) := fun pt => match pt with
  | [0, 1, 1, 1] => some R24
  | _ => none
theorem hooks24 {c : Code} (hc : codeAt c [0, 1, 1, 1] = some (.region 5 ops24 false)) : HooksOK hk24 P c := by
  intro pt R h id ops draw hp
  unfold hk24 at h
  split at h
  · injection h with h
    subst h
    rw [hc] at hp
    injection hp with hp
    injection hp with a1 a2 a3
    subst a1; subst a2; subst a3
    exact hook24 _
  · cases h
def calledG (g : Rg) : Rg := ⟨⟨1, 0, top, 0, 0⟩, vZero, vZero, vZero, vZero, vZero, g.r6, g.r7, g.r8, g.r9⟩
def calledX (x : Stt) : Stt := if stOk x = true then ⟨calledG x.g, x.s, x.l⟩ else zeroSt
def called24T : List (AV G) → Option (Bool × AT G)
  | [a] => stA a fun x => some (true, .t [stV (calledX x), .c (ci (stCheck x))])
  | _ => none
theorem called24_ok : ∀ a r, called24T a = some (true, r) → AOK G P 24 a r := by
  intro args r h
  unfold called24T at h
  split at h
  · refine stA_one h (fun x h => ?_)
    cases h
    by_cases hk : stOk x = true
    · have e1 : calledX x = ⟨calledG x.g, x.s, x.l⟩ := by simp [calledX, hk]
      have e2 : stCheck x = 0 := by simp [stCheck, hk]
      have hq : (stCheck x != 0) = false := by rw [e2]; rfl
      have hlen : decide (x.l.length ≤ 257) = true := decide_eq_true (kCheck_len (stOk_check hk))
      rw [e1, e2]
      refine aok_execH (aTabOK_cons (aTabOK_cons (aTabOK_cons aTabOK_nil clone56_ok) all57_ok) check11_ok) mixed eqs_ok 11 [] [] Try.func24 rfl rfl rfl rfl (avs := [.a (stS x 0)]) (H0 := [(0, .ext (.k x.l))]) (n0 := 1) (res := .t [.a (gsS (calledG x.g) x.s (.r 1)), .c (.v (.int .i64 0))]) (new := [.ext (.k x.l)]) rfl rfl rfl rfl rfl rfl (hk := hk24) (hooks24 rfl) ?_
      repeat' ((conv => whnf); first | with_reducible refine br_pre rfl ?_ | with_reducible refine br_true ?_ | with_reducible refine br_false ?_ | with_reducible refine br_true' (by assumption) ?_ | with_reducible refine br_false' (by assumption) ?_ | with_reducible refine br_pre (by assumption) ?_ | (with_reducible refine br_intro (fun h => ?_) (fun h => ?_) <;> try exact absurd h (by decide)) | ((with_reducible apply drw_intro); · kernel_rfl))
      conv => whnf
      refine ⟨_, ⟨rfl, rfl, rfl, 1, _, rfl, rfl, rfl, rfl⟩, ?_⟩
      repeat' ((conv => whnf); first | with_reducible refine br_pre rfl ?_ | with_reducible refine br_true ?_ | with_reducible refine br_false ?_ | with_reducible refine br_true' (by assumption) ?_ | with_reducible refine br_false' (by assumption) ?_ | with_reducible refine br_pre (by assumption) ?_ | (with_reducible refine br_intro (fun h => ?_) (fun h => ?_) <;> try exact absurd h (by decide)) | ((with_reducible apply drw_intro); · kernel_rfl))
      conv => whnf
      refine doneA_intro [some 3] rfl rfl rfl ?_ ⟨rfl, trivial⟩
      repeat' (first | rfl | exact True.intro | refine And.intro ?_ ?_)
    · have e1 : calledX x = zeroSt := by simp [calledX, hk]
      have e2 : stCheck x = 2 := by simp [stCheck, hk]
      have hq : (stCheck x != 0) = true := by rw [e2]; rfl
      rw [e1, e2]
      refine aok_exec (aTabOK_cons aTabOK_nil check11_ok) mixed eqs_ok 11 [] [] Try.func24 rfl rfl rfl rfl (avs := [.a (stS x 0)]) (H0 := [(0, .ext (.k x.l))]) (n0 := 1) (res := .t [.a (stS zeroSt 1), .c (.v (.int .i64 2))]) (new := [.ext (.k [])]) rfl rfl rfl rfl rfl rfl ?_
      refine of_execR ?_; repeat' ((conv => whnf); first | with_reducible refine br_pre rfl ?_ | with_reducible refine br_true ?_ | with_reducible refine br_false ?_ | with_reducible refine br_true' (by assumption) ?_ | with_reducible refine br_false' (by assumption) ?_ | with_reducible refine br_pre (by assumption) ?_ | (with_reducible refine br_intro (fun h => ?_) (fun h => ?_) <;> try exact absurd h (by decide)) | ((with_reducible apply drw_intro); · kernel_rfl))
      conv => whnf
      refine doneA_intro [none] rfl rfl rfl ?_ ⟨rfl, trivial⟩
      refine ⟨?_, e2, trivial⟩
      repeat' (first | rfl | exact True.intro | refine And.intro ?_ ?_)
  · cases h
end Go.Proofs.Ytcjiokiafdagdaa
