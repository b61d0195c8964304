/- The executor's answers are the model's: whole texts. -/
import Derived.Test.YtcjiokiafdagdaaSxH3
namespace Go.Sx
open Go.RowKit
set_option linter.unusedVariables false
set_option linter.unusedSimpArgs false
set_option linter.unusedSectionVars false
section
variable {γ : Type} [Gh γ] {cx : Cx γ} {E : Env} {st : St γ} {a : Act} {w : World} {w0 : Beg} {B n m nt : Nat} {Q : Exit → Act → World → Prop} {ids : List Nat} {ops : Array Oper} {al : List Nat}
variable {listed : Array Bool} {D : List (Nat × Nat)}
/-- A variable of the region, and another operation that may come up. -/
theorem Inv.dst_ne (hI : Inv cx ops al B w0 listed E st a D) (hal : ∀ k ∈ al, AlOK cx ops nt k) {k i : Nat} {o oi : Oper} {d : Nat} (hk : k ∈ al) (ho : ops[k]? = some o) (hd : o.dst = some d) (hi : i ∈ Region.ready .any ops listed) (hoi : ops[i]? = some oi) (hne : i ≠ k) : oi.dst ≠ some d := by
  have hap := (hal k hk).apart o i oi ho hoi hne (fun e he hb heq => by
    obtain ⟨_, o'', ho'', hall⟩ := mem_ready.1 hi
    rw [hoi] at ho''
    injection ho'' with e'
    subst e'
    have h3 := hall e he hb
    rw [heq] at h3
    have h4 := (mem_ready.1 (hI.rd k hk)).1
    rw [Array.getD_eq_getD_getElem?] at h3 h4
    cases hx : listed[k]? with
    | none => rw [hx] at h3; cases h3
    | some b => rw [hx] at h3 h4; simp at h3 h4; rw [h3] at h4; cases h4)
  exact (Oper.apart_spec hap).2.1 d hd
theorem phase (he : EqOK cx.P cx.eqs) (hc : CallsOK cx) (hsel : Region.noSelect ops = true) (hQ : ∀ c a w a', Q (.panic c) a' w → Q (.panic c) a w) (hnd : al.Nodup) (hal : ∀ k ∈ al, AlOK cx ops nt k) (f0 : Nat) {K : St γ → Prop} :
    ∀ (N : Nat) (plan : List (Nat × Bool)) (listed : Array Bool) (E : Env) (st : St γ) (a : Act) (D : List (Nat × Nat)), plan.length + (al.length - D.length) = N → st.nt = nt → goB ops al plan listed = true → Inv cx ops al B w0 listed E st a D →
      execPlan cx ids m ops plan st K →
      (∀ (E' : Env) (st' : St γ) (a' : Act) (D' : List (Nat × Nat)), st'.nt = nt → Inv cx ops al B w0 (setAll listed (plan.map (·.1))) E' st' a' D' → K st' →
        wpAnyC cx.P ops Q (Sq E' st' ids m B w0) (al.length - D'.length + f0) (setAll (setAll listed (plan.map (·.1))) (D'.map Prod.fst)) (CD cx ops E' st' B w0 D') a') →
      wpAnyC cx.P ops Q (Sq E st ids m B w0) (N + f0) (setAll listed (D.map Prod.fst)) (CD cx ops E st B w0 D) a := by
  intro N
  induction N with
  | zero =>
    intro plan listed E st a D hN hnt hgo hI h hfin
    cases plan with
    | cons x r => simp at hN
    | nil =>
      have := hfin E st a D hnt hI h
      simp only [List.length_nil, Nat.zero_add] at hN
      rw [hN] at this
      exact this
  | succ N ih =>
    intro plan listed E st a D hN hnt hgo hI h hfin
    rw [show N + 1 + f0 = (N + f0) + 1 from by omega]
    cases plan with
    | nil =>
      have := hfin E st a D hnt hI h
      simp only [List.length_nil, Nat.zero_add] at hN
      rw [hN, show N + 1 + f0 = (N + f0) + 1 from by omega] at this
      exact this
    | cons x rest =>
      obtain ⟨i, q⟩ := x
      obtain ⟨w1, hw1⟩ := hI.ex
      have hR1 := hI.rep w1 hw1.1
      cases q with
      | true =>
        simp only [goB, Bool.and_eq_true, Bool.not_eq_true', List.contains_eq_mem, decide_eq_true_eq, decide_eq_false_iff_not] at hgo
        obtain ⟨⟨⟨hrd, hfr⟩, hnal⟩, hgo'⟩ := hgo
        obtain ⟨hun, o, ho, hall⟩ := mem_ready.1 hrd
        simp only [execPlan, ho] at h
        obtain ⟨st', v, hK', hT', hn', hh', htm', hqy⟩ := quiet_one (B := B) (w0 := w0) he hc h hR1.tr ⟨w1, CD.sq hw1⟩
        have eS : Sq E st' ids m B w0 = Sq E st ids m B w0 := by unfold Sq; rw [hn', hh']
        have eC : CD cx ops E st' B w0 D = CD cx ops E st B w0 D := by funext w; simp only [CD, hn', hh']
        have hnD : i ∉ D.map Prod.fst := fun hi => by
          obtain ⟨y, hy, e⟩ := List.mem_map.1 hi
          exact hnal (e ▸ hI.sub y hy)
        have hI' : Inv cx ops al B w0 (listed.setIfInBounds i true) E st' (a.put o.dst v) D := by
          refine ⟨fun w hw => ?_, ⟨w1, by rw [eC]; exact hw1⟩, fun x hx => ?_, hI.nd, hI.sub, hI.sep, fun k hk o' d ho' hd => ?_, fun k hk => ready_mono (hI.rd k hk) (fun e => hnal (e ▸ hk)), by simp [hI.size]⟩
          · rw [hn', hh'] at hw
            have R := hI.rep w hw
            exact ⟨hT', by rw [hn', hh']; exact R.hr, R.below, R.base, R.ag, by rw [hn']; exact R.le, by rw [hh']; exact R.fresh⟩
          · have hxk := hI.dk x hx
            refine ⟨fun o' d ho' hd => ?_, hxk.base, by rw [hh']; exact hxk.ne⟩
            rw [put_get_other (hI.dst_ne hal (hI.sub x hx) ho' hd hrd ho (fun e => hnal (e ▸ hI.sub x hx)))]
            exact hxk.tm o' d ho' hd
          · exact (htm' d (hI.dst_ne hal hk ho' hd hrd ho (fun e => hnal (e ▸ hk)))).trans (hI.tmn k hk o' d ho' hd)
        have hnt' : st'.nt = nt := by
          have e1 := hT'.size
          have e2 := hR1.tr.size
          rw [← hnt, ← e1, ← e2]
          cases o.dst <;> simp [Act.put]
        have := ih rest (listed.setIfInBounds i true) E st' (a.put o.dst v) D (by simp only [List.length_cons] at hN; omega) hnt' hgo' hI' hK' hfin
        rw [eS, eC] at this
        refine wpAnyC_first ho (Region.noSelect_spec hsel) (fun c a w h => hQ c _ w _ h) (N + f0) _ _ a CD.cl (fun w hw => hw.sq) (fun j oj hj hne hunj hno => Region.free_spec ho hfr j oj hj hne (setAll_un hunj).1 hno) (ready_setAll hrd hnD) hqy ?_
        rw [setAll_set]
        exact this
      | false =>
        simp only [goB, Bool.and_eq_true, Bool.not_eq_true', List.contains_eq_mem, decide_eq_true_eq, decide_eq_false_iff_not] at hgo
        obtain ⟨⟨⟨honly, hrd⟩, hnal⟩, hgo'⟩ := hgo
        obtain ⟨hun, o, ho, hall⟩ := mem_ready.1 hrd
        simp only [execPlan, ho] at h
        have hnD : i ∉ D.map Prod.fst := fun hi => by
          obtain ⟨y, hy, e⟩ := List.mem_map.1 hi
          exact hnal (e ▸ hI.sub y hy)
        refine ⟨fun h0 => ?_, fun j hj w hw => ?_⟩
        · have := ready_setAll hrd hnD
          rw [h0] at this
          cases this
        · by_cases hja : j ∈ al
          · have hjD := (setAll_un (mem_ready.1 hj).1).2
            refine al_step hI (by rw [hnt]; exact hal) hja hjD hw (fun a' g hI' w' hw' => ⟨_, ⟨CD.cl, fun w h => h.sq⟩, hw', ?_⟩)
            have hlen := hI'.len
            simp only [List.length_cons] at hlen hN
            have := ih ((i, false) :: rest) listed E st a' ((j, g) :: D) (by simp only [List.length_cons]; omega) hnt (by
              simp only [goB, Bool.and_eq_true, Bool.not_eq_true', List.contains_eq_mem, decide_eq_true_eq, decide_eq_false_iff_not]
              exact ⟨⟨⟨honly, hrd⟩, hnal⟩, hgo'⟩) hI' (by simp only [execPlan, ho]; exact h) hfin
            rw [setAll_set]
            exact this
          · have hji : j = i := by
              have h1 := ready_setAll hj hja
              rw [setAll_app] at h1
              rw [setAll_mem (l := D.map Prod.fst ++ al) (l' := al) (fun k => by
                simp only [List.mem_append]
                refine ⟨fun hk => hk.elim (fun hk => ?_) (fun h => h), .inr⟩
                obtain ⟨y, hy, e⟩ := List.mem_map.1 hk
                exact e ▸ hI.sub y hy), honly] at h1
              simpa using h1
            subst hji
            have R := hI.rep w hw.1
            have key := eff_one (Q := Q) he hc h R (K' := fun a' w' => ∃ C', (Cl C' ∧ ∀ w, C' w → Sq E st ids m B w0 w) ∧ C' w' ∧ wpAnyC cx.P ops Q (Sq E st ids m B w0) (N + f0) ((setAll listed (D.map Prod.fst)).setIfInBounds j true) C' a') (by
              intro st' E' a' w' hK' hR' hF
              have hsq : ∀ w2, Sq E' st' ids m B w0 w2 → Sq E st ids m B w0 w2 := fun w2 h2 => ⟨h2.1.earlier hF.ag R.hr.ids R.hr.okc hF.grown, h2.2⟩
              have hdst : ∀ k ∈ al, ∀ o' d, ops[k]? = some o' → o'.dst = some d → o.dst ≠ some d := fun k hk o' d ho' hd => hI.dst_ne hal hk ho' hd hrd ho (fun e => hnal (e ▸ hk))
              obtain ⟨v, ha'⟩ := hF.put
              have hcd : CD cx ops E' st' B w0 D w' := by
                refine ⟨⟨hR'.hr, hR'.below, hR'.base⟩, fun x hx => ⟨fun o' t z h1 h2 h3 E1 => ?_, Nat.lt_of_lt_of_le (hw.2 x hx).2 hF.size⟩⟩
                rw [hF.keep _ (hw.2 x hx).2 (fun id ty cs y hl hy => (hI.dk x hx).ne id (.own ty cs) y hl trivial hy)]
                exact (hw.2 x hx).1 o' t z h1 h2 h3 E1
              have hI' : Inv cx ops al B w0 (listed.setIfInBounds j true) E' st' a' D := by
                refine ⟨fun w2 h2 => ⟨hR'.tr, h2.1, h2.2.1, h2.2.2, hR'.ag, hR'.le, hR'.fresh⟩, ⟨w', hcd⟩, fun x hx => ?_, hI.nd, hI.sub, hI.sep, fun k hk o' d ho' hd => (hF.tm d (hdst k hk o' d ho' hd)).trans (hI.tmn k hk o' d ho' hd), fun k hk => ready_mono (hI.rd k hk) (fun e => hnal (e ▸ hk)), by simp [hI.size]⟩
                have hxk := hI.dk x hx
                refine ⟨fun o' d ho' hd => ?_, hxk.base, fun id b y hl hb hy => ?_⟩
                · rw [ha', put_get_other (hdst x.1 (hI.sub x hx) o' d ho' hd)]
                  exact hxk.tm o' d ho' hd
                · rcases hF.own id b y hl hb hy with ⟨b', k1, k2, k3⟩ | hge
                  · exact hxk.ne id b' y k1 k2 k3
                  · have := (hw.2 x hx).2
                    omega
              have hnt' : st'.nt = nt := by
                have e1 := hR'.tr.size
                have e2 := R.tr.size
                rw [← hnt, ← e1, ← e2, ha']
                cases o.dst <;> simp [Act.put]
              have := ih rest (listed.setIfInBounds j true) E' st' a' D (by simp only [List.length_cons] at hN; omega) hnt' hgo' hI' hK' hfin
              refine ⟨_, ⟨CD.cl, fun w2 h2 => hsq w2 h2.sq⟩, hcd, ?_⟩
              rw [setAll_set]
              exact wpAnyC_weaken hsq _ _ _ _ this)
            unfold wpOp
            simp only [ho]
            split
            · rename_i hwt
              rw [if_pos hwt] at key
              exact .inl key
            · rename_i hwt
              rw [if_neg hwt] at key
              exact key
end
end Go.Sx
