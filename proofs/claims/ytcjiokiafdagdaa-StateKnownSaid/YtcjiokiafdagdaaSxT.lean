/- The executor with steps of one's own at some regions. -/
import Derived.Test.YtcjiokiafdagdaaSxS
namespace Go.Sx
open Go.RowKit
set_option linter.unusedVariables false
set_option linter.unusedSimpArgs false
set_option linter.unusedSectionVars false
section
variable {γ : Type} [Gh γ]
/-- What a region does, by a proof of one's own. -/
def HookOK (P : Program) (id : Nat) (ops : Array Oper) (draw : Bool) (R : St γ → St γ → Prop) : Prop :=
  ∀ (st st' : St γ), R st st' → ∀ (E : Env) (a : Act) (w : World) (w0 : Beg) (B : Nat) (Q : Exit → Act → World → Prop), Rep E st B w0 w a → (∀ (E' : Env) (a' : Act) (w' : World), Rep E' st' B w0 w' a' → Q .normal a' w') → (Code.region id ops draw).wp P Q a w
def HooksOK (hk : List Nat → Option (St γ → St γ → Prop)) (P : Program) (fc : Code) : Prop :=
  ∀ pt R, hk pt = some R → ∀ id ops draw, codeAt fc pt = some (.region id ops draw) → HookOK P id ops draw R
noncomputable def execH (hk : List Nat → Option (St γ → St γ → Prop)) (cx : Cx γ) (pt : List Nat) (c : Code) : St γ → (SExit → St γ → Prop) → Prop :=
  Code.rec (motive := fun _ => List Nat → St γ → (SExit → St γ → Prop) → Prop)
    (fun _ st K => K .normal st)
    (fun id ops draw pt st K => match hk pt with
      | some R => ∃ st', R st st' ∧ K .normal st'
      | none => execR cx pt (.region id ops draw) st K)
    (fun a b iha ihb pt st K => iha (0 :: pt) st (fun e st' => match e with
      | .normal => ihb (1 :: pt) st' K
      | e => K e st'))
    (fun c a b iha ihb pt st K => match evalV st c with
      | some (.c (.v (.bool t))) => br t (iha (0 :: pt) st K) (ihb (1 :: pt) st K)
      | _ => False)
    (fun id body ih pt st K => ih (0 :: pt) st (fun e st' => match e with
      | .exit id' => if id' = id then K .normal st' else K (.exit id') st'
      | e => K e st'))
    (fun body ih pt st K => execR cx pt (.loop body) st K)
    (fun _ _ _ _ _ _ _ _ _ => False)
    (fun id _ st K => K (.exit id) st)
    (fun _ _ _ _ _ => False)
    (fun _ _ _ _ => False)
    (fun _ _ _ _ => False)
    (fun _ st K => K .ret st)
    (fun _ _ _ _ => False) c pt
variable {cx : Cx γ} {hk : List Nat → Option (St γ → St γ → Prop)}
theorem execH_sound (hm : cx.P.follows .mixedOrders = true) (he : EqOK cx.P cx.eqs) (hc : CallsOK cx) {fc : Code} (hl : LoopsOK cx fc) (hh : HooksOK hk cx.P fc) :
    ∀ (c : Code) (pt : List Nat), codeAt fc pt = some c → ∀ (st : St γ) (K : SExit → St γ → Prop), execH hk cx pt c st K → ∀ (E : Env) (a : Act) (w : World) (w0 : Beg) (B : Nat) (Q : Exit → Act → World → Prop), w0.n = cx.n0 → Rep E st B w0 w a →
      (∀ (e : SExit) (st' : St γ) (E' : Env) (a' : Act) (w' : World), K e st' → Rep E' st' B w0 w' a' → Q e.ex a' w') → c.wp cx.P Q a w := by
  intro c
  induction c with
  | skip => intro pt _ st K h E a w w0 B Q h0 hR hQ; exact wp_skip (hQ .normal _ _ _ _ h hR)
  | region id ops draw =>
    intro pt hpt st K h E a w w0 B Q h0 hR hQ
    have h : (match hk pt with
      | some R => ∃ st', R st st' ∧ K .normal st'
      | none => execR cx pt (.region id ops draw) st K) := h
    split at h
    · rename_i R hR'
      obtain ⟨st', h1, h2⟩ := h
      exact hh pt R hR' id ops draw hpt st st' h1 E a w w0 B Q hR fun E' a' w' h => hQ .normal _ _ _ _ h2 h
    · exact exec_sound hm he hc hl _ pt hpt st K (of_execR h) E a w w0 B Q h0 hR hQ
  | seq x y ihx ihy =>
    intro pt hpt st K h E a w w0 B Q h0 hR hQ
    refine wp_seq (ihx (0 :: pt) (by simp [codeAt, hpt]) st _ h E a w w0 B _ h0 hR fun e st' E' a' w' hk hR' => ?_)
    cases e with
    | normal => exact ihy (1 :: pt) (by simp [codeAt, hpt]) st' K hk E' a' w' w0 B Q h0 hR' hQ
    | exit id => exact hQ _ _ _ _ _ hk hR'
    | ret => exact hQ _ _ _ _ _ hk hR'
  | cond c x y ihx ihy =>
    intro pt hpt st K h E a w w0 B Q h0 hR hQ
    have h : (match evalV st c with
      | some (.c (.v (.bool t))) => br t (execH hk cx (0 :: pt) x st K) (execH hk cx (1 :: pt) y st K)
      | _ => False) := h
    split at h
    · rename_i t ht
      obtain ⟨h1, _⟩ := evalV_sound hR.tr ht
      refine wp_cond_split (t := t) h1 (fun hb => ?_) (fun hb => ?_)
      · rcases br_elim h with ⟨_, h⟩ | ⟨hb', _⟩
        · exact ihx (0 :: pt) (by simp [codeAt, hpt]) st K h E a w w0 B Q h0 hR hQ
        · rw [hb] at hb'; cases hb'
      · rcases br_elim h with ⟨hb', _⟩ | ⟨_, h⟩
        · rw [hb] at hb'; cases hb'
        · exact ihy (1 :: pt) (by simp [codeAt, hpt]) st K h E a w w0 B Q h0 hR hQ
    · exact h.elim
  | block id body ih =>
    intro pt hpt st K h E a w w0 B Q h0 hR hQ
    refine wp_block (ih (0 :: pt) (by simp [codeAt, hpt]) st _ h E a w w0 B _ h0 hR fun e st' E' a' w' hk hR' => ?_)
    cases e with
    | normal => exact hQ _ _ _ _ _ hk hR'
    | exit id' =>
      simp only [SExit.ex, Exit.inBlock]
      dsimp only at hk
      split at hk
      · rename_i e
        rw [if_pos e]
        exact hQ .normal _ _ _ _ hk hR'
      · rename_i e
        rw [if_neg e]
        exact hQ (.exit id') _ _ _ _ hk hR'
    | ret => exact hQ _ _ _ _ _ hk hR'
  | loop body ih =>
    intro pt hpt st K h E a w w0 B Q h0 hR hQ
    have h : execR cx pt (.loop body) st K := h
    exact exec_sound hm he hc hl _ pt hpt st K (of_execR h) E a w w0 B Q h0 hR hQ
  | exit id => intro pt _ st K h E a w w0 B Q h0 hR hQ; exact wp_exit (hQ (.exit id) _ _ _ _ h hR)
  | ret => intro pt _ st K h E a w w0 B Q h0 hR hQ; exact wp_ret (hQ .ret _ _ _ _ h hR)
  | rangeFunc f ps x y ihx ihy => intro pt _ st K h; exact (h : False).elim
  | scope x ih => intro pt _ st K h; exact (h : False).elim
  | label l => intro pt _ st K h; exact (h : False).elim
  | goto l => intro pt _ st K h; exact (h : False).elim
  | refuse why => intro pt _ st K h; exact (h : False).elim
variable {n : Nat}
/-- The same, with steps of one's own. -/
theorem call_of_execH (h0 : n = cx.n0) (hm : cx.P.follows .mixedOrders = true) (he : EqOK cx.P cx.eqs) (hc : CallsOK cx) {f : FuncId} {fn : Func} {c : Code} (hf : cx.P.funcs[f]? = some fn) (hn : (fn.name == "runtime.NumGoroutine") = false) (hb : fn.body = some c)
    (hl : LoopsOK cx c) {args : List SV} {H : List (Nat × Blk γ)} {r : CR γ} (hlen : args.length ≤ fn.ntmps) (hin : inT n r.new.length r.res = true)
    (hh : HooksOK (γ := γ) hk cx.P c) (h : execH hk cx [] c ⟨fn.ntmps, initT 0 args, n, stillH H⟩ (fun e st' => ∃ m, froms n m = true ∧ Fin cx.P fn.results.toList n r m e st')) : CallOK cx.P f n H args r := by
  intro E w hH hargs
  refine .inl ⟨enters_of hf hn hb, calls_of_wp hf hb ?_⟩
  refine execH_sound hm he hc hl hh c [] rfl _ _ h E _ w ⟨w, E, n⟩ w.heap.size _ h0 ⟨⟨?_, ?_, ?_, rfl⟩, hH, Below.refl _ _, Nat.le_refl _, Ag.refl _ _, Nat.le_refl _, ?_⟩ ?_
  · simp; omega
  · intro d x hd
    obtain ⟨k, y, h1, h2, rfl⟩ := initT_look args 0 d x hd
    obtain rfl : d = k := by omega
    have hk := (List.getElem?_eq_some_iff.1 h2).1
    rw [Array.getElem?_append_left (by simpa using hk)]
    simp [h2, ST.den]
  · intro d x hd
    obtain ⟨k, y, h1, h2, rfl⟩ := initT_look args 0 d x hd
    exact hargs y (List.mem_of_getElem? h2)
  · intro id g ad hl' hle _
    have := hH.ids _ _ hl'
    dsimp only at hle
    omega
  · rintro e st' E1 a' w' ⟨m, hfr, hfin⟩ hR
    have fin : resOf cx.P st' fn.results.toList = some (substT n m r.res) ∧ newsOK st' m r.new → bodyPost cx.P fn (fun e w' => ∃ E', Ag n E E' ∧ e = .returned (r.res.den E') ∧ r.res.okn E' (n + r.new.length) ∧ Below w.heap.size w w' ∧ NewOK E' n r.new w w') .ret a' w' := by
      rintro ⟨h1, h2⟩
      obtain ⟨h3, h4⟩ := resOf_sound hR h1
      obtain ⟨h5, h6⟩ := newsOK_get h2
      have hag := hR.ag
      dsimp only at hag
      rw [← h5] at hin
      obtain ⟨h7, h8⟩ := substT_ok (E := E) (n := n) hag.addr hin h4
      refine ⟨hR.tr.defs, _, h3, mapEnv E E1 n m, ⟨fun i hi => ?_, fun i hi => ?_, fun i hi => ?_⟩, by rw [h7], by rw [← h5]; exact h8, hR.below, ?_⟩
      · simp [mapEnv, hi, hag.addr i hi]
      · simp [mapEnv, hi, hag.len i hi]
      · simp [mapEnv, hi, hag.cap i hi]
      · intro k b hk
        obtain ⟨g, rfl, hg⟩ := h6 k b hk
        refine ⟨g, rfl, ?_⟩
        have hge : ¬ n + k < n := by omega
        have hsub : n + k - n = k := by omega
        rcases hg with ⟨hmk, h0⟩ | ⟨j, hmk, hlj⟩
        · refine ⟨⟨by simp [mapEnv, hge, hsub, hmk, h0], fun i hi => by omega⟩, fun ad had => ?_⟩
          simp [mapEnv, hge, hsub, hmk] at had
        · obtain ⟨x1, x2⟩ := hR.hr.ext _ _ hlj
          refine ⟨⟨by simp [mapEnv, hge, hsub, hmk, x1], fun i hi => ?_⟩, fun ad had => ?_⟩
          · obtain ⟨ad, y1, y2⟩ := x2 i hi
            refine ⟨ad, by simp [mapEnv, hge, hsub, hmk, y1], fun jj c hc => ?_⟩
            rw [row_den hc E1 (mapEnv E E1 n m)]
            exact y2 jj c hc
          · simp [mapEnv, hge, hsub, hmk] at had
            exact hR.fresh j g ad hlj (froms_get hfr k j hmk) had
    cases e with
    | exit id => exact hfin.elim
    | normal => exact fin hfin
    | ret => exact fin hfin
variable [GhO γ]
theorem aok_execH {P : Program} {eqs : TypeId → Bool} {T : ATab γ} (hT : ATabOK γ P T) (hm : P.follows .mixedOrders = true) (he : EqOK P eqs) (turns : Nat) (plans : List (Nat × Plan)) (ls : List (List Nat × LInv γ)) {f : FuncId} {fn : Func} {c : Code} (hf : P.funcs[f]? = some fn)
    (hb : fn.body = some c) {args : List (AV γ)} {r : AT γ} (hn : (fn.name == "runtime.NumGoroutine") = false) {nt : Nat} {rs : List ResultVar} (hnt : fn.ntmps = nt) (hrs : fn.results.toList = rs) {avs : List SV} {H0 : List (Nat × Blk γ)} {n0 : Nat} {res : ST} {new : List (Blk γ)}
    (e1 : conaVs 0 args = (avs, H0)) (e2 : H0.length = n0) (e3 : concT n0 r = (res, new)) (hr : noST r = true) (hlen : Nat.ble avs.length nt = true) (hin : inT n0 new.length res = true)
    {hk : List Nat → Option (St γ → St γ → Prop)} (hh : HooksOK hk P c) (h : execH hk (lpCx (aCx P eqs turns plans T n0) c ls) [] c ⟨nt, initT 0 avs, n0, H0⟩ (fun e st' => DoneA P rs n0 res new e st')) : AOK γ P f args r := by
  subst hnt
  subst hrs
  have hc0 : CallsOK (aCx P eqs turns plans T n0) := aCx_calls hT
  have hl0 : LoopsOK (aCx P eqs turns plans T n0) c := by rintro _ _ _ ⟨⟩
  obtain ⟨h1, h2, h3, h4, h5, h6⟩ := lpCx_same (aCx P eqs turns plans T n0) c ls
  have hmm : (lpCx (aCx P eqs turns plans T n0) c ls).P.follows .mixedOrders = true := by rw [h1]; exact hm
  have hee : EqOK (lpCx (aCx P eqs turns plans T n0) c ls).P (lpCx (aCx P eqs turns plans T n0) c ls).eqs := by rw [h1, h2]; exact he
  have e : (fun (e : SExit) (st' : St γ) => DoneA P fn.results.toList n0 res new e st') = fun e st' => ∃ m, froms n0 m = true ∧ Fin (lpCx (aCx P eqs turns plans T n0) c ls).P fn.results.toList n0 ⟨true, res, new⟩ m e st' := by
    funext e st'
    rw [h1]
    exact propext ⟨fun h => h.ok, fun h => ⟨h⟩⟩
  rw [e] at h
  have hst : stillH H0 = H0 := stillH_same (by have := conaVs_still (n := 0) (xs := args); rw [e1] at this; exact this)
  rw [← hst] at h
  have key := call_of_execH (hk := hk) (cx := lpCx (aCx P eqs turns plans T n0) c ls) (n := n0) (f := f) (args := avs) (H := H0) (r := ⟨true, res, new⟩) h5.symm hmm hee (lpCx_calls hc0) (by rw [h1]; exact hf) hn hb (lpCx_ok hm he hc0 hl0 ls) (Nat.le_of_ble_eq_true hlen) hin (by rw [h1]; exact hh) h
  rw [h1] at key
  refine aok_of_callOK hr ?_
  rw [e1]
  dsimp only
  rw [e2, e3]
  exact key

end
end Go.Sx
