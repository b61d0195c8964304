/- The executor with an answer that is reckoned: what a text comes to, as a value. -/
import Derived.Test.YtcjiokiafdagdaaSxL
namespace Go.Sx
open Go.RowKit
set_option linter.unusedVariables false
set_option linter.unusedSimpArgs false
section
variable {γ : Type} {α : Type}
def bro (b : Bool) (p q : Option α) : Option α := match b with
  | true => p
  | false => q
def ifo (p : Prop) [d : Decidable p] (x : Option α) : Option α := match d with
  | .isTrue _ => x
  | .isFalse _ => none
def St.putO (st : St γ) (d : Option Nat) (x : ST) (k : St γ → Option α) : Option α :=
  match st with
  | ⟨nt, tm, n, h⟩ => match d with
    | some d => match Nat.blt d nt with
      | true => k ⟨nt, (d, x) :: tm, n, h⟩
      | false => k ⟨nt, tm, n, h⟩
    | none => k ⟨nt, tm, n, h⟩
def St.newO (st : St γ) (b : Blk γ) (k : Nat → St γ → Option α) : Option α :=
  match st with
  | ⟨nt, tm, n, h⟩ => k n ⟨nt, tm, n + 1, (n, b) :: h⟩
def St.setO (st : St γ) (id : Nat) (b : Blk γ) (k : St γ → Option α) : Option α :=
  match st with
  | ⟨nt, tm, n, h⟩ => k ⟨nt, tm, n, (id, b) :: h⟩
def St.newsO (k : St γ → Option α) : List (Blk γ) → St γ → Option α
  | [], st => k st
  | b :: r, st => st.newO b (fun _ st' => St.newsO k r st')
theorem putO_eq (st : St γ) (d : Option Nat) (x : ST) (k : St γ → Option α) : st.putO d x k = k (st.put d x) := by
  obtain ⟨nt, tm, n, h⟩ := st
  cases d with
  | none => rfl
  | some d =>
    simp only [St.putO, St.put]
    cases Nat.blt d nt <;> rfl
theorem newO_eq (st : St γ) (b : Blk γ) (k : Nat → St γ → Option α) : st.newO b k = k st.n (st.new b) := rfl
theorem setO_eq (st : St γ) (id : Nat) (b : Blk γ) (k : St γ → Option α) : st.setO id b k = k ⟨st.nt, st.tmps, st.n, (id, b) :: st.heap⟩ := rfl
theorem newsO_eq (k : St γ → Option α) : ∀ (l : List (Blk γ)) (st : St γ), St.newsO k l st = k (st.news l)
  | [], _ => rfl
  | b :: r, st => by rw [St.newsO, newO_eq, newsO_eq k r]; rfl
theorem bro_some {b : Bool} {p q : Option α} {a : α} {x y : Prop} (h : bro b p q = some a) (h1 : p = some a → x) (h2 : q = some a → y) : br b x y := by
  cases b
  · exact br_false (h2 h)
  · exact br_true (h1 h)
variable [Gh γ]
def orO (st : St γ) (d : Option Nat) (k : St γ → Option α) : OR → Option α
  | .ok x => st.putO d x k
  | .chk b x => bro b (st.putO d x k) none
  | .bad => none
def stepO (cx : Cx γ) (o : Oper) (st : St γ) (k : St γ → Option α) : Option α :=
  match o.op with
  | .alloc t => match zeroV cx.P t with
    | some z => frc z.cells (fun cs => st.newO (.own t cs) (fun n st' => st'.putO o.dst (.v (.c (.p n 0))) k))
    | none => none
  | .box t x => match evalV st x with
    | some y => frc y.cells (fun cs => st.newO (.own t cs) (fun n st' => st'.putO o.dst (.v (.c (.p n 0))) k))
    | none => none
  | .store t x y => match evalV st x, evalV st y, cx.P.info? t with
    | some (.c (.p id off)), some z, some i =>
      match look st.heap id with
      | some (.own ty cs) => if z.cells.length = i.size ∧ off + i.size ≤ cs.length then frc (setCs cs off z.cells) (fun l => st.setO id (.own ty l) (fun st' => st'.putO o.dst (.t []) k)) else none
      | _ => none
    | _, _, _ => none
  | .buildSlice t n ps => match evalParts st ps.toList, cx.P.underlying t with
    | some l, some (.slice el) => match cx.P.info? el, zeroV cx.P el with
      | some i, some z => if n * i.size ≤ 16777216 ∧ i.size = z.cells.length ∧ 0 < n * i.size then
          match fillV (fun j => some (j * i.size, i.size)) ((List.replicate n z.cells).flatten) l with
          | some cs => frc cs (fun cs => st.newO (.own el cs) (fun m st' => st'.putO o.dst (.v (.c (.s m n))) k))
          | none => none
        else none
      | _, _ => none
    | _, _ => none
  | .makeSlice t x y => match evalV st x, evalV st y, cx.P.underlying t with
    | some (.c (.v (.int _ lx))), some (.c (.v (.int _ ly))), some (.slice el) => match cx.P.info? el, zeroV cx.P el with
      | some i, some z => if (lx = ly ∧ 0 ≤ lx) ∧ (lx.toNat * i.size ≤ 16777216 ∧ i.size = z.cells.length ∧ 0 < lx.toNat * i.size) ∧ (i.bytes : Int) * lx ≤ 281474976710656 ∧ lx ≤ 9223372036854775807 then frc ((List.replicate lx.toNat z.cells).flatten) (fun cs => st.newO (.own el cs) (fun m st' => st'.putO o.dst (.v (.c (.s m lx.toNat))) k)) else none
      | _, _ => none
    | _, _, _ => none
  | .call c => match c.callee with
    | .value (.func f) => match evalVs st c.args.toList with
      | some l => match cx.calls f st.n st.heap l with
        | some r => bro r.pre (St.newsO (fun st' => st'.putO o.dst r.res k) r.new st) none
        | none => none
      | none => none
    | _ => match callV cx.P st c with
      | .ok x => st.putO o.dst x k
      | .chk b x => bro b (st.putO o.dst x k) none
      | .bad => none
  | op => match pureOp cx.P cx.eqs st op with
    | .ok x => st.putO o.dst x k
    | .chk b x => bro b (st.putO o.dst x k) none
    | .bad => none
def stepQO (cx : Cx γ) (o : Oper) (st : St γ) (k : St γ → Option α) : Option α :=
  match o.op with
  | .call c => match c.callee with
    | .value (.func f) => match evalVs st c.args.toList with
      | some l => match cx.calls f st.n st.heap l with
        | some r => match r.new with
          | [] => bro r.pre (st.putO o.dst r.res k) none
          | _ => none
        | none => none
      | none => none
    | _ => match callV cx.P st c with
      | .ok x => st.putO o.dst x k
      | .chk b x => bro b (st.putO o.dst x k) none
      | .bad => none
  | op => match pureOp cx.P cx.eqs st op with
    | .ok x => st.putO o.dst x k
    | .chk b x => bro b (st.putO o.dst x k) none
    | .bad => none
def execOpsO (stp : Oper → St γ → (St γ → Option α) → Option α) (all : List Oper) : List Oper → St γ → (St γ → Option α) → Option α
  | [], st, K => K st
  | o :: rest, st, K =>
    match o.guard with
    | none => stp o st (fun st' => execOpsO stp all rest st' K)
    | some (j, pol) => match guardV all st j with
      | .yes b d => bro b
          (st.putO (some d) (.v (.c (.v (.bool true)))) (fun st1 => match pol with
            | true => stp o st1 (fun st' => execOpsO stp all rest st' K)
            | false => st1.putO o.dst (.t []) (fun st2 => execOpsO stp all rest st2 K)))
          (st.putO (some d) (.v (.c (.v (.bool false)))) (fun st1 => match pol with
            | false => stp o st1 (fun st' => execOpsO stp all rest st' K)
            | true => st1.putO o.dst (.t []) (fun st2 => execOpsO stp all rest st2 K)))
      | .no => st.putO o.dst (.t []) (fun st2 => execOpsO stp all rest st2 K)
      | .bad => none
def stepHO (cx : Cx γ) (ids : List Nat) (m : Nat) (o : Oper) (st : St γ) (k : St γ → Option α) : Option α :=
  match st with
  | ⟨nt, tm, n, h⟩ => stepQO cx o ⟨nt, tm, n, hide ids m h⟩ (fun st' => match st' with
    | ⟨nt', tm', n', _⟩ => k ⟨nt', tm', n', h⟩)
def stepRO (cx : Cx γ) (ids : List Nat) (m : Nat) (o : Oper) (st : St γ) (k : St γ → Option α) : Option α :=
  match o.op with
  | .store _ x _ => match evalV st x with
    | some (.c (.p id _)) => match ids.contains id || Nat.ble m id with
      | true => stepO cx o st k
      | false => none
    | _ => none
  | _ => stepO cx o st k
def execPlanO (cx : Cx γ) (ids : List Nat) (m : Nat) (ops : Array Oper) : List (Nat × Bool) → St γ → (St γ → Option α) → Option α
  | [], st, K => K st
  | (i, q) :: r, st, K => match ops[i]? with
    | some o => match q with
      | true => execOpsO (stepHO cx ids m) ops.toList [o] st (fun st' => execPlanO cx ids m ops r st' K)
      | false => execOpsO (stepRO cx ids m) ops.toList [o] st (fun st' => execPlanO cx ids m ops r st' K)
    | none => none
def execAlO (cx : Cx γ) (ops : Array Oper) : List Nat → St γ → (St γ → Option α) → Option α
  | [], st, K => K st
  | i :: r, st, K => match ops[i]? with
    | some o => stepO cx o st (fun st' => execAlO cx ops r st' K)
    | none => none
def unrollO (body : St γ → (SExit → St γ → Option α) → Option α) : Nat → St γ → (SExit → St γ → Option α) → Option α
  | 0, _, _ => none
  | n + 1, st, K => body st (fun e st' => match e with
      | .normal => unrollO body n st' K
      | e => K e st')
def execO (cx : Cx γ) : List Nat → Code → St γ → (SExit → St γ → Option α) → Option α
  | _, .skip, st, K => K .normal st
  | _, .region id ops draw, st, K => match draw with
    | false => execOpsO (stepO cx) ops.toList ops.toList st (K .normal)
    | true => match look cx.plans id with
      | some pl => match st with
        | ⟨nt, tm, n, h⟩ => bro (planB ops pl && (alDsts ops pl.al).all (fun d => Nat.blt d nt) && zerosB cx.P ops pl.al) (frc (targets ⟨nt, tm, n, h⟩ ops.toList ops.toList) (fun ids => frc (dropT (alDsts ops pl.al) tm) (fun tm' =>
          execPlanO cx ids n ops pl.p1 ⟨nt, tm', n, h⟩ (fun st1 => execAlO cx ops pl.al st1 (fun st2 => execPlanO cx ids n ops pl.p2 st2 (K .normal)))))) none
      | none => none
  | pt, .seq a b, st, K => execO cx (0 :: pt) a st (fun e st' => match e with
      | .normal => execO cx (1 :: pt) b st' K
      | e => K e st')
  | pt, .cond c a b, st, K => match evalV st c with
      | some (.c (.v (.bool t))) => bro t (execO cx (0 :: pt) a st K) (execO cx (1 :: pt) b st K)
      | _ => none
  | pt, .block id body, st, K => execO cx (0 :: pt) body st (fun e st' => match e with
      | .exit id' => match Nat.beq id' id with
        | true => K .normal st'
        | false => K (.exit id') st'
      | e => K e st')
  | pt, .loop body, st, K => match cx.loops pt with
      | some _ => none
      | none => unrollO (execO cx (0 :: pt) body) cx.turns st K
  | _, .exit id, st, K => K (.exit id) st
  | _, .ret, st, K => K .ret st
  | _, _, _, _ => none
variable {cx : Cx γ} {a : α}
omit [Gh γ] in
theorem or_sound {st : St γ} {d : Option Nat} {k' : St γ → Option α} {k : St γ → Prop} (hk : ∀ st', k' st' = some a → k st') {x : OR}
    (h : (match (generalizing := false) x with
      | .ok x => st.putO d x k'
      | .chk b x => bro b (st.putO d x k') none
      | .bad => none) = some a) : (match (generalizing := false) x with
      | .ok x => st.putK d x k
      | .chk b x => br b (st.putK d x k) False
      | .bad => False) := by
  cases x with
  | ok x =>
    show st.putK d x k
    rw [putK_eq]
    have h : st.putO d x k' = some a := h
    rw [putO_eq] at h
    exact hk _ h
  | chk b x => exact bro_some h (fun h => by rw [putK_eq]; rw [putO_eq] at h; exact hk _ h) (fun h => by cases h)
  | bad => cases h
theorem stepO_sound {o : Oper} {st : St γ} {k' : St γ → Option α} {k : St γ → Prop} (hk : ∀ st', k' st' = some a → k st') (h : stepO cx o st k' = some a) : step cx o st k := by
  obtain ⟨dst, op, ty, pos, after, guard⟩ := o
  cases op <;> first | exact or_sound hk h | exact absurd (show (none : Option α) = some a from h) (by intro h; cases h) | skip
  case alloc t =>
    simp only [stepO] at h
    simp only [step]
    split at h
    · rename_i z hz
      simp only [hz]
      rw [frc_eq, newO_eq, putO_eq] at h
      rw [frc_eq, newK_eq, putK_eq]
      exact hk _ h
    · cases h
  case box t x =>
    simp only [stepO] at h
    simp only [step]
    split at h
    · rename_i z hz
      simp only [hz]
      rw [frc_eq, newO_eq, putO_eq] at h
      rw [frc_eq, newK_eq, putK_eq]
      exact hk _ h
    · cases h
  case store t x y =>
    simp only [stepO] at h
    simp only [step]
    split at h
    · rename_i h1 h2 h3
      simp only [h1, h2, h3]
      split at h
      · rename_i h4
        simp only [h4]
        split at h
        · rename_i hc
          rw [if_pos hc]
          rw [frc_eq, setO_eq, putO_eq] at h
          rw [frc_eq, setK_eq, putK_eq]
          exact hk _ h
        · cases h
      · cases h
    · cases h
  case buildSlice t n ps =>
    simp only [stepO] at h
    simp only [step]
    split at h
    · rename_i h1 h2
      simp only [h1, h2]
      split at h
      · rename_i h3 h4
        simp only [h3, h4]
        split at h
        · rename_i hc
          rw [if_pos hc]
          split at h
          · rename_i h5
            simp only [h5]
            rw [frc_eq, newO_eq, putO_eq] at h
            rw [frc_eq, newK_eq, putK_eq]
            exact hk _ h
          · cases h
        · cases h
      · cases h
    · cases h
  case makeSlice t x y =>
    simp only [stepO] at h
    simp only [step]
    split at h
    · rename_i h1 h2 h3
      simp only [h1, h2, h3]
      split at h
      · rename_i h4 h5
        simp only [h4, h5]
        split at h
        · rename_i hc
          rw [if_pos hc]
          rw [frc_eq, newO_eq, putO_eq] at h
          rw [frc_eq, newK_eq, putK_eq]
          exact hk _ h
        · cases h
      · cases h
    · cases h
  case call c =>
    simp only [stepO] at h
    simp only [step]
    split at h
    · rename_i f hf
      simp only [hf]
      split at h
      · rename_i h1
        simp only [h1]
        split at h
        · rename_i h2
          simp only [h2]
          refine bro_some h (fun h => ?_) (fun h => by cases h)
          rw [newsO_eq, putO_eq] at h
          rw [newsK_eq, putK_eq]
          exact hk _ h
        · cases h
      · cases h
    · rename_i hf
      split
      · rename_i f hf'
        exact absurd hf' (hf f)
      · exact or_sound hk h
theorem stepQO_sound {o : Oper} {st : St γ} {k' : St γ → Option α} {k : St γ → Prop} (hk : ∀ st', k' st' = some a → k st') (h : stepQO cx o st k' = some a) : stepQ cx o st k := by
  obtain ⟨dst, op, ty, pos, after, guard⟩ := o
  cases op <;> first | exact or_sound hk h | exact absurd (show (none : Option α) = some a from h) (by intro h; cases h) | skip
  case call c =>
    simp only [stepQO] at h
    simp only [stepQ]
    split at h
    · rename_i f hf
      simp only [hf]
      split at h
      · rename_i h1
        simp only [h1]
        split at h
        · rename_i h2
          simp only [h2]
          split at h
          · rename_i h3
            simp only [h3]
            refine bro_some h (fun h => ?_) (fun h => by cases h)
            rw [putO_eq] at h
            rw [putK_eq]
            exact hk _ h
          · cases h
        · cases h
      · cases h
    · rename_i hf
      split
      · rename_i f hf'
        exact absurd hf' (hf f)
      · exact or_sound hk h
omit [Gh γ] in
theorem execOpsO_sound {stp' : Oper → St γ → (St γ → Option α) → Option α} {stp : Oper → St γ → (St γ → Prop) → Prop} (hs : ∀ o st (k' : St γ → Option α) (k : St γ → Prop), (∀ st', k' st' = some a → k st') → stp' o st k' = some a → stp o st k) (all : List Oper) :
    ∀ (l : List Oper) (st : St γ) (K' : St γ → Option α) (K : St γ → Prop), (∀ st', K' st' = some a → K st') → execOpsO stp' all l st K' = some a → execOps stp all l st K
  | [], st, K', K, hK, h => hK _ h
  | o :: rest, st, K', K, hK, h => by
    have ih := fun st' => execOpsO_sound hs all rest st' K' K hK
    simp only [execOpsO] at h
    simp only [execOps]
    split at h
    · rename_i hg
      simp only [hg]
      exact hs _ _ _ _ ih h
    · rename_i j pol hg
      simp only [hg]
      split at h
      · rename_i hv
        simp only [hv]
        refine bro_some h (fun h => ?_) (fun h => ?_)
        · rw [putO_eq] at h
          rw [putK_eq]
          cases pol
          · dsimp only at h ⊢
            rw [putO_eq] at h
            rw [putK_eq]
            exact ih _ h
          · exact hs _ _ _ _ ih h
        · rw [putO_eq] at h
          rw [putK_eq]
          cases pol
          · exact hs _ _ _ _ ih h
          · dsimp only at h ⊢
            rw [putO_eq] at h
            rw [putK_eq]
            exact ih _ h
      · rename_i hv
        simp only [hv]
        rw [putO_eq] at h
        rw [putK_eq]
        exact ih _ h
      · cases h
theorem stepHO_sound {ids : List Nat} {m : Nat} (o : Oper) (st : St γ) (k' : St γ → Option α) (k : St γ → Prop) (hk : ∀ st', k' st' = some a → k st') (h : stepHO cx ids m o st k' = some a) : stepH cx ids m o st k := by
  obtain ⟨nt, tm, n, hp⟩ := st
  simp only [stepHO] at h
  simp only [stepH]
  exact stepQO_sound (fun st' h => hk _ h) h
theorem stepRO_sound {ids : List Nat} {m : Nat} (o : Oper) (st : St γ) (k' : St γ → Option α) (k : St γ → Prop) (hk : ∀ st', k' st' = some a → k st') (h : stepRO cx ids m o st k' = some a) : stepR cx ids m o st k := by
  unfold stepRO at h
  unfold stepR
  split at h
  · rename_i ho
    simp only [ho]
    split at h
    · rename_i he
      simp only [he]
      split at h
      · rename_i hb
        simp only [hb]
        exact stepO_sound hk h
      · cases h
    · cases h
  · rename_i ho
    split
    · rename_i ho'
      exact absurd ho' (ho _ _ _)
    · exact stepO_sound hk h
theorem execPlanO_sound {ids : List Nat} {m : Nat} {ops : Array Oper} : ∀ (l : List (Nat × Bool)) (st : St γ) (K' : St γ → Option α) (K : St γ → Prop), (∀ st', K' st' = some a → K st') → execPlanO cx ids m ops l st K' = some a → execPlan cx ids m ops l st K
  | [], st, K', K, hK, h => hK _ h
  | (i, q) :: r, st, K', K, hK, h => by
    have ih := fun st' => execPlanO_sound (ids := ids) (m := m) (ops := ops) r st' K' K hK
    simp only [execPlanO] at h
    simp only [execPlan]
    split at h
    · rename_i ho
      simp only [ho]
      split at h
      · exact execOpsO_sound (stepHO_sound (a := a)) _ _ _ _ _ ih h
      · exact execOpsO_sound (stepRO_sound (a := a)) _ _ _ _ _ ih h
    · cases h
theorem execAlO_sound {ops : Array Oper} : ∀ (l : List Nat) (st : St γ) (K' : St γ → Option α) (K : St γ → Prop), (∀ st', K' st' = some a → K st') → execAlO cx ops l st K' = some a → execAl cx ops l st K
  | [], st, K', K, hK, h => hK _ h
  | i :: r, st, K', K, hK, h => by
    have ih := fun st' => execAlO_sound (ops := ops) r st' K' K hK
    simp only [execAlO] at h
    simp only [execAl]
    split at h
    · rename_i ho
      simp only [ho]
      exact stepO_sound ih h
    · cases h
omit [Gh γ] in
theorem unrollO_sound {body' : St γ → (SExit → St γ → Option α) → Option α} {body : St γ → (SExit → St γ → Prop) → Prop} (hb : ∀ st (K' : SExit → St γ → Option α) (K : SExit → St γ → Prop), (∀ e st', K' e st' = some a → K e st') → body' st K' = some a → body st K) :
    ∀ (n : Nat) (st : St γ) (K' : SExit → St γ → Option α) (K : SExit → St γ → Prop), (∀ e st', K' e st' = some a → K e st') → unrollO body' n st K' = some a → unroll body n st K
  | 0, st, K', K, hK, h => by cases h
  | n + 1, st, K', K, hK, h => by
    refine hb st _ _ ?_ h
    intro e st' he
    cases e with
    | normal => exact unrollO_sound hb n st' K' K hK he
    | exit id => exact hK _ _ he
    | ret => exact hK _ _ he
theorem execO_sound : ∀ (pt : List Nat) (c : Code) (st : St γ) (K' : SExit → St γ → Option α) (K : SExit → St γ → Prop), (∀ e st', K' e st' = some a → K e st') → execO cx pt c st K' = some a → exec cx pt c st K := by
  intro pt c
  induction c generalizing pt with
  | skip => exact fun st K' K hK h => hK _ _ h
  | region id ops draw =>
    intro st K' K hK h
    cases draw with
    | false => exact execOpsO_sound (fun o st k' k hk h => stepO_sound hk h) _ _ _ _ _ (hK _) h
    | true =>
      simp only [execO] at h
      simp only [exec]
      split at h
      · rename_i hpl
        simp only [hpl]
        obtain ⟨nt, tm, n, hp⟩ := st
        dsimp only at h ⊢
        cases hb : (planB ops _ && (alDsts ops _).all (fun d => Nat.blt d nt) && zerosB cx.P ops _) with
        | false => rw [hb] at h; cases h
        | true =>
          rw [hb] at h
          simp only [bro] at h
          refine ⟨rfl, ?_⟩
          rw [frc_eq, frc_eq] at h ⊢
          exact execPlanO_sound _ _ _ _ (fun st1 h => execAlO_sound _ _ _ _ (fun st2 h => execPlanO_sound _ _ _ _ (hK _) h) h) h
      · cases h
  | seq x y ihx ihy =>
    intro st K' K hK h
    refine ihx _ st _ _ ?_ h
    intro e st' he
    cases e with
    | normal => exact ihy _ st' K' K hK he
    | exit id => exact hK _ _ he
    | ret => exact hK _ _ he
  | cond c x y ihx ihy =>
    intro st K' K hK h
    simp only [execO] at h
    simp only [exec]
    split at h
    · rename_i hc
      simp only [hc]
      exact bro_some h (fun h => ihx _ st K' K hK h) (fun h => ihy _ st K' K hK h)
    · cases h
  | block id body ih =>
    intro st K' K hK h
    refine ih _ st _ _ ?_ h
    intro e st' he
    cases e with
    | normal => exact hK _ _ he
    | exit id' =>
      dsimp only at he
      cases hb : Nat.beq id' id with
      | true =>
        rw [hb] at he
        simp only [Nat.eq_of_beq_eq_true hb, if_true]
        exact hK _ _ he
      | false =>
        rw [hb] at he
        have hne : ¬ id' = id := by
          intro e
          rw [e, Nat.beq_refl] at hb
          cases hb
        simp only [if_neg hne]
        exact hK _ _ he
    | ret => exact hK _ _ he
  | loop body ih =>
    intro st K' K hK h
    simp only [execO] at h
    simp only [exec]
    split at h
    · cases h
    · rename_i hc
      simp only [hc]
      exact unrollO_sound (fun st K' K hK h => ih _ st K' K hK h) _ _ _ _ hK h
  | exit id => exact fun st K' K hK h => hK _ _ h
  | ret => exact fun st K' K hK h => hK _ _ h
  | _ => intro st K' K hK h; cases h
/-- A function of plain values that is gone through by reckoning. -/
def endO (P : Program) (rs : List ResultVar) (e : SExit) (st : St γ) : Option ST :=
  match okEnd e with
  | true => resOf P st rs
  | false => none
end
theorem eqCp_refl (x : SC) : eqCp x x := by
  unfold eqCp
  split
  · simp
  · rfl
  · rfl
theorem eqCs_refl : ∀ x : List SC, eqCs x x
  | [] => trivial
  | x :: r => ⟨eqCp_refl x, eqCs_refl r⟩
theorem eqVp_refl (x : SV) : eqVp x x := by
  cases x with
  | c x => exact eqCp_refl x
  | a cs => exact eqCs_refl cs
theorem eqVs_refl : ∀ x : List SV, eqVs x x
  | [] => trivial
  | x :: r => ⟨eqVp_refl x, eqVs_refl r⟩
theorem eqTp_refl (x : ST) : eqTp x x := by
  cases x with
  | v x => exact eqVp_refl x
  | t xs => exact eqVs_refl xs
section
variable {γ : Type} [Gh γ]
theorem done_of_end {P : Program} {rs : List ResultVar} {r : ST} {e : SExit} {st : St γ} (hp : plainT r = true) (h : endO P rs e st = some r) : Done P rs r e st := by
  unfold endO at h
  split at h
  · rename_i he
    exact done_intro he hp h (eqTp_refl r)
  · cases h
/-- A function of plain values, gone through by reckoning. -/
theorem pure_execO {P : Program} {eqs : TypeId → Bool} {T : Tab} (hT : TabOK γ P T) (hm : P.follows .mixedOrders = true) (he : EqOK P eqs) (turns : Nat) (plans : List (Nat × Plan)) {f : FuncId} {fn : Func} {c : Code} (hf : P.funcs[f]? = some fn)
    (hb : fn.body = some c) {args : List SV} {r : ST} (ha : args.all plainV = true) (hr : plainT r = true) (hn : (fn.name == "runtime.NumGoroutine") = false) {nt : Nat} {rs : List ResultVar} (hnt : fn.ntmps = nt) (hrs : fn.results.toList = rs) (hlen : Nat.ble args.length nt = true) (hin : inT 0 0 r = true)
    (h : execO (tabCx γ P eqs turns plans T) [] c ⟨nt, initT 0 args, 0, []⟩ (endO P rs) = some r) : PureOK γ P f args r :=
  pure_exec hT hm he turns plans hf hb ha hr hn hnt hrs hlen hin (execO_sound [] c _ _ _ (fun _ _ h => done_of_end hr h) h)
end
end Go.Sx
