/- The executor by recursors: what is left of it after some steps is the same text for the elaborator and for the kernel. -/
import Derived.Test.YtcjiokiafdagdaaSxQ
namespace Go.Sx
open Go.RowKit
set_option linter.unusedVariables false
set_option linter.unusedSectionVars false
section
variable {γ : Type} [Gh γ]
noncomputable def execOpsR (stp : Oper → St γ → (St γ → Prop) → Prop) (all : List Oper) (l : List Oper) : St γ → (St γ → Prop) → Prop :=
  List.rec (motive := fun _ => St γ → (St γ → Prop) → Prop) (fun st K => K st) (fun o rest ih st K =>
    match o.guard with
    | none => stp o st (fun st' => ih st' K)
    | some (j, pol) => match guardV all st j with
      | .yes b d => br b
          (st.putK (some d) (.v (.c (.v (.bool true)))) (fun st1 => match pol with
            | true => stp o st1 (fun st' => ih st' K)
            | false => st1.putK o.dst (.t []) (fun st2 => ih st2 K)))
          (st.putK (some d) (.v (.c (.v (.bool false)))) (fun st1 => match pol with
            | false => stp o st1 (fun st' => ih st' K)
            | true => st1.putK o.dst (.t []) (fun st2 => ih st2 K)))
      | .no => st.putK o.dst (.t []) (fun st2 => ih st2 K)
      | .bad => False) l
theorem execOpsR_eq (stp : Oper → St γ → (St γ → Prop) → Prop) (all : List Oper) : ∀ (l : List Oper), execOpsR stp all l = execOps stp all l
  | [] => by funext st K; rfl
  | o :: r => by
    have ih := execOpsR_eq stp all r
    funext st K
    unfold execOps
    rw [← ih]
    rfl
noncomputable def unrollR (body : St γ → (SExit → St γ → Prop) → Prop) (n : Nat) : St γ → (SExit → St γ → Prop) → Prop :=
  Nat.rec (motive := fun _ => St γ → (SExit → St γ → Prop) → Prop) (fun _ _ => False) (fun _ ih st K => body st (fun e st' => match e with
      | .normal => ih st' K
      | e => K e st')) n
theorem unrollR_eq (body : St γ → (SExit → St γ → Prop) → Prop) : ∀ (n : Nat), unrollR body n = unroll body n
  | 0 => by funext st K; rfl
  | n + 1 => by
    have ih := unrollR_eq body n
    funext st K
    unfold unroll
    rw [← ih]
    rfl
noncomputable def execPlanR (cx : Cx γ) (ids : List Nat) (m : Nat) (ops : Array Oper) (l : List (Nat × Bool)) : St γ → (St γ → Prop) → Prop :=
  List.rec (motive := fun _ => St γ → (St γ → Prop) → Prop) (fun st K => K st) (fun x r ih st K =>
    match x with
    | (i, q) => match ops[i]? with
      | some o => match q with
        | true => execOpsR (stepH cx ids m) ops.toList [o] st (fun st' => ih st' K)
        | false => execOpsR (stepR cx ids m) ops.toList [o] st (fun st' => ih st' K)
      | none => False) l
theorem execPlanR_eq (cx : Cx γ) (ids : List Nat) (m : Nat) (ops : Array Oper) : ∀ (l : List (Nat × Bool)), execPlanR cx ids m ops l = execPlan cx ids m ops l
  | [] => by funext st K; rfl
  | (i, q) :: r => by
    have ih := execPlanR_eq cx ids m ops r
    funext st K
    unfold execPlan
    rw [← ih]
    have e : ∀ (stp : Oper → St γ → (St γ → Prop) → Prop) (all l : List Oper) (st : St γ) (K : St γ → Prop), execOps stp all l st K = execOpsR stp all l st K := fun stp all l st K => by rw [execOpsR_eq]
    simp only [e]
    rfl
noncomputable def execAlR (cx : Cx γ) (ops : Array Oper) (l : List Nat) : St γ → (St γ → Prop) → Prop :=
  List.rec (motive := fun _ => St γ → (St γ → Prop) → Prop) (fun st K => K st) (fun i r ih st K =>
    match ops[i]? with
    | some o => step cx o st (fun st' => ih st' K)
    | none => False) l
theorem execAlR_eq (cx : Cx γ) (ops : Array Oper) : ∀ (l : List Nat), execAlR cx ops l = execAl cx ops l
  | [] => by funext st K; rfl
  | i :: r => by
    have ih := execAlR_eq cx ops r
    funext st K
    unfold execAl
    rw [← ih]
    rfl
noncomputable def execR (cx : Cx γ) (pt : List Nat) (c : Code) : St γ → (SExit → St γ → Prop) → Prop :=
  Code.rec (motive := fun _ => List Nat → St γ → (SExit → St γ → Prop) → Prop)
    (fun _ st K => K .normal st)
    (fun id ops draw _ st K => match draw with
      | false => execOpsR (step cx) ops.toList ops.toList st (K .normal)
      | true => match look cx.plans id with
        | some pl => match st with
          | ⟨nt, tm, n, h⟩ => drw (planB ops pl && (alDsts ops pl.al).all (fun d => Nat.blt d nt) && zerosB cx.P ops pl.al) (frc (targets ⟨nt, tm, n, h⟩ ops.toList ops.toList) (fun ids => frc (dropT (alDsts ops pl.al) tm) (fun tm' =>
            execPlanR cx ids n ops pl.p1 ⟨nt, tm', n, h⟩ (fun st1 => execAlR cx ops pl.al st1 (fun st2 => execPlanR cx ids n ops pl.p2 st2 (K .normal))))))
        | none => False)
    (fun a b iha ihb pt st K => iha (0 :: pt) st (fun e st' => match e with
      | .normal => ihb (1 :: pt) st' K
      | e => K e st'))
    (fun c a b iha ihb pt st K => match evalV st c with
      | some (.c (.v (.bool t))) => br t (iha (0 :: pt) st K) (ihb (1 :: pt) st K)
      | _ => False)
    (fun id body ih pt st K => ih (0 :: pt) st (fun e st' => match e with
      | .exit id' => if id' = id then K .normal st' else K (.exit id') st'
      | e => K e st'))
    (fun body ih pt st K => match cx.loops pt with
      | some F => F st K
      | none => unrollR (ih (0 :: pt)) cx.turns st K)
    (fun _ _ _ _ _ _ _ _ _ => False)
    (fun id _ st K => K (.exit id) st)
    (fun _ _ _ _ _ => False)
    (fun _ _ _ _ => False)
    (fun _ _ _ _ => False)
    (fun _ st K => K .ret st)
    (fun _ _ _ _ => False) c pt
theorem execR_eq (cx : Cx γ) : ∀ (c : Code) (pt : List Nat), execR cx pt c = exec cx pt c := by
  intro c
  induction c with
  | skip => intro pt; funext st K; simp only [exec]; rfl
  | region id ops draw =>
    intro pt
    funext st K
    simp only [exec]
    have e : ∀ (stp : Oper → St γ → (St γ → Prop) → Prop) (all l : List Oper) (st : St γ) (K : St γ → Prop), execOps stp all l st K = execOpsR stp all l st K := fun stp all l st K => by rw [execOpsR_eq]
    simp only [e, ← execPlanR_eq, ← execAlR_eq]
    rfl
  | seq a b iha ihb =>
    intro pt
    funext st K
    simp only [exec]
    rw [← iha]
    simp only [← ihb]
    rfl
  | cond c a b iha ihb =>
    intro pt
    funext st K
    simp only [exec]
    simp only [← iha, ← ihb]
    rfl
  | block id body ih =>
    intro pt
    funext st K
    simp only [exec]
    rw [← ih]
    rfl
  | loop body ih =>
    intro pt
    funext st K
    simp only [exec]
    rw [← ih, ← unrollR_eq]
    rfl
  | rangeFunc f ps a b _ _ => intro pt; funext st K; simp only [exec]; rfl
  | exit id => intro pt; funext st K; simp only [exec]; rfl
  | scope body _ => intro pt; funext st K; simp only [exec]; rfl
  | label l => intro pt; funext st K; simp only [exec]; rfl
  | goto l => intro pt; funext st K; simp only [exec]; rfl
  | ret => intro pt; funext st K; simp only [exec]; rfl
  | refuse w => intro pt; funext st K; simp only [exec]; rfl
theorem of_execR {cx : Cx γ} {pt : List Nat} {c : Code} {st : St γ} {K : SExit → St γ → Prop} (h : execR cx pt c st K) : exec cx pt c st K := by rw [← execR_eq]; exact h
end
end Go.Sx
