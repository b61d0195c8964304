/- The executor's answers are the model's: the other operations that leave memory alone. -/
import Derived.Test.YtcjiokiafdagdaaSxB
import Derived.Laws.StructEq
namespace Go.Sx
open Go.RowKit
set_option linter.unusedVariables false
set_option linter.unusedSimpArgs false
section
variable {γ : Type} [Gh γ] {P : Program} {E : Env} {st : St γ} {a : Act} {w : World} {B n : Nat}
theorem gives_bad {x : ST} (h : OR.gives .bad x) : False := by rcases h with h | h <;> cases h
theorem gives_ok {x y : ST} (h : OR.gives (.ok y) x) : x = y := by rcases h with h | h <;> first | (injection h with h; exact h.symm) | cases h
theorem gives_chk {b : Bool} {x y : ST} (h : OR.gives (.chk b y) x) : b = true ∧ x = y := by
  rcases h with h | h
  · cases h
  · injection h with h1 h2; exact ⟨h1, h2.symm⟩
theorem valsOf_den (E : Env) : ∀ {xs : List SC} {l : List Value}, valsOf xs = some l → xs.map (SC.den E) = l
  | [], l, h => by cases h; rfl
  | .v x :: r, l, h => by
    simp only [valsOf] at h
    split at h
    · rename_i l' hl
      injection h with h
      subst h
      simp [SC.den, valsOf_den E hl]
    · cases h
  | .p _ _ :: r, l, h => by simp [valsOf] at h
  | .q _ _ _ _ :: r, l, h => by simp [valsOf] at h
  | .s _ _ :: r, l, h => by simp [valsOf] at h
  | .r _ :: r, l, h => by simp [valsOf] at h
theorem eqCells_vals (E : Env) {xs ys : List SC} {b : Bool} (h : eqCells xs ys = some b) : eqVals (xs.map (SC.den E)) (ys.map (SC.den E)) = some b := by
  unfold eqCells at h
  split at h
  · rename_i l m hl hm
    rw [valsOf_den E hl, valsOf_den E hm]
    exact h
  · cases h
def EqOK (P : Program) (eqs : TypeId → Bool) : Prop :=
  ∀ t, eqs t = true → P.eqGuardType P.depth t = false ∧ ∀ (xs ys : List Value) (b : Bool) (i : TypeInfo) (w : World), P.info? t = some i → i.size = xs.length → eqVals xs ys = some b →
    (Op.equalIn 10000 t (.agg xs.toArray) (.agg ys.toArray)).run P w = .ok b w
theorem bin_int (op : BinOp) (t : TypeId) (x y : Operand) (k : IntKind) (p q : Int) {r : ST} (hs : op ≠ .shl ∧ op ≠ .shr) (h : (intOp op k p q).gives r) :
    ((do eqGuard op t x y (.int k p) (.int k q); binOp op t (.int k p) (.int k q) : Sem Value)).run P w = .ok (r.den E) w ∧ r.okn E n := by
  have hg : eqGuard op t x y (.int k p) (.int k q) = pure () := by cases op <;> rfl
  rw [hg]
  simp only [pure_bind]
  cases op <;> simp only [intOp] at h <;> first
    | exact (gives_bad h).elim
    | (obtain rfl := gives_ok h; refine ⟨?_, rfl⟩; simp [binOp, Op.intArith, Op.intCmp, Op.intBits, ST.den, SV.den, SC.den, bits]; done)
    | (obtain ⟨h1, rfl⟩ := gives_chk h; refine ⟨?_, rfl⟩; have h2 : q ≠ 0 := by simpa using h1
       simp [binOp, Op.intDiv, h2, ST.den, SV.den, SC.den])
    | exact absurd rfl hs.1
    | exact absurd rfl hs.2
theorem bin_sh (op : BinOp) (t : TypeId) (x y : Operand) (k k' : IntKind) (p q : Int) {r : ST} (hs : op = .shl ∨ op = .shr) (h : (shOp op k p q).gives r) :
    ((do eqGuard op t x y (.int k p) (.int k' q); binOp op t (.int k p) (.int k' q) : Sem Value)).run P w = .ok (r.den E) w ∧ r.okn E n := by
  have hg : eqGuard op t x y (.int k p) (.int k' q) = pure () := by cases op <;> rfl
  rw [hg]
  simp only [pure_bind]
  rcases hs with rfl | rfl
  · obtain ⟨h1, rfl⟩ := gives_chk h
    refine ⟨?_, rfl⟩
    have h2 : ¬ q < 0 := by have := of_decide_eq_true h1; omega
    simp [binOp, Op.shift, h2, ST.den, SV.den, SC.den]
  · obtain ⟨h1, rfl⟩ := gives_chk h
    refine ⟨?_, rfl⟩
    have h2 : ¬ q < 0 := by have := of_decide_eq_true h1; omega
    simp [binOp, Op.shift, h2, ST.den, SV.den, SC.den]
theorem binV_sound {eqs : TypeId → Bool} (he : EqOK P eqs) {op : BinOp} {t : TypeId} {x y : Operand} {u v : SV} {r : ST} (h : (binV P eqs op t u v).gives r) :
    ((do eqGuard op t x y (u.den E) (v.den E); binOp op t (u.den E) (v.den E) : Sem Value)).run P w = .ok (r.den E) w ∧ r.okn E n := by
  unfold binV at h
  split at h
  · rename_i k p k' q
    simp only [SV.den, SC.den]
    split at h
    · exact bin_sh .shl t x y k k' p q (.inl rfl) h
    · exact bin_sh .shr t x y k k' p q (.inr rfl) h
    · rename_i h1 h2
      split at h
      · rename_i hk
        subst hk
        exact bin_int op t x y k p q ⟨h1, h2⟩ h
      · exact (gives_bad h).elim
  · rename_i p q
    simp only [SV.den, SC.den]
    split at h
    · rename_i hu
      have hg : eqGuard op t x y (.bool p) (.bool q) = pure () := by cases op <;> rfl
      rw [hg]
      simp only [pure_bind]
      split at h
      · obtain rfl := gives_ok h
        refine ⟨?_, rfl⟩
        simp [binOp, Op.equal, Op.maxDepth, run_equalIn_bool' (P := P) w 9999 t p q hu, ST.den, SV.den, SC.den]
      · obtain rfl := gives_ok h
        refine ⟨?_, rfl⟩
        simp [binOp, Op.equal, Op.maxDepth, run_equalIn_bool' (P := P) w 9999 t p q hu, ST.den, SV.den, SC.den]
      · exact (gives_bad h).elim
    · exact (gives_bad h).elim
  · rename_i xs ys
    split at h
    · rename_i i het hi
      split at h
      · rename_i hsz
        split at h
        · rename_i b hb
          obtain ⟨h1, h2⟩ := he t het
          have h3 := h2 (xs.map (SC.den E)) (ys.map (SC.den E)) b i w hi (by simpa using hsz) (eqCells_vals E hb)
          simp only [SV.den, Sem.run_bind, run_eqGuard_agg (P := P) w op t x y _ _ h1, Result.andThen_ok]
          split at h
          · obtain rfl := gives_ok h
            refine ⟨?_, rfl⟩
            rw [run_eql_struct, h3]
            rfl
          · obtain rfl := gives_ok h
            refine ⟨?_, rfl⟩
            rw [run_neq_struct, h3]
            rfl
          · exact (gives_bad h).elim
        · exact (gives_bad h).elim
      · exact (gives_bad h).elim
    · exact (gives_bad h).elim
  · exact (gives_bad h).elim
theorem fieldAddrV_sound {t : TypeId} {x : SV} {f : Nat} {r : ST} (hx : x.okn E n) (h : (fieldAddrV P t x f).gives r) : (Instr.fieldAt t (x.den E) f).run P w = .ok (r.den E) w ∧ r.okn E n := by
  unfold fieldAddrV at h
  split at h
  · rename_i fs hu
    split at h
    · rename_i fd hf
      split at h
      · rename_i i hi
        split at h
        · exact (gives_bad h).elim
        · rename_i hz
          split at h
          · rename_i id off
            obtain rfl := gives_ok h
            refine ⟨?_, hx⟩
            obtain ⟨g, hg⟩ := hx.2
            simp only [SV.den, SC.den, ST.den, hg, Option.map_some, addr_add, Nat.zero_add]
            simp [Instr.fieldAt, run_underlying hu, hf, Instr.sureAddr, fieldPlace, run_sizeOf hi, hz, addr_add]
          · rename_i id sz e j
            obtain rfl := gives_ok h
            refine ⟨?_, hx⟩
            obtain ⟨ad, hE⟩ := hx.2
            simp only [SV.den, SC.den, ST.den, hE, Option.map_some]
            simp [Instr.fieldAt, run_underlying hu, hf, Instr.sureAddr, fieldPlace, run_sizeOf hi, hz, add_twice, Nat.add_assoc]
          · exact (gives_bad h).elim
      · exact (gives_bad h).elim
    · exact (gives_bad h).elim
  · exact (gives_bad h).elim
theorem partV_sound {t : TypeId} {cs : List SC} {off : Nat} {r : ST} (hx : ∀ c ∈ cs, c.okn E n) (h : (partV P t cs off).gives r) :
    (part t (cs.map (SC.den E)).toArray off).run P w = .ok (r.den E) w ∧ r.okn E n := by
  unfold partV at h
  split at h
  · rename_i hb
    split at h
    · rename_i i hi
      simp only [frc_eq] at h
      split at h
      · rename_i hle
        obtain rfl := gives_ok h
        refine ⟨?_, fun c hc => hx c (mem_drop_take hc)⟩
        simp only [part, Sem.run_bind, run_isAgg hb, Result.andThen_ok, if_true, run_sizeOf hi, Sem.run_pure, ST.den, SV.den, drop_take_den]
        congr 2
        apply Array.ext'
        simp [Array.toList_extract]
      · exact (gives_bad h).elim
    · exact (gives_bad h).elim
  · rename_i hb
    split at h
    · rename_i c hc
      obtain rfl := gives_ok h
      refine ⟨?_, hx c (List.mem_of_getElem? hc)⟩
      simp [part, run_isAgg hb, hc, ST.den, SV.den]
    · exact (gives_bad h).elim
  · exact (gives_bad h).elim
theorem fieldV_sound {t : TypeId} {x : SV} {f : Nat} {r : ST} (hx : x.okn E n) (h : (fieldV P t x f).gives r) : (Instr.field t (x.den E) f).run P w = .ok (r.den E) w ∧ r.okn E n := by
  unfold fieldV at h
  split at h
  · rename_i fs hu
    split at h
    · rename_i fd hf
      split at h
      · rename_i cs
        have := partV_sound (P := P) (E := E) (w := w) (n := n) hx h
        refine ⟨?_, this.2⟩
        simp [Instr.field, run_underlying hu, hf, SV.den, asAgg, this.1]
      · exact (gives_bad h).elim
    · exact (gives_bad h).elim
  · exact (gives_bad h).elim
theorem under_gives {b : Bool} {r : OR} {x : ST} (h : (OR.under b r).gives x) : b = true ∧ r.gives x := by
  cases r with
  | ok y => obtain ⟨h1, rfl⟩ := gives_chk h; exact ⟨h1, .inl rfl⟩
  | chk c y =>
    obtain ⟨h1, rfl⟩ := gives_chk h
    simp only [Bool.and_eq_true] at h1
    obtain ⟨h1, rfl⟩ := h1
    exact ⟨h1, .inr rfl⟩
  | bad => exact (gives_bad h).elim
theorem indexV_sound {t : TypeId} {x ix : SV} {r : ST} (hx : x.okn E n) (h : (indexV P t x ix).gives r) : (Instr.index t (x.den E) (ix.den E)).run P w = .ok (r.den E) w ∧ r.okn E n := by
  unfold indexV at h
  split at h
  · rename_i k e
    split at h
    · rename_i m el hu
      split at h
      · rename_i i hi
        split at h
        · rename_i cs
          obtain ⟨h1, h2⟩ := under_gives h
          simp only [Bool.and_eq_true, decide_eq_true_eq] at h1
          have := partV_sound (P := P) (E := E) (w := w) (n := n) hx h2
          refine ⟨?_, this.2⟩
          simp [Instr.index, SV.den, SC.den, asIntOf, run_underlying hu, h1, run_sizeOf hi, this.1]
        · exact (gives_bad h).elim
      · exact (gives_bad h).elim
    · rename_i hu
      split at h
      · rename_i s
        split at h
        · rename_i b hb
          obtain ⟨h1, rfl⟩ := gives_chk h
          simp only [decide_eq_true_eq] at h1
          refine ⟨?_, rfl⟩
          simp [Instr.index, SV.den, SC.den, ST.den, asIntOf, run_underlying hu, h1, hb]
        · exact (gives_bad h).elim
      · exact (gives_bad h).elim
    · exact (gives_bad h).elim
  · exact (gives_bad h).elim
theorem indexAddrV_sound {H : List (Nat × Blk γ)} (hH : HR E n H B w) {t : TypeId} {x ix : SV} {r : ST} (hx : x.okn E n) (h : (indexAddrV P H t x ix).gives r)
    :
    (Instr.indexAt t (x.den E) (ix.den E)).run P w = .ok (r.den E) w ∧ r.okn E n := by
  unfold indexAddrV at h
  split at h
  · rename_i k e
    split at h
    · rename_i m el hu
      split at h
      · rename_i i hi
        split at h
        · rename_i id off
          obtain ⟨h1, rfl⟩ := gives_chk h
          simp only [Bool.and_eq_true, decide_eq_true_eq] at h1
          obtain ⟨g, hg⟩ := hx.2
          refine ⟨?_, hx⟩
          simp only [SV.den, SC.den, ST.den, hg, Option.map_some, addr_add, Nat.zero_add]
          simp [Instr.indexAt, asIntOf, run_underlying hu, Instr.sureAddr, h1, run_sizeOf hi, addr_add]
        · exact (gives_bad h).elim
      · exact (gives_bad h).elim
    · rename_i el hu
      split at h
      · rename_i i hi
        split at h
        · rename_i id m
          obtain ⟨h1, rfl⟩ := gives_chk h
          simp only [Bool.and_eq_true, decide_eq_true_eq] at h1
          obtain ⟨g, hg⟩ := hx.2
          refine ⟨?_, hx⟩
          simp only [SV.den, SC.den, ST.den, hg, Option.map_some, addr_add, Nat.zero_add]
          simp [Instr.indexAt, asIntOf, run_underlying hu, h1, run_sizeOf hi, addr_add]
        · rename_i id
          split at h
          · rename_i g hl
            obtain ⟨h1, rfl⟩ := gives_chk h
            simp only [Bool.and_eq_true, decide_eq_true_eq] at h1
            obtain ⟨hlen, hx2⟩ := hH.ext _ _ hl
            obtain ⟨ad, had, _⟩ := hx2 e.toNat (by omega)
            refine ⟨?_, hx, ad, had⟩
            simp only [SV.den, SC.den, ST.den, had, Option.map_some, hlen]
            simp [Instr.indexAt, asIntOf, run_underlying hu, h1, run_sizeOf hi]
          · exact (gives_bad h).elim
        · exact (gives_bad h).elim
      · exact (gives_bad h).elim
    · exact (gives_bad h).elim
  · exact (gives_bad h).elim
theorem lenV_sound {H : List (Nat × Blk γ)} (hH : HR E n H B w) {t ty : TypeId} {x : SV} {r : ST} (h : (lenV P H t x).gives r) :
    (Builtin.len_ #[t] ty #[x.den E]).run P w = .ok (r.den E) w ∧ r.okn E n := by
  unfold lenV at h
  split at h
  · rename_i el hu
    split at h
    · obtain rfl := gives_ok h
      exact ⟨by simp [Builtin.len_, run_underlying hu, SV.den, SC.den, ST.den, goInt], rfl⟩
    · rename_i id
      split at h
      · rename_i g hl
        obtain rfl := gives_ok h
        obtain ⟨hlen, _⟩ := hH.ext _ _ hl
        exact ⟨by simp [Builtin.len_, run_underlying hu, SV.den, SC.den, ST.den, goInt, hlen], rfl⟩
      · exact (gives_bad h).elim
    · obtain rfl := gives_ok h
      exact ⟨by simp [Builtin.len_, run_underlying hu, SV.den, SC.den, ST.den, goInt], rfl⟩
    · exact (gives_bad h).elim
  · rename_i m el hu
    obtain rfl := gives_ok h
    exact ⟨by simp [Builtin.len_, run_underlying hu, SV.den, SC.den, ST.den, goInt], rfl⟩
  · exact (gives_bad h).elim
end
end Go.Sx
