/- Equality of structs and arrays of plain values. -/
import Derived.Test.YtcjiokiafdagdaaSxI
namespace Go.Sx
open Go.RowKit
set_option linter.unusedVariables false
set_option linter.unusedSimpArgs false
def flatFs (rec : TypeId → Option Nat) : List Field → Nat → Option Nat
  | [], off => some off
  | f :: r, off => if (f.name == "_") = true then none else if f.offset = off then match rec f.type with
      | some m => flatFs rec r (off + m)
      | none => none
    else none
/-- How many plain cells a type has that are compared one behind the other. -/
def flatT (P : Program) : Nat → TypeId → Option Nat
  | 0, _ => none
  | d + 1, t => match P.underlying t, P.info? t with
    | some (.int _), some i => if i.size = 1 then some 1 else none
    | some (.struct fs), some i => if P.stoodInHeld t = true then none else match flatFs (flatT P d) fs.toList 0 with
      | some m => if i.size = m then some m else none
      | none => none
    | some (.array n e), some i => match flatT P d e with
      | some m => if i.size = n * m then some (n * m) else none
      | none => none
    | _, _ => none
section
variable {P : Program} {w : World}
theorem eqVals_append : ∀ {x1 y1 x2 y2 : List Value} {b : Bool}, x1.length = y1.length → eqVals (x1 ++ x2) (y1 ++ y2) = some b → ∃ b1 b2, eqVals x1 y1 = some b1 ∧ eqVals x2 y2 = some b2 ∧ b = (b1 && b2)
  | [], [], x2, y2, b, _, h => ⟨true, b, rfl, h, by simp⟩
  | x :: x1, y :: y1, x2, y2, b, hl, h => by
    have hl' : x1.length = y1.length := by simpa using hl
    simp only [List.cons_append] at h
    unfold eqVals at h
    split at h
    · rename_i he _; cases he
    · rename_i k p r k' q s he1 he2
      injection he1 with e1 e2
      injection he2 with e3 e4
      subst e1; subst e3; subst e2; subst e4
      split at h
      · rename_i hk
        subst hk
        split at h
        · rename_i z hz
          injection h with h
          obtain ⟨b1, b2, h1, h2, h3⟩ := eqVals_append hl' hz
          exact ⟨(p == q) && b1, b2, by simp [eqVals, h1], h2, by rw [← h, h3, Bool.and_assoc]⟩
        · cases h
      · cases h
    · cases h
theorem eqVals_len : ∀ {xs ys : List Value} {b : Bool}, eqVals xs ys = some b → xs.length = ys.length
  | [], [], _, _ => rfl
  | [], _ :: _, _, h => by simp [eqVals] at h
  | x :: xs, [], _, h => by cases x <;> simp [eqVals] at h
  | x :: xs, y :: ys, b, h => by
    unfold eqVals at h
    split at h
    · rename_i he _; cases he
    · rename_i k p r k' q s he1 he2
      injection he1 with e1 e2
      injection he2 with e3 e4
      subst e2; subst e4
      split at h
      · split at h
        · rename_i z hz
          simp [eqVals_len hz]
        · cases h
      · cases h
    · cases h
/-- Cells as a value of a type. -/
def vv (P : Program) (t : TypeId) (xs : List Value) : Value :=
  match aggB (P.underlying t) with
  | some true => .agg xs.toArray
  | _ => xs.getD 0 undef
theorem flatT_agg {d : Nat} {t : TypeId} {m : Nat} (h : flatT P d t = some m) : ∃ i b, P.info? t = some i ∧ i.size = m ∧ aggB (P.underlying t) = some b ∧ (b = false → m = 1) := by
  cases d with
  | zero => cases h
  | succ d =>
    simp only [flatT] at h
    split at h
    · rename_i k i hu hi
      split at h
      · rename_i h1
        injection h with h
        exact ⟨i, false, hi, by omega, by rw [hu]; rfl, fun _ => h.symm⟩
      · cases h
    · rename_i fs i hu hi
      split at h
      · cases h
      · split at h
        · split at h
          · rename_i h1
            injection h with h
            exact ⟨i, true, hi, by omega, by rw [hu]; rfl, fun h => by cases h⟩
          · cases h
        · cases h
    · rename_i n e i hu hi
      split at h
      · split at h
        · rename_i h1
          injection h with h
          exact ⟨i, true, hi, by omega, by rw [hu]; rfl, fun h => by cases h⟩
        · cases h
      · cases h
    · cases h
theorem part_vv {d : Nat} {t : TypeId} {m : Nat} (h : flatT P d t = some m) (xs : List Value) (off : Nat) (hl : off + m ≤ xs.length) : (part t xs.toArray off).run P w = .ok (vv P t ((xs.drop off).take m)) w := by
  obtain ⟨i, b, hi, hs, hb, h1⟩ := flatT_agg h
  unfold part vv
  cases b with
  | true =>
    simp only [Sem.run_bind, run_isAgg hb, Result.andThen_ok, if_true, run_sizeOf hi, Sem.run_pure, hb, hs]
    congr 2
    apply Array.ext'
    simp [Array.toList_extract, List.extract_eq_take_drop]
  | false =>
    have hm := h1 rfl
    subst hm
    have hx : xs[off]? = some xs[off] := List.getElem?_eq_getElem (by omega)
    simp [run_isAgg hb, hb, hx, List.getD, List.getElem?_take, List.getElem?_drop]
theorem eqFields_flat {d D : Nat} (ih : ∀ (t : TypeId) (m : Nat), flatT P d t = some m → ∀ (xs ys : List Value) (b : Bool), xs.length = m → eqVals xs ys = some b → (Op.equalIn D t (vv P t xs) (vv P t ys)).run P w = .ok b w)
    (xs ys : List Value) (hxy : xs.length = ys.length) : ∀ (fs : List Field) (off : Nat), flatFs (flatT P d) fs off = some xs.length → ∀ b, eqVals (xs.drop off) (ys.drop off) = some b → (Op.eqFields D xs.toArray ys.toArray fs).run P w = .ok b w
  | [], off, h, b, hb => by
    simp only [flatFs] at h
    injection h with h
    rw [h, List.drop_of_length_le (Nat.le_refl _), List.drop_of_length_le (by omega)] at hb
    injection hb with hb
    subst hb
    simp [Op.eqFields]
  | f :: r, off, h, b, hb => by
    simp only [flatFs] at h
    split at h
    · cases h
    · rename_i hn
      split at h
      · rename_i ho
        split at h
        · rename_i m hm
          have hle : ∀ (fs : List Field) (o : Nat) (z : Nat), flatFs (flatT P d) fs o = some z → o ≤ z := by
            intro fs
            induction fs with
            | nil => intro o z hz; simp only [flatFs] at hz; injection hz with hz; omega
            | cons g gs ihg =>
              intro o z hz
              simp only [flatFs] at hz
              split at hz
              · cases hz
              · split at hz
                · split at hz
                  · have := ihg _ _ hz; omega
                  · cases hz
                · cases hz
          have hom := hle _ _ _ h
          have e1 : xs.drop off = (xs.drop off).take m ++ xs.drop (off + m) := by rw [← List.drop_drop]; exact (List.take_append_drop m _).symm
          have e2 : ys.drop off = (ys.drop off).take m ++ ys.drop (off + m) := by rw [← List.drop_drop]; exact (List.take_append_drop m _).symm
          rw [e1, e2] at hb
          obtain ⟨b1, b2, h1, h2, h3⟩ := eqVals_append (by simp; omega) hb
          have hn' : f.name ≠ "_" := by simpa using hn
          have p1 := part_vv (w := w) hm xs f.offset (by omega)
          have p2 := part_vv (w := w) hm ys f.offset (by omega)
          rw [ho] at p1 p2
          have q := ih f.type m hm _ _ b1 (by simp; omega) h1
          rw [Op.eqFields]
          simp only [if_pos hn', Sem.run_bind, ho, p1, p2, q, Result.andThen_ok]
          have rest := eqFields_flat ih xs ys hxy r (off + m) h b2 h2
          subst h3
          cases b1
          · simp
          · simpa using rest
        · cases h
      · cases h
theorem eqArr_flat {D : Nat} {e : TypeId} {m sz : Nat} (xs ys : List Value) (ih : ∀ i, i < sz → ∀ b, eqVals ((xs.drop (i * m)).take m) ((ys.drop (i * m)).take m) = some b → ∃ u v, (part e xs.toArray (i * m)).run P w = .ok u w ∧ (part e ys.toArray (i * m)).run P w = .ok v w ∧ (Op.equalIn D e u v).run P w = .ok b w) :
    ∀ (l k : Nat), k + l = sz → xs.length = sz * m → ys.length = sz * m → ∀ b, eqVals (xs.drop (k * m)) (ys.drop (k * m)) = some b →
      (do
        let r ← forIn (List.range' k l) ((none, ()) : Option Bool × Unit) (fun i _ => do
          let a ← part e xs.toArray (i * m)
          let c ← part e ys.toArray (i * m)
          let z ← Op.equalIn D e a c
          if (!z) = true then pure (ForInStep.done (some false, ())) else pure (ForInStep.yield (none, ())))
        match r.fst with
        | some a => pure a
        | none => pure true : Sem Bool).run P w = .ok b w
  | 0, k, hk, hx, hy, b, hb => by
    have : k = sz := by omega
    subst this
    rw [List.drop_of_length_le (by omega), List.drop_of_length_le (by omega)] at hb
    injection hb with hb
    subst hb
    simp
  | l + 1, k, hk, hx, hy, b, hb => by
    have hkl : k * m + m ≤ sz * m := by rw [← Nat.succ_mul]; exact Nat.mul_le_mul_right _ (by omega)
    have e1 : xs.drop (k * m) = (xs.drop (k * m)).take m ++ xs.drop ((k + 1) * m) := by rw [Nat.succ_mul, ← List.drop_drop]; exact (List.take_append_drop m _).symm
    have e2 : ys.drop (k * m) = (ys.drop (k * m)).take m ++ ys.drop ((k + 1) * m) := by rw [Nat.succ_mul, ← List.drop_drop]; exact (List.take_append_drop m _).symm
    rw [e1, e2] at hb
    obtain ⟨b1, b2, h1, h2, h3⟩ := eqVals_append (by simp; omega) hb
    obtain ⟨u, v, p1, p2, q⟩ := ih k (by omega) b1 h1
    have rest := eqArr_flat xs ys ih l (k + 1) (by omega) hx hy b2 h2
    rw [List.range'_succ, List.forIn_cons]
    subst h3
    cases b1
    · simp [p1, p2, q]
    · simp only [bind_assoc, Sem.run_bind, p1, p2, q, Result.andThen_ok, Bool.not_true, Bool.false_eq_true, if_false, pure_bind, Bool.true_and]
      simpa using rest
theorem flat_eq : ∀ (d : Nat) (t : TypeId) (m : Nat), flatT P d t = some m → ∀ (D : Nat), d ≤ D → ∀ (xs ys : List Value) (b : Bool), xs.length = m → eqVals xs ys = some b → (Op.equalIn D t (vv P t xs) (vv P t ys)).run P w = .ok b w
  | 0, t, m, h, D, hD, xs, ys, b, hl, hb => by cases h
  | d + 1, t, m, h, D, hD, xs, ys, b, hl, hb => by
    obtain ⟨D', rfl⟩ : ∃ k, D = k + 1 := ⟨D - 1, by omega⟩
    have hxy := eqVals_len hb
    simp only [flatT] at h
    split at h
    · rename_i k i hu hi
      split at h
      · injection h with h
        subst h
        match xs, ys, hl, hxy with
        | [x], [y], _, _ =>
          simp only [vv, hu, aggB, List.getD, List.getElem?_cons_zero, Option.getD_some]
          unfold eqVals at hb
          split at hb
          · rename_i he _; cases he
          · rename_i k1 p r k2 q s he1 he2
            injection he1 with e1 e2
            injection he2 with e3 e4
            subst e1; subst e3; subst e2; subst e4
            split at hb
            · rename_i hk
              subst hk
              simp only [eqVals] at hb
              injection hb with hb
              subst hb
              rw [run_equalIn_int (P := P) w D' t k1 k p q hu]
              simp
            · cases hb
          · cases hb
      · cases h
    · rename_i fs i hu hi
      split at h
      · cases h
      · rename_i hst
        split at h
        · rename_i m' hm'
          split at h
          · rename_i hsz
            injection h with h
            subst h
            have hf : P.fieldsOf t = fs := by simp [Program.fieldsOf, hu]
            have hag : aggB (P.underlying t) = some true := by rw [hu]; rfl
            simp only [vv, hag]
            rw [run_equalIn_struct (P := P) w D' t _ _ (by rw [hf]; exact hu) (by simpa using hst), hf]
            refine eqFields_flat (d := d) (fun t m hm xs ys b hl hb => flat_eq d t m hm D' (by omega) xs ys b hl hb) xs ys hxy fs.toList 0 (by rw [hl]; exact hm') b (by simpa using hb)
          · cases h
        · cases h
    · rename_i n e i hu hi
      split at h
      · rename_i m' hm'
        split at h
        · rename_i hsz
          injection h with h
          subst h
          have hag : aggB (P.underlying t) = some true := by rw [hu]; rfl
          obtain ⟨j, bb, hj, hjs, _, _⟩ := flatT_agg hm'
          simp only [vv, hag]
          have key := eqArr_flat (P := P) (w := w) (D := D') (e := e) (m := m') (sz := n) xs ys (fun k hk b' hb' => by
            have hkm : k * m' + m' ≤ n * m' := by rw [← Nat.succ_mul]; exact Nat.mul_le_mul_right _ (by omega)
            exact ⟨_, _, part_vv hm' xs (k * m') (by omega), part_vv hm' ys (k * m') (by omega), flat_eq d e m' hm' D' (by omega) _ _ b' (by simp; omega) hb'⟩) n 0 (by omega) hl (by omega) b (by simpa using hb)
          have hs := run_sizeOf (P := P) hj w
          simp only [Op.equalIn, Sem.run_bind, run_underlying hu, Result.andThen_ok, hs, hjs]
          simp only [Sem.run_bind] at key
          rw [Std.Legacy.Range.forIn_eq_forIn_range']
          refine Eq.trans ?_ key
          simp only [Std.Legacy.Range.size, Nat.sub_zero, Nat.add_sub_cancel, Nat.div_one]
          congr 1
          funext r w'
          cases r.fst <;> rfl
        · cases h
      · cases h
    · cases h
/-- The types that are told as compared cell by cell. -/
theorem eqOK_of {eqs : TypeId → Bool} (h : ∀ t, eqs t = true → P.eqGuardType P.depth t = false ∧ aggB (P.underlying t) = some true ∧ ∃ m, flatT P 9 t = some m) : EqOK P eqs := by
  intro t ht
  obtain ⟨h1, h2, m, h3⟩ := h t ht
  refine ⟨h1, fun xs ys b i w hi hl hb => ?_⟩
  obtain ⟨j, _, hj, hjm, _, _⟩ := flatT_agg h3
  rw [hi] at hj
  injection hj with hj
  subst hj
  have := flat_eq (P := P) (w := w) 9 t m h3 10000 (by omega) xs ys b (by omega) hb
  simpa only [vv, h2] using this
end
end Go.Sx
