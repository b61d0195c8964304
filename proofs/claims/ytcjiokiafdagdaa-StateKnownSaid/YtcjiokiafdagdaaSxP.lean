/- Contracts without numbers: what a call does, told of values and of rows that are read as known data. -/
import Derived.Test.YtcjiokiafdagdaaSxN
namespace Go.Sx
open Go.RowKit
set_option linter.unusedVariables false
set_option linter.unusedSimpArgs false
set_option linter.unusedSectionVars false
/-- A known block that a row is read out of. -/
class GhO (γ : Type) [Gh γ] where
  ofC : TypeId → Nat → List SC → Option γ
  ofC_ok : ∀ ty n cs g, ofC ty n cs = some g → Gh.len g = n ∧ ∀ i, i < n → Gh.row g i = (cs.drop (i * Gh.sz g)).take (Gh.sz g)
inductive AC (γ : Type) where
  | v (x : Value)
  | g (x : γ)
inductive AV (γ : Type) where
  | c (x : AC γ)
  | a (cs : List (AC γ))
  | s (ty : TypeId) (n : Nat) (cs : List (AC γ))
inductive AT (γ : Type) where
  | v (x : AV γ)
  | t (xs : List (AV γ))
section
variable {γ : Type} [Gh γ]
def RdC (base : Nat) (w : World) : AC γ → Value → Prop
  | .v x, v => v = x ∧ x.oneCell' = true
  | .g g, v => ∃ (ad : Option Addr) (cap : Nat), v = .slice ad (Gh.len g) cap ∧ (∀ i, i < Gh.len g → ∃ a, ad = some a ∧ ∀ j c, (Gh.row g i)[j]? = some (.v c) → w.cell? (a.add (i * Gh.sz g + j)) = some c) ∧ ∀ a, ad = some a → base ≤ a.block
def RdCs (base : Nat) (w : World) : List (AC γ) → List Value → Prop
  | [], [] => True
  | x :: r, v :: s => RdC base w x v ∧ RdCs base w r s
  | _, _ => False
def RdV (base : Nat) (w : World) : AV γ → Value → Prop
  | .c x, v => RdC base w x v
  | .a cs, v => ∃ vs : List Value, v = .agg vs.toArray ∧ RdCs base w cs vs
  | .s ty n cs, v => ∃ (g : Nat) (vs : List Value), v = .slice (some ⟨g, 0, none⟩) n n ∧ w.heap[g]? = some (.cells vs.toArray ty (0, 0)) ∧ RdCs base w cs vs ∧ base ≤ g
def RdVs (base : Nat) (w : World) : List (AV γ) → List Value → Prop
  | [], [] => True
  | x :: r, v :: s => RdV base w x v ∧ RdVs base w r s
  | _, _ => False
def RdT (base : Nat) (w : World) : AT γ → Value → Prop
  | .v x, v => RdV base w x v
  | .t xs, v => ∃ vs : List Value, v = .tuple vs.toArray ∧ RdVs base w xs vs
/-- What a function does, wherever its arguments lie. -/
def AOK (γ : Type) [Gh γ] (P : Program) (f : FuncId) (args : List (AV γ)) (r : AT γ) : Prop := ∀ (w : World) (vs : List Value), RdVs 0 w args vs → Does P f vs.toArray w fun e w' => ∃ v, e = .returned v ∧ RdT w.heap.size w' r v ∧ Below w.heap.size w w'
/-! ### Towards numbers -/
def concC (n : Nat) : AC γ → SC × List (Blk γ)
  | .v x => (.v x, [])
  | .g g => (.r n, [.ext g])
def concCs (n : Nat) : List (AC γ) → List SC × List (Blk γ)
  | [] => ([], [])
  | x :: r => ((concC n x).1 :: (concCs (n + (concC n x).2.length) r).1, (concC n x).2 ++ (concCs (n + (concC n x).2.length) r).2)
def concV (n : Nat) : AV γ → SV × List (Blk γ)
  | .c x => (.c (concC n x).1, (concC n x).2)
  | .a cs => (.a (concCs n cs).1, (concCs n cs).2)
  | .s _ _ _ => (.a [], [])
def concVs (n : Nat) : List (AV γ) → List SV × List (Blk γ)
  | [] => ([], [])
  | x :: r => ((concV n x).1 :: (concVs (n + (concV n x).2.length) r).1, (concV n x).2 ++ (concVs (n + (concV n x).2.length) r).2)
def concT (n : Nat) : AT γ → ST × List (Blk γ)
  | .v x => (.v (concV n x).1, (concV n x).2)
  | .t xs => (.t (concVs n xs).1, (concVs n xs).2)
/-- The same, laid open at once. -/
def concCsk {R : Type} (n : Nat) : List (AC γ) → (Nat → List SC → List (Blk γ) → R) → R
  | [], k => k n [] []
  | .v x :: r, k => concCsk n r (fun n' ys bs => k n' (.v x :: ys) bs)
  | .g g :: r, k => concCsk (n + 1) r (fun n' ys bs => k n' (.r n :: ys) (.ext g :: bs))
def concVk {R : Type} (n : Nat) : AV γ → (Nat → SV → List (Blk γ) → R) → R
  | .c (.v x), k => k n (.c (.v x)) []
  | .c (.g g), k => k (n + 1) (.c (.r n)) [.ext g]
  | .a cs, k => concCsk n cs (fun n' ys bs => k n' (.a ys) bs)
  | .s _ _ _, k => k n (.a []) []
def concVsk {R : Type} (n : Nat) : List (AV γ) → (Nat → List SV → List (Blk γ) → R) → R
  | [], k => k n [] []
  | x :: r, k => concVk n x (fun n' y b => match b with
      | [] => concVsk n' r (fun n'' ys bs => k n'' (y :: ys) bs)
      | b => concVsk n' r (fun n'' ys bs => k n'' (y :: ys) (b ++ bs)))
def concTk {R : Type} (n : Nat) : AT γ → (Nat → ST → List (Blk γ) → R) → R
  | .v x, k => concVk n x (fun n' y b => k n' (.v y) b)
  | .t xs, k => concVsk n xs (fun n' ys bs => k n' (.t ys) bs)
theorem concCsk_eq {R : Type} : ∀ (n : Nat) (xs : List (AC γ)) (k : Nat → List SC → List (Blk γ) → R), concCsk n xs k = k (n + (concCs n xs).2.length) (concCs n xs).1 (concCs n xs).2
  | n, [], k => rfl
  | n, .v x :: r, k => by
    rw [concCsk, concCsk_eq n r]
    simp [concCs, concC]
  | n, .g g :: r, k => by
    rw [concCsk, concCsk_eq (n + 1) r]
    simp only [concCs, concC, List.length_cons, List.length_nil, List.length_append, List.cons_append, List.nil_append, Nat.zero_add]
    congr 1
    omega
theorem concVk_eq {R : Type} (n : Nat) (x : AV γ) (k : Nat → SV → List (Blk γ) → R) : concVk n x k = k (n + (concV n x).2.length) (concV n x).1 (concV n x).2 := by
  cases x with
  | c x => cases x <;> rfl
  | a cs => rw [concVk, concCsk_eq]; rfl
  | s ty m cs => rfl
theorem concVsk_eq {R : Type} : ∀ (n : Nat) (xs : List (AV γ)) (k : Nat → List SV → List (Blk γ) → R), concVsk n xs k = k (n + (concVs n xs).2.length) (concVs n xs).1 (concVs n xs).2
  | n, [], k => rfl
  | n, x :: r, k => by
    rw [concVsk, concVk_eq]
    split
    · rename_i hb
      rw [concVsk_eq]
      simp [concVs, hb]
    · rw [concVsk_eq]
      simp only [concVs, List.length_append]
      congr 1
      omega
theorem concTk_eq {R : Type} (n : Nat) (x : AT γ) (k : Nat → ST → List (Blk γ) → R) : concTk n x k = k (n + (concT n x).2.length) (concT n x).1 (concT n x).2 := by
  cases x with
  | v x => rw [concTk, concVk_eq]; rfl
  | t xs => rw [concTk, concVsk_eq]; rfl
def noS : AV γ → Bool
  | .s _ _ _ => false
  | _ => true
def noST : AT γ → Bool
  | .v x => noS x
  | .t xs => xs.all noS
variable {w w' : World} {base : Nat}
theorem NewOK.nil {E : Env} {n : Nat} : NewOK (γ := γ) E n [] w w' := fun k b h => by cases h
theorem NewOK.append {E : Env} {n : Nat} {l r : List (Blk γ)} (h : NewOK E n l w w') (k : NewOK E (n + l.length) r w w') : NewOK E n (l ++ r) w w' := by
  intro i b hi
  by_cases hl : i < l.length
  · rw [List.getElem?_append_left hl] at hi
    exact h i b hi
  · rw [List.getElem?_append_right (by omega)] at hi
    have := k _ _ hi
    rwa [show n + l.length + (i - l.length) = n + i from by omega] at this
theorem ExtAt.ag {E E' : Env} {id n : Nat} {g : γ} (h : ExtAt E id g w) (hA : Ag n E E') (hi : id < n) : ExtAt E' id g w := by
  obtain ⟨h1, h2⟩ := h
  refine ⟨by rw [hA.len _ hi]; exact h1, fun i hl => ?_⟩
  obtain ⟨a, h3, h4⟩ := h2 i hl
  refine ⟨a, by rw [hA.addr _ hi]; exact h3, fun j c hc => ?_⟩
  rw [row_den hc E E']
  exact h4 j c hc
theorem NewOK.ag {E E' : Env} {n m : Nat} {l : List (Blk γ)} (h : NewOK E n l w w') (hA : Ag m E E') (hm : n + l.length ≤ m) : NewOK E' n l w w' := by
  intro k b hk
  have hk' := (List.getElem?_eq_some_iff.1 hk).1
  obtain ⟨g, h1, h2, h3⟩ := h k b hk
  exact ⟨g, h1, h2.ag hA (by omega), fun ad had => h3 ad (by rw [hA.addr _ (by omega)] at had; exact had)⟩
/-- Numbers for what has been told. -/
theorem concC_ok {x : AC γ} {v : Value} (h : RdC w.heap.size w' x v) (E : Env) (n : Nat) : ∃ E', Ag n E E' ∧ (concC n x).1.den E' = v ∧ (concC n x).1.okn E' (n + (concC n x).2.length) ∧ NewOK E' n (concC n x).2 w w' := by
  cases x with
  | v x => exact ⟨E, Ag.refl _ _, h.1.symm, h.2, NewOK.nil⟩
  | g g =>
    obtain ⟨ad, cap, rfl, h1, h2⟩ := h
    refine ⟨E.set n ad (Gh.len g) cap, E.set_ag _ _ _ _, by simp [concC, SC.den, Env.set], by simp [concC, SC.okn], ?_⟩
    intro k b hk
    simp only [concC] at hk
    cases k with
    | succ k => cases hk
    | zero =>
      injection hk with hk
      subst hk
      refine ⟨g, rfl, ⟨by simp [Env.set], fun i hi => ?_⟩, fun a ha => h2 a (by simpa [Env.set] using ha)⟩
      obtain ⟨a, h3, h4⟩ := h1 i hi
      refine ⟨a, by simp [Env.set, h3], fun j c hc => ?_⟩
      obtain ⟨x, rfl, _⟩ := Gh.row_one g i c (List.mem_of_getElem? hc)
      exact h4 j x hc
theorem concCs_ok : ∀ {xs : List (AC γ)} {vs : List Value}, RdCs w.heap.size w' xs vs → ∀ (E : Env) (n : Nat), ∃ E', Ag n E E' ∧ (concCs n xs).1.map (SC.den E') = vs ∧ (∀ c ∈ (concCs n xs).1, c.okn E' (n + (concCs n xs).2.length)) ∧ NewOK E' n (concCs n xs).2 w w'
  | [], [], _, E, n => ⟨E, Ag.refl _ _, rfl, fun _ h => (by cases h), NewOK.nil⟩
  | x :: r, v :: s, h, E, n => by
    obtain ⟨E1, a1, d1, o1, n1⟩ := concC_ok h.1 E n
    obtain ⟨E2, a2, d2, o2, n2⟩ := concCs_ok h.2 E1 (n + (concC n x).2.length)
    refine ⟨E2, a1.trans (a2.mono (by omega)), ?_, ?_, ?_⟩
    · simp only [concCs, List.map_cons, d2]
      rw [SC.den_ag o1 a2, d1]
    · intro c hc
      simp only [concCs, List.mem_cons] at hc
      simp only [concCs, List.length_append]
      rcases hc with rfl | hc
      · exact o1.ag (by omega) a2
      · have := o2 c hc
        rwa [Nat.add_assoc] at this
    · exact (n1.ag a2 (Nat.le_refl _)).append n2
  | [], _ :: _, h, _, _ => h.elim
  | _ :: _, [], h, _, _ => h.elim
theorem concV_ok {x : AV γ} {v : Value} (hs : noS x = true) (h : RdV w.heap.size w' x v) (E : Env) (n : Nat) : ∃ E', Ag n E E' ∧ (concV n x).1.den E' = v ∧ (concV n x).1.okn E' (n + (concV n x).2.length) ∧ NewOK E' n (concV n x).2 w w' := by
  cases x with
  | c x => exact concC_ok h E n
  | a cs =>
    obtain ⟨vs, rfl, h⟩ := h
    obtain ⟨E', h1, h2, h3, h4⟩ := concCs_ok h E n
    exact ⟨E', h1, by simp only [concV, SV.den, h2], h3, h4⟩
  | s ty n cs => cases hs
theorem concVs_ok : ∀ {xs : List (AV γ)} {vs : List Value}, xs.all noS = true → RdVs w.heap.size w' xs vs → ∀ (E : Env) (n : Nat), ∃ E', Ag n E E' ∧ (concVs n xs).1.map (SV.den E') = vs ∧ (∀ c ∈ (concVs n xs).1, c.okn E' (n + (concVs n xs).2.length)) ∧ NewOK E' n (concVs n xs).2 w w'
  | [], [], _, _, E, n => ⟨E, Ag.refl _ _, rfl, fun _ h => (by cases h), NewOK.nil⟩
  | x :: r, v :: s, hs, h, E, n => by
    simp only [List.all_cons, Bool.and_eq_true] at hs
    obtain ⟨E1, a1, d1, o1, n1⟩ := concV_ok hs.1 h.1 E n
    obtain ⟨E2, a2, d2, o2, n2⟩ := concVs_ok hs.2 h.2 E1 (n + (concV n x).2.length)
    refine ⟨E2, a1.trans (a2.mono (by omega)), ?_, ?_, ?_⟩
    · simp only [concVs, List.map_cons, d2]
      rw [SV.den_ag o1 a2, d1]
    · intro c hc
      simp only [concVs, List.mem_cons] at hc
      simp only [concVs, List.length_append]
      rcases hc with rfl | hc
      · exact o1.ag (by omega) a2
      · have := o2 c hc
        rwa [Nat.add_assoc] at this
    · exact (n1.ag a2 (Nat.le_refl _)).append n2
  | [], _ :: _, _, h, _, _ => h.elim
  | _ :: _, [], _, h, _, _ => h.elim
theorem concT_ok {x : AT γ} {v : Value} (hs : noST x = true) (h : RdT w.heap.size w' x v) (E : Env) (n : Nat) : ∃ E', Ag n E E' ∧ (concT n x).1.den E' = v ∧ (concT n x).1.okn E' (n + (concT n x).2.length) ∧ NewOK E' n (concT n x).2 w w' := by
  cases x with
  | v x => exact concV_ok hs h E n
  | t xs =>
    obtain ⟨vs, rfl, h⟩ := h
    obtain ⟨E', h1, h2, h3, h4⟩ := concVs_ok hs h E n
    exact ⟨E', h1, by simp only [concT, ST.den, h2], h3, h4⟩
/-! ### Out of numbers -/
section
variable [GhO γ]
def absC (H : List (Nat × Blk γ)) : SC → Option (AC γ)
  | .v x => some (.v x)
  | .r id => match look H id with
    | some (.ext g) => some (.g g)
    | _ => none
  | .s id n => match look H id with
    | some (.own ty cs) | some (.ro ty cs) => match GhO.ofC ty n cs with
      | some g => some (.g g)
      | none => none
    | _ => none
  | _ => none
def absCs (H : List (Nat × Blk γ)) : List SC → Option (List (AC γ))
  | [] => some []
  | x :: r => match absC H x with
    | some y => match absCs H r with
      | some ys => some (y :: ys)
      | none => none
    | none => none
def absV (H : List (Nat × Blk γ)) : SV → Option (AV γ)
  | .c (.s id n) => match look H id with
    | some (.own ty cs) | some (.ro ty cs) => match (GhO.ofC ty n cs : Option γ) with
      | some g => some (.c (.g g))
      | none => match absCs H cs with
        | some l => some (.s ty n l)
        | none => none
    | _ => none
  | .c x => match absC H x with
    | some y => some (.c y)
    | none => none
  | .a cs => match absCs H cs with
    | some l => some (.a l)
    | none => none
def absVs (H : List (Nat × Blk γ)) : List SV → Option (List (AV γ))
  | [] => some []
  | x :: r => match absV H x with
    | some y => match absVs H r with
      | some ys => some (y :: ys)
      | none => none
    | none => none
theorem cell_at {g k : Nat} {arr : Array Value} {ty : TypeId} {fz : Nat × Nat} (h : w.heap[g]? = some (.cells arr ty fz)) : w.cell? ⟨g, k, none⟩ = arr[k]? := by
  simp [World.cell?, h]
theorem ghost_of_cells {E : Env} {ty : TypeId} {n : Nat} {cs : List SC} {g : γ} {b : Nat} (h : GhO.ofC ty n cs = some g) (hb : w.heap[b]? = some (.cells (cs.map (SC.den E)).toArray ty (0, 0))) : RdC (γ := γ) 0 w (.g g) (.slice (some ⟨b, 0, none⟩) n n) := by
  obtain ⟨h1, h2⟩ := GhO.ofC_ok _ _ _ _ h
  refine ⟨some ⟨b, 0, none⟩, n, by rw [h1], fun i hi => ⟨_, rfl, fun j c hc => ?_⟩, fun _ _ => Nat.zero_le _⟩
  rw [h2 i (by omega)] at hc
  rw [addr_add, Nat.zero_add, cell_at hb]
  have h3 : j < Gh.sz g := by
    have := (List.getElem?_eq_some_iff.1 hc).1
    simp at this
    omega
  rw [List.getElem?_take_of_lt h3, List.getElem?_drop] at hc
  simp [hc, SC.den]
variable {E : Env} {n B : Nat} {H : List (Nat × Blk γ)}
theorem still_known {id : Nat} {ty : TypeId} {cs : List SC} (hH : HR E n (stillH H) B w) (hl : look H id = some (.own ty cs) ∨ look H id = some (.ro ty cs)) :
    (∃ g, E.addr id = some ⟨g, 0, none⟩ ∧ w.heap[g]? = some (.cells (cs.map (SC.den E)).toArray ty (0, 0))) ∧ ∀ c ∈ cs, c.okn E n := by
  have hl' : look (stillH H) id = some (.ro ty cs) := by
    rw [look_still]
    rcases hl with hl | hl <;> rw [hl] <;> rfl
  exact ⟨hH.ro _ _ _ hl', fun c hc => hH.okc _ _ _ (.inr hl') c hc⟩
theorem absC_rd (hH : HR E n (stillH H) B w) {x : SC} {y : AC γ} (hx : x.okn E n) (h : absC H x = some y) : RdC 0 w y (x.den E) := by
  cases x with
  | v x =>
    injection h with h
    subst h
    exact ⟨rfl, hx⟩
  | p id o => cases h
  | q id a b c => cases h
  | s id k =>
    simp only [absC] at h
    have key : ∀ ty cs, (look H id = some (.own ty cs) ∨ look H id = some (.ro ty cs)) → (match (GhO.ofC ty k cs : Option γ) with
      | some g => some (AC.g g)
      | none => none) = some y → RdC 0 w y ((SC.s id k).den E) := by
      intro ty cs hl h
      split at h
      · rename_i g hg
        injection h with h
        subst h
        obtain ⟨⟨b, h1, h2⟩, _⟩ := still_known hH hl
        simp only [SC.den, h1]
        exact ghost_of_cells hg h2
      · cases h
    split at h
    · rename_i ty cs hl; exact key ty cs (.inl hl) h
    · rename_i ty cs hl; exact key ty cs (.inr hl) h
    · cases h
  | r id =>
    simp only [absC] at h
    split at h
    · rename_i g hl
      injection h with h
      subst h
      obtain ⟨h1, h2⟩ := hH.ext id g (by rw [look_still, hl]; rfl)
      refine ⟨E.addr id, E.cap id, by simp [SC.den, h1], fun i hi => ?_, fun _ _ => Nat.zero_le _⟩
      obtain ⟨a, h3, h4⟩ := h2 i hi
      exact ⟨a, h3, fun j c hc => by simpa [SC.den] using h4 j _ hc⟩
    · cases h
theorem absCs_rd (hH : HR E n (stillH H) B w) : ∀ {xs : List SC} {ys : List (AC γ)}, (∀ c ∈ xs, c.okn E n) → absCs H xs = some ys → RdCs 0 w ys (xs.map (SC.den E))
  | [], ys, _, h => by
    injection h with h
    subst h
    trivial
  | x :: r, ys, hx, h => by
    simp only [absCs] at h
    split at h
    · rename_i y hy
      split at h
      · rename_i ys' hys
        injection h with h
        subst h
        exact ⟨absC_rd hH (hx x (by simp)) hy, absCs_rd hH (fun c hc => hx c (by simp [hc])) hys⟩
      · cases h
    · cases h
theorem absV_rd (hH : HR E n (stillH H) B w) {x : SV} {y : AV γ} (hx : x.okn E n) (h : absV H x = some y) : RdV 0 w y (x.den E) := by
  have plain : ∀ z : SC, z.okn E n → (match absC H z with
    | some y => some (AV.c y)
    | none => none) = some y → RdV 0 w y ((SV.c z).den E) := by
    intro z hz h
    split at h
    · rename_i u hu
      injection h with h
      subst h
      exact absC_rd hH hz hu
    · cases h
  cases x with
  | c x =>
    cases x with
    | s id k =>
      simp only [absV] at h
      have key : ∀ ty cs, (look H id = some (.own ty cs) ∨ look H id = some (.ro ty cs)) → (match (GhO.ofC ty k cs : Option γ) with
        | some g => some (AV.c (AC.g g))
        | none => match absCs H cs with
          | some l => some (AV.s ty k l)
          | none => none) = some y → RdV 0 w y ((SV.c (SC.s id k)).den E) := by
        intro ty cs hl h
        obtain ⟨⟨b, h1, h2⟩, h3⟩ := still_known hH hl
        split at h
        · rename_i g hg
          injection h with h
          subst h
          simp only [SV.den, SC.den, h1]
          exact ghost_of_cells hg h2
        · split at h
          · rename_i l hl
            injection h with h
            subst h
            refine ⟨b, cs.map (SC.den E), by simp [SV.den, SC.den, h1], h2, absCs_rd hH h3 hl, Nat.zero_le _⟩
          · cases h
      split at h
      · rename_i ty cs hl; exact key ty cs (.inl hl) h
      · rename_i ty cs hl; exact key ty cs (.inr hl) h
      · cases h
    | v z => exact plain _ hx h
    | p a b => exact plain _ hx h
    | q a b c d => exact plain _ hx h
    | r id => exact plain _ hx h
  | a cs =>
    simp only [absV] at h
    split at h
    · rename_i l hl
      injection h with h
      subst h
      exact ⟨_, rfl, absCs_rd hH hx hl⟩
    · cases h
theorem absVs_rd (hH : HR E n (stillH H) B w) : ∀ {xs : List SV} {ys : List (AV γ)}, (∀ c ∈ xs, c.okn E n) → absVs H xs = some ys → RdVs 0 w ys (xs.map (SV.den E))
  | [], ys, _, h => by
    injection h with h
    subst h
    trivial
  | x :: r, ys, hx, h => by
    simp only [absVs] at h
    split at h
    · rename_i y hy
      split at h
      · rename_i ys' hys
        injection h with h
        subst h
        exact ⟨absV_rd hH (hx x (by simp)) hy, absVs_rd hH (fun c hc => hx c (by simp [hc])) hys⟩
      · cases h
    · cases h
/-- A contract without numbers, at a caller's. -/
theorem callOK_of_aok {P : Program} {f : FuncId} {args : List SV} {as : List (AV γ)} {r : AT γ} (h : AOK γ P f as r) (ha : absVs H args = some as) (hr : noST r = true) (b : Bool) : CallOK P f n H args ⟨b, (concT n r).1, (concT n r).2⟩ := by
  intro E w hH hargs
  have post : ∀ (e : Ending) (w' : World), (∃ v, e = .returned v ∧ RdT w.heap.size w' r v ∧ Below w.heap.size w w') →
      ∃ E', Ag n E E' ∧ e = .returned ((concT n r).1.den E') ∧ (concT n r).1.okn E' (n + (concT n r).2.length) ∧ Below w.heap.size w w' ∧ NewOK E' n (concT n r).2 w w' := by
    rintro e w' ⟨v, rfl, h1, h2⟩
    obtain ⟨E', h3, h4, h5, h6⟩ := concT_ok hr h1 E n
    exact ⟨E', h3, by rw [h4], h5, h2, h6⟩
  rcases h w _ (absVs_rd hH hargs ha) with ⟨h1, h2⟩ | ⟨v, h1, h2⟩
  · exact .inl ⟨h1, h2.mono post⟩
  · exact .inr ⟨v, h1, post _ _ h2⟩
abbrev ATab (γ : Type) := FuncId → List (AV γ) → Option (Bool × AT γ)
def ATabOK (γ : Type) [Gh γ] (P : Program) (T : ATab γ) : Prop := ∀ f args r, T f args = some (true, r) → AOK γ P f args r
def aCx (P : Program) (eqs : TypeId → Bool) (turns : Nat) (plans : List (Nat × Plan)) (T : ATab γ) (n0 : Nat) : Cx γ :=
  { P := P, eqs := eqs, calls := fun f n H a => match absVs H a with
      | some as => match T f as with
        | some (p, r) => match noST r with
          | true => concTk n r (fun _ res new => some ⟨p, res, new⟩)
          | false => none
        | none => none
      | none => none
    loops := fun _ => none, turns := turns, n0 := n0, plans := plans }
theorem aCx_calls {P : Program} {eqs : TypeId → Bool} {turns n0 : Nat} {plans : List (Nat × Plan)} {T : ATab γ} (h : ATabOK γ P T) : CallsOK (aCx P eqs turns plans T n0) := by
  intro f n H args r hr hp
  simp only [aCx] at hr
  split at hr
  · rename_i as has
    split at hr
    · rename_i p x hx
      split at hr
      · rename_i hs
        rw [concTk_eq] at hr
        injection hr with hr
        subst hr
        dsimp only at hp
        subst hp
        exact callOK_of_aok (h f as x hx) has hs _
      · cases hr
    · cases hr
  · cases hr
end
/-! ### A contract without numbers, from a text that was gone through -/
/-- The arguments under numbers of their own: rows from outside; known blocks. -/
def conaC (n : Nat) : AC γ → SC × List (Nat × Blk γ)
  | .v x => (.v x, [])
  | .g g => (.r n, [(n, .ext g)])
def conaCs (n : Nat) : List (AC γ) → List SC × List (Nat × Blk γ)
  | [] => ([], [])
  | x :: r => ((conaC n x).1 :: (conaCs (n + (conaC n x).2.length) r).1, (conaC n x).2 ++ (conaCs (n + (conaC n x).2.length) r).2)
def conaV (n : Nat) : AV γ → SV × List (Nat × Blk γ)
  | .c x => (.c (conaC n x).1, (conaC n x).2)
  | .a cs => (.a (conaCs n cs).1, (conaCs n cs).2)
  | .s ty k cs => (.c (.s (n + (conaCs n cs).2.length) k), (conaCs n cs).2 ++ [(n + (conaCs n cs).2.length, .ro ty (conaCs n cs).1)])
def conaVs (n : Nat) : List (AV γ) → List SV × List (Nat × Blk γ)
  | [] => ([], [])
  | x :: r => ((conaV n x).1 :: (conaVs (n + (conaV n x).2.length) r).1, (conaV n x).2 ++ (conaVs (n + (conaV n x).2.length) r).2)
/-- What is said of such a list of blocks: their numbers run on; they are as they are in the world. -/
structure AtH (E : Env) (n : Nat) (H : List (Nat × Blk γ)) (w : World) : Prop where
  num : ∀ k x, H[k]? = some x → x.1 = n + k
  blk : ∀ id b, (id, b) ∈ H → (∃ g, b = .ext g ∧ ExtAt E id g w) ∨ ∃ ty cs, b = .ro ty cs ∧ (∃ g, E.addr id = some ⟨g, 0, none⟩ ∧ w.heap[g]? = some (.cells (cs.map (SC.den E)).toArray ty (0, 0))) ∧ ∀ c ∈ cs, c.okn E (n + H.length)
theorem AtH.nil {E : Env} {n : Nat} : AtH (γ := γ) E n [] w := ⟨fun k x h => (by cases h), fun id b h => (by cases h)⟩
theorem AtH.append {E : Env} {n : Nat} {l r : List (Nat × Blk γ)} (h : AtH E n l w) (k : AtH E (n + l.length) r w) : AtH E n (l ++ r) w := by
  refine ⟨fun i x hi => ?_, fun id b hb => ?_⟩
  · by_cases hl : i < l.length
    · rw [List.getElem?_append_left hl] at hi
      exact h.num i x hi
    · rw [List.getElem?_append_right (by omega)] at hi
      have := k.num _ _ hi
      omega
  · rcases List.mem_append.1 hb with hb | hb
    · rcases h.blk id b hb with h1 | ⟨ty, cs, h1, h2, h3⟩
      · exact .inl h1
      · refine .inr ⟨ty, cs, h1, h2, fun c hc => (h3 c hc).ag (by simp) (Ag.refl _ _)⟩
    · rcases k.blk id b hb with h1 | ⟨ty, cs, h1, h2, h3⟩
      · exact .inl h1
      · refine .inr ⟨ty, cs, h1, h2, fun c hc => by have := h3 c hc; rwa [Nat.add_assoc, ← List.length_append] at this⟩
theorem AtH.ag {E E' : Env} {n m : Nat} {l : List (Nat × Blk γ)} (h : AtH E n l w) (hA : Ag m E E') (hm : n + l.length ≤ m) : AtH E' n l w := by
  refine ⟨h.num, fun id b hb => ?_⟩
  obtain ⟨k, hk, hk'⟩ := List.getElem_of_mem hb
  have hid := h.num k (id, b) (by rw [← hk']; exact List.getElem?_eq_getElem hk)
  dsimp only at hid
  rcases h.blk id b hb with ⟨g, h1, h2⟩ | ⟨ty, cs, h1, ⟨g, h2, h3⟩, h4⟩
  · exact .inl ⟨g, h1, h2.ag hA (by omega)⟩
  · refine .inr ⟨ty, cs, h1, ⟨g, by rw [hA.addr _ (by omega)]; exact h2, ?_⟩, fun c hc => (h4 c hc).ag (Nat.le_refl _) (hA.mono hm)⟩
    rw [h3]
    congr 3
    exact (List.map_congr_left (fun c hc => ((h4 c hc).lt (hA.mono hm)))).symm
theorem conaC_ok {x : AC γ} {v : Value} (h : RdC base w x v) (E : Env) (n : Nat) : ∃ E', Ag n E E' ∧ (conaC n x).1.den E' = v ∧ (conaC n x).1.okn E' (n + (conaC n x).2.length) ∧ AtH E' n (conaC n x).2 w := by
  cases x with
  | v x => exact ⟨E, Ag.refl _ _, h.1.symm, h.2, AtH.nil⟩
  | g g =>
    obtain ⟨ad, cap, rfl, h1, _⟩ := h
    refine ⟨E.set n ad (Gh.len g) cap, E.set_ag _ _ _ _, by simp [conaC, SC.den, Env.set], by simp [conaC, SC.okn], ⟨fun k x hk => ?_, fun id b hb => .inl ?_⟩⟩
    · simp only [conaC] at hk
      cases k with
      | succ k => cases hk
      | zero => injection hk with hk; subst hk; rfl
    · simp only [conaC, List.mem_singleton, Prod.mk.injEq] at hb
      obtain ⟨rfl, rfl⟩ := hb
      refine ⟨g, rfl, by simp [Env.set], fun i hi => ?_⟩
      obtain ⟨a, h3, h4⟩ := h1 i hi
      refine ⟨a, by simp [Env.set, h3], fun j c hc => ?_⟩
      obtain ⟨x, rfl, _⟩ := Gh.row_one g i c (List.mem_of_getElem? hc)
      exact h4 j x hc
theorem conaCs_ok : ∀ {xs : List (AC γ)} {vs : List Value}, RdCs base w xs vs → ∀ (E : Env) (n : Nat), ∃ E', Ag n E E' ∧ (conaCs n xs).1.map (SC.den E') = vs ∧ (∀ c ∈ (conaCs n xs).1, c.okn E' (n + (conaCs n xs).2.length)) ∧ AtH E' n (conaCs n xs).2 w
  | [], [], _, E, n => ⟨E, Ag.refl _ _, rfl, fun _ h => (by cases h), AtH.nil⟩
  | x :: r, v :: s, h, E, n => by
    obtain ⟨E1, a1, d1, o1, n1⟩ := conaC_ok h.1 E n
    obtain ⟨E2, a2, d2, o2, n2⟩ := conaCs_ok h.2 E1 (n + (conaC n x).2.length)
    refine ⟨E2, a1.trans (a2.mono (by omega)), ?_, ?_, ?_⟩
    · simp only [conaCs, List.map_cons, d2]
      rw [SC.den_ag o1 a2, d1]
    · intro c hc
      simp only [conaCs, List.mem_cons] at hc
      simp only [conaCs, List.length_append]
      rcases hc with rfl | hc
      · exact o1.ag (by omega) a2
      · have := o2 c hc
        rwa [Nat.add_assoc] at this
    · exact (n1.ag a2 (Nat.le_refl _)).append n2
  | [], _ :: _, h, _, _ => h.elim
  | _ :: _, [], h, _, _ => h.elim
theorem conaV_ok {x : AV γ} {v : Value} (h : RdV base w x v) (E : Env) (n : Nat) : ∃ E', Ag n E E' ∧ (conaV n x).1.den E' = v ∧ (conaV n x).1.okn E' (n + (conaV n x).2.length) ∧ AtH E' n (conaV n x).2 w := by
  cases x with
  | c x => exact conaC_ok h E n
  | a cs =>
    obtain ⟨vs, rfl, h⟩ := h
    obtain ⟨E', h1, h2, h3, h4⟩ := conaCs_ok h E n
    exact ⟨E', h1, by simp only [conaV, SV.den, h2], h3, h4⟩
  | s ty k cs =>
    obtain ⟨g, vs, rfl, hg, h, _⟩ := h
    obtain ⟨E1, h1, h2, h3, h4⟩ := conaCs_ok h E n
    have hA := E1.set_ag (n + (conaCs n cs).2.length) (some ⟨g, 0, none⟩) k k
    refine ⟨E1.set (n + (conaCs n cs).2.length) (some ⟨g, 0, none⟩) k k, h1.trans (hA.mono (by omega)), by simp [conaV, SV.den, SC.den, Env.set], ?_, ?_⟩
    · simp only [conaV, SV.okn, SC.okn, List.length_append, List.length_cons, List.length_nil]
      exact ⟨by omega, g, by simp [Env.set]⟩
    · refine (h4.ag hA (Nat.le_refl _)).append ⟨fun i x hi => ?_, fun id b hb => .inr ?_⟩
      · cases i with
        | succ i => cases hi
        | zero => injection hi with hi; subst hi; rfl
      · simp only [List.mem_singleton, Prod.mk.injEq] at hb
        obtain ⟨rfl, rfl⟩ := hb
        refine ⟨ty, _, rfl, ⟨g, by simp [Env.set], ?_⟩, fun c hc => ?_⟩
        · rw [hg, ← h2, map_den_ag h3 hA]
        · exact (h3 c hc).ag (by simp) hA
theorem conaVs_ok : ∀ {xs : List (AV γ)} {vs : List Value}, RdVs base w xs vs → ∀ (E : Env) (n : Nat), ∃ E', Ag n E E' ∧ (conaVs n xs).1.map (SV.den E') = vs ∧ (∀ c ∈ (conaVs n xs).1, c.okn E' (n + (conaVs n xs).2.length)) ∧ AtH E' n (conaVs n xs).2 w
  | [], [], _, E, n => ⟨E, Ag.refl _ _, rfl, fun _ h => (by cases h), AtH.nil⟩
  | x :: r, v :: s, h, E, n => by
    obtain ⟨E1, a1, d1, o1, n1⟩ := conaV_ok h.1 E n
    obtain ⟨E2, a2, d2, o2, n2⟩ := conaVs_ok h.2 E1 (n + (conaV n x).2.length)
    refine ⟨E2, a1.trans (a2.mono (by omega)), ?_, ?_, ?_⟩
    · simp only [conaVs, List.map_cons, d2]
      rw [SV.den_ag o1 a2, d1]
    · intro c hc
      simp only [conaVs, List.mem_cons] at hc
      simp only [conaVs, List.length_append]
      rcases hc with rfl | hc
      · exact o1.ag (by omega) a2
      · have := o2 c hc
        rwa [Nat.add_assoc] at this
    · exact (n1.ag a2 (Nat.le_refl _)).append n2
  | [], _ :: _, h, _, _ => h.elim
  | _ :: _, [], h, _, _ => h.elim
theorem look_num {α : Type} : ∀ {l : List (Nat × α)} {id : Nat} {b : α}, look l id = some b → (id, b) ∈ l
  | [], id, b, h => by cases h
  | (e, x) :: r, id, b, h => by
    rw [look_cons] at h
    split at h
    · rename_i he
      injection h with h
      subst h; subst he
      simp
    · simp [look_num h]
/-- Such blocks are what a call begins with. -/
theorem AtH.hr {E : Env} {H : List (Nat × Blk γ)} (h : AtH E 0 H w) (B : Nat) : HR E H.length H B w := by
  have hb : ∀ {id b}, look H id = some b → id < H.length ∧ ((∃ g, b = .ext g ∧ ExtAt E id g w) ∨ ∃ ty cs, b = .ro ty cs ∧ (∃ g, E.addr id = some ⟨g, 0, none⟩ ∧ w.heap[g]? = some (.cells (cs.map (SC.den E)).toArray ty (0, 0))) ∧ ∀ c ∈ cs, c.okn E H.length) := by
    intro id b hl
    have hm := look_num hl
    obtain ⟨k, hk, hk'⟩ := List.getElem_of_mem hm
    have := h.num k (id, b) (by rw [← hk']; exact List.getElem?_eq_getElem hk)
    dsimp only at this
    refine ⟨by omega, ?_⟩
    have := h.blk id b hm
    rwa [Nat.zero_add] at this
  have noown : ∀ {id ty cs}, look H id ≠ some (.own ty cs) := by
    intro id ty cs hl
    rcases (hb hl).2 with ⟨g, h1, _⟩ | ⟨_, _, h1, _⟩ <;> cases h1
  refine ⟨fun id ty cs hl => absurd hl noown, ?_, ?_, fun i j ty cs b x y _ hi => absurd hi noown, fun id b hl => (hb hl).1, ?_⟩
  · intro id ty cs hl
    rcases (hb hl).2 with ⟨g, h1, _⟩ | ⟨ty', cs', h1, h2, _⟩
    · cases h1
    · injection h1 with e1 e2
      subst e1; subst e2
      exact h2
  · intro id g hl
    rcases (hb hl).2 with ⟨g', h1, h2⟩ | ⟨ty', cs', h1, _⟩
    · injection h1 with e1
      subst e1
      exact h2
    · cases h1
  · intro id ty cs hl c hc
    rcases hl with hl | hl
    · exact absurd hl noown
    · rcases (hb hl).2 with ⟨g, h1, _⟩ | ⟨ty', cs', h1, _, h2⟩
      · cases h1
      · injection h1 with e1 e2
        subst e1; subst e2
        exact h2 c hc
/-! the result, read again -/
theorem rdUnC {E : Env} {n : Nat} : ∀ {x : AC γ}, NewOK E n (concC n x).2 w w' → (concC n x).1.okn E (n + (concC n x).2.length) → RdC w.heap.size w' x ((concC n x).1.den E)
  | .v x, _, ho => ⟨rfl, ho⟩
  | .g g, h, _ => by
    obtain ⟨g', h1, h2, h3⟩ := h 0 _ rfl
    injection h1 with h1
    subst h1
    rw [Nat.add_zero] at h2 h3
    refine ⟨E.addr n, E.cap n, by simp [concC, SC.den, h2.1], fun i hi => ?_, h3⟩
    obtain ⟨a, h4, h5⟩ := h2.2 i hi
    exact ⟨a, h4, fun j c hc => by simpa [SC.den] using h5 j _ hc⟩
theorem NewOK.left {E : Env} {n : Nat} {l r : List (Blk γ)} (h : NewOK E n (l ++ r) w w') : NewOK E n l w w' := by
  intro k b hk
  have hk' := (List.getElem?_eq_some_iff.1 hk).1
  exact h k b (by rw [List.getElem?_append_left hk']; exact hk)
theorem NewOK.right {E : Env} {n : Nat} {l r : List (Blk γ)} (h : NewOK E n (l ++ r) w w') : NewOK E (n + l.length) r w w' := by
  intro k b hk
  have := h (l.length + k) b (by rw [List.getElem?_append_right (by omega), show l.length + k - l.length = k from by omega]; exact hk)
  rwa [← Nat.add_assoc] at this
theorem SC.okn_one {E : Env} {n m : Nat} : ∀ {x : AC γ}, (concC n x).1.okn E m → (concC n x).1.okn E (n + (concC n x).2.length)
  | .v x, h => h
  | .g g, _ => by simp [concC, SC.okn]
theorem rdUnCs {E : Env} : ∀ {n m : Nat} {xs : List (AC γ)}, NewOK E n (concCs n xs).2 w w' → (∀ c ∈ (concCs n xs).1, c.okn E m) → RdCs w.heap.size w' xs ((concCs n xs).1.map (SC.den E))
  | n, m, [], _, _ => trivial
  | n, m, x :: r, h, ho => ⟨rdUnC (NewOK.left h) (SC.okn_one (ho _ (by simp [concCs]))), rdUnCs (NewOK.right h) (fun c hc => ho c (by simp [concCs, hc]))⟩
theorem rdUnV {E : Env} {n m : Nat} {x : AV γ} (hs : noS x = true) (h : NewOK E n (concV n x).2 w w') (ho : (concV n x).1.okn E m) : RdV w.heap.size w' x ((concV n x).1.den E) := by
  cases x with
  | c x => exact rdUnC h (SC.okn_one ho)
  | a cs => exact ⟨_, rfl, rdUnCs h ho⟩
  | s _ _ _ => cases hs
theorem rdUnVs {E : Env} : ∀ {n m : Nat} {xs : List (AV γ)}, xs.all noS = true → NewOK E n (concVs n xs).2 w w' → (∀ c ∈ (concVs n xs).1, c.okn E m) → RdVs w.heap.size w' xs ((concVs n xs).1.map (SV.den E))
  | n, m, [], _, _, _ => trivial
  | n, m, x :: r, hs, h, ho => by
    simp only [List.all_cons, Bool.and_eq_true] at hs
    exact ⟨rdUnV hs.1 (NewOK.left h) (ho _ (by simp [concVs])), rdUnVs hs.2 (NewOK.right h) (fun c hc => ho c (by simp [concVs, hc]))⟩
theorem rdUnT {E : Env} {n m : Nat} {x : AT γ} (hs : noST x = true) (h : NewOK E n (concT n x).2 w w') (ho : (concT n x).1.okn E m) : RdT w.heap.size w' x ((concT n x).1.den E) := by
  cases x with
  | v x => exact rdUnV hs h ho
  | t xs => exact ⟨_, rfl, rdUnVs hs h ho⟩
theorem stillH_same : ∀ {H : List (Nat × Blk γ)}, (∀ x ∈ H, x.2.still = x.2) → stillH H = H
  | [], _ => rfl
  | (k, b) :: r, h => by
    have h1 : b.still = b := h (k, b) (by simp)
    have h2 := stillH_same (H := r) (fun x hx => h x (by simp [hx]))
    simp only [stillH, List.map_cons, h1]
    congr 1
theorem aok_of_callOK {P : Program} {f : FuncId} {args : List (AV γ)} {r : AT γ} (hr : noST r = true) (h : CallOK P f (conaVs 0 args).2.length (conaVs 0 args).2 (conaVs 0 args).1 ⟨true, (concT (conaVs 0 args).2.length r).1, (concT (conaVs 0 args).2.length r).2⟩) : AOK γ P f args r := by
  intro w vs hvs
  obtain ⟨E, hA, hd, ho, hH⟩ := conaVs_ok hvs ⟨fun _ => none, fun _ => 0, fun _ => 0⟩ 0
  rw [Nat.zero_add] at ho
  have hst : stillH (conaVs 0 args).2 = (conaVs 0 args).2 := stillH_same fun x hx => by
    rcases hH.blk x.1 x.2 hx with ⟨g, h1, _⟩ | ⟨ty, cs, h1, _⟩ <;> rw [h1] <;> rfl
  have post : ∀ (e : Ending) (w' : World), (∃ E', Ag (conaVs 0 args).2.length E E' ∧ e = .returned ((concT (conaVs 0 args).2.length r).1.den E') ∧ (concT (conaVs 0 args).2.length r).1.okn E' ((conaVs 0 args).2.length + (concT (conaVs 0 args).2.length r).2.length) ∧ Below w.heap.size w w' ∧ NewOK E' (conaVs 0 args).2.length (concT (conaVs 0 args).2.length r).2 w w') →
      ∃ v, e = .returned v ∧ RdT w.heap.size w' r v ∧ Below w.heap.size w w' := by
    rintro e w' ⟨E', _, rfl, h1, h2, h3⟩
    exact ⟨_, rfl, rdUnT hr h3 h1, h2⟩
  have := h E w (by rw [hst]; exact hH.hr _) ho
  rw [hd] at this
  rcases this with ⟨h1, h2⟩ | ⟨v, h1, h2⟩
  · exact .inl ⟨h1, h2.mono post⟩
  · exact .inr ⟨v, h1, post _ _ h2⟩
end
end Go.Sx
