/- A store at a key that is there, in a round over the same map. -/
import Derived.Test.YtcjiokiafdagdaaB4
namespace Go.Maps
open Go.ChangeShapes Go.WideShapes Go.MapKept
open Go.ChangeMaps (notKey putKey delKey mem_insert_iff eq_of_perm_sorted rising_of_pairwise filter_eq_eraseIdx hit_apart setBlock map_eraseIdx set_perm modify_eq_set eraseDups_of_nodup heap_setBlock_same heap_setBlock_other)
open Go.WideElems (Fit rd rg pl rd_key rd_val rg_of rd_mk rd_stay elemAt other_key trod_map_eq mapM_reads)
set_option linter.unusedVariables false
set_option linter.unusedSimpArgs false
variable {H : Type} {P : Program} {k : TypeId} {R : Value → Option (DataW H × List MemPlace)} {w : World} {b r n : Nat} {D : DataW H} {left : Lit → Bool} {cnt : Nat}
theorem ranges_store {t e : TypeId} (h : w.ranges P k R b r n D left cnt) (K : Keyed P k) (ht : P.underlying t = some (.map k e)) {key val : Value} {kl : Lit} {yv : DataW H × List MemPlace} (hkey : keyOf P k key = some kl) (hv : R val = some yv) (hin : has D kl = true) :
    ∃ w', (Instr.mapUpdate t (.map (some b)) key val).run P w = .ok () w' ∧ w'.ranges P k R b r n (D.put kl yv.1) left cnt ∧ w.mapTurned w' b := by
  have hne := h.ne
  obtain ⟨es, clock, since, seen, c0, hb, F, hs, rfl, hr, hold, rfl, hl1, hl2, hsc, hsk⟩ := h
  rcases K.find w hkey es.toList F.keys with ⟨h1, h2⟩ | ⟨j, e0, h1, h2, h3⟩
  · exfalso
    rw [has_eq, List.any_eq_true] at hin
    obtain ⟨p, hp, hpk⟩ := hin
    have hp' := mem_sorted.1 hp
    obtain ⟨x, hx, rfl⟩ := List.mem_map.1 hp'
    obtain ⟨y, hy⟩ := F.reads x hx
    have e1 := WideAt.sameKey_eq hpk
    rw [rg_of hy] at e1
    exact h2 x hx (K.inj (e1 ▸ rd_key hy) hkey)
  · have hj : es[j]? = some e0 := by simpa using h2
    have hjl : j < es.toList.length := (List.getElem?_eq_some_iff.1 h2).1
    have hkeyf : ∀ e', es[j]? = some e' → ({ e' with key := key, val := val } : MapEntry).key = e'.key := fun e' he' => by rw [hj] at he'; cases he'; exact h3.symm
    have hlist : (es.modify j (fun e' => { e' with key := key, val := val })).toList = es.toList.set j { e0 with key := key, val := val } := by rw [Array.toList_modify, modify_eq_set _ _ _ _ h2]
    have who : ∀ x ∈ es.toList.set j { e0 with key := key, val := val }, x = { e0 with key := key, val := val } ∨ (x ∈ es.toList ∧ x.key ≠ key) := by
      intro x hx
      obtain ⟨i, hi, ex⟩ := List.getElem_of_mem hx
      rw [List.getElem_set] at ex
      split at ex
      · exact Or.inl ex.symm
      · rename_i hne
        have hi' : i < es.toList.length := by simpa using hi
        refine Or.inr ⟨ex ▸ List.getElem_mem hi', ?_⟩
        rw [← h3]
        exact other_key F h2 (by rw [List.getElem?_eq_getElem hi', ex]) (fun e1 => hne e1.symm)
    have hmem0 : e0 ∈ es.toList := List.mem_of_getElem? h2
    have hnew : ({ e0 with key := key, val := val } : MapEntry) ∈ es.toList.set j { e0 with key := key, val := val } := List.mem_iff_getElem.2 ⟨j, by simpa using hjl, by simp⟩
    have hrgn : rg P k R ({ e0 with key := key, val := val } : MapEntry) = (kl, yv.1) := rg_of (rd_mk hkey hv)
    have hrg0 : (rg P k R e0).1 = kl := by
      obtain ⟨y, hy⟩ := F.reads e0 hmem0
      have := rd_key hy
      rw [h3, hkey] at this
      rw [rg_of hy]
      exact (Option.some.inj this).symm
    have F' : Fit P k R (es.modify j (fun e' => { e' with key := key, val := val })) clock := ⟨by simpa using F.size, stamped_modify F.stamped _ _ (fun _ _ => rfl) (fun e' _ he' => hkeyf e' he'), fun x hx => by
      rw [hlist] at hx
      rcases who x hx with rfl | ⟨hx', hne⟩
      · exact ⟨_, rd_mk hkey hv⟩
      · exact F.reads x hx'⟩
    refine ⟨setBlock w b (.map (es.modify j (fun e' => { e' with key := key, val := val })) clock), ?_, ⟨es.modify j (fun e' => { e' with key := key, val := val }), clock, since, seen, c0, heap_setBlock_same hb _, F', by simpa using hs, ?_, (heap_setBlock_other hb _ hne).trans hr, fun x hx => ?_, ?_, fun x hx => ?_, fun kl0 hkl0 => ?_, hsc, hsk⟩, ⟨es, clock, _, clock, hb, rfl⟩⟩
    · simp [Instr.mapUpdate, run_underlying ht, MapKept.run_getObj_map hb, K.check w false hkey, h1, hj, h3, K.stays w hkey, MapKept.run_setObj_map _ hb, Result.andThen, setBlock]
    · rw [DataW.put_eq]
      congr 1
      refine (sorted_put K.one ⟨key, hkey⟩ (fit_keys F) (fit_apart K F) ?_).symm
      rw [filter_one K F hkey h2 h3, hlist, List.map_set, hrgn]
      exact set_perm _ _ (by simpa using hjl) _
    · rw [hlist] at hx
      rcases who x hx with rfl | ⟨hx', _⟩
      · exact hold e0 hmem0
      · exact hold x hx'
    · have e1 : ∀ a : Array MapEntry, (leftOf a seen).size = ((a.toList.map (·.born)).filter fun z => !seen.contains z).length := fun a => by
        rw [List.filter_map, List.length_map, ← Array.length_toList]
        unfold leftOf
        rw [Array.toList_filter]
        rfl
      rw [e1, e1, hlist, List.map_set]
      congr 2
      have : (es.toList.map (·.born))[j]? = some e0.born := by simp [h2]
      apply List.ext_getElem?
      intro i
      rw [List.getElem?_set]
      split
      · rename_i hij
        subst hij
        rw [if_pos (by simpa using hjl)]
        exact this.symm
      · rfl
    · rw [hlist] at hx
      rcases who x hx with rfl | ⟨hx', _⟩
      · rw [hrgn, ← hrg0]
        exact hl1 e0 hmem0
      · exact hl1 x hx'
    · obtain ⟨x, hx, rfl⟩ := hl2 kl0 hkl0
      by_cases hxk : x.key = key
      · refine ⟨_, by rw [hlist]; exact hnew, ?_⟩
        rw [hrgn]
        obtain ⟨y, hy⟩ := F.reads x hx
        have := rd_key hy
        rw [hxk, hkey] at this
        rw [rg_of hy]
        exact Option.some.inj this
      · refine ⟨x, ?_, rfl⟩
        rw [hlist]
        obtain ⟨i, hi⟩ := List.getElem?_of_mem hx
        have hij : i ≠ j := fun e1 => hxk (by rw [e1, h2] at hi; cases hi; exact h3)
        exact List.mem_of_getElem? (by rw [List.getElem?_set_ne (fun e1 => hij e1.symm)]; exact hi)
end Go.Maps
