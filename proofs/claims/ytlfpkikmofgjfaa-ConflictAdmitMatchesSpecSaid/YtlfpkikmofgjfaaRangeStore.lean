/- A store at a key that is there, in a round of a loop over a map; and such loops over a map from int to int. Over whatever program. -/
import Derived.Maps.RangeWalk
import Derived.Test.YtlfpkikmofgjfaaIntMaps
namespace Go.Proofs.Ytlfpkikmofgjfaa
open Go Go.ChangeMaps Go.MapKept Go.WideShapes Go.RowKit
open Go.WideElems (Fit rd rg pl rd_key rd_val rg_of other_key rd_mk)
open Go.Maps (Keyed)

section
variable {H : Type} {P : Program} {w : World} {k : TypeId} {R : Value → Option (DataW H × List MemPlace)} {b r n : Nat} {D : DataW H} {left : Lit → Bool} {cnt : Nat}
theorem leftOf_size (es : Array MapEntry) (seen : Array Nat) : (leftOf es seen).size = ((es.toList.map (·.born)).filter fun x => !seen.contains x).length := by
  unfold leftOf
  rw [← Array.length_toList, Array.toList_filter, List.filter_map, List.length_map]
  rfl
theorem ranges_store {t e : TypeId} (h : w.ranges P k R b r n D left cnt) (K : Keyed P k) (ht : P.underlying t = some (.map k e)) {key val : Value} {kl : Lit} {d : DataW H} {ps : List MemPlace} (hkey : keyOf P k key = some kl) (hv : R val = some (d, ps)) (hn : n < maxLen)
    (hin : Maps.has D kl = true) :
    ∃ w', (Instr.mapUpdate t (.map (some b)) key val).run P w = .ok () w' ∧ w'.ranges P k R b r n (D.put kl d) left cnt ∧ w.mapTurned w' b := by
  have hne := h.ne
  obtain ⟨es, clock, since, seen, c0, hb, F, hs, rfl, hr, hold, hcnt, hl1, hl2, hsc, hsk⟩ := h
  obtain ⟨es', clock', hrun, F', hput, _, _, hwho⟩ := Maps.fit_store (R' := R) K ht hb F (Nat.lt_of_le_of_lt hs hn) (fun _ _ _ _ hz => hz) hkey hv
  have other : ∀ x ∈ es.toList, x.key ≠ key → (rg P k R x).1.sameKey kl = false := fun x hx hxk => by
    obtain ⟨y, hy⟩ := F.reads x hx
    refine Maps.sameKey_ne (fun e1 => hxk ?_)
    rw [rg_of hy] at e1
    exact K.inj (e1 ▸ rd_key hy) hkey
  rcases K.find w hkey es.toList F.keys with ⟨h1, h2⟩ | ⟨j, e0, h1, h2, h3⟩
  · exfalso
    rw [Maps.has_eq, List.any_eq_true] at hin
    obtain ⟨p, hp, hpk⟩ := hin
    rw [mem_sorted] at hp
    obtain ⟨x, hx, rfl⟩ := List.mem_map.1 hp
    rw [other x hx (h2 x hx)] at hpk
    cases hpk
  · have hj : es[j]? = some e0 := by simpa using h2
    have hjl : j < es.toList.length := (List.getElem?_eq_some_iff.1 h2).1
    have hrun2 : (Instr.mapUpdate t (.map (some b)) key val).run P w = .ok () (setBlock w b (.map (es.modify j (fun e' => { e' with key := key, val := val })) clock)) := by
      simp [Instr.mapUpdate, run_underlying ht, MapKept.run_getObj_map hb, K.check w false hkey, h1, hj, h3, K.stays w hkey, MapKept.run_setObj_map _ hb, Result.andThen, setBlock]
    have hsame : setBlock w b (.map es' clock') = setBlock w b (.map (es.modify j (fun e' => { e' with key := key, val := val })) clock) := by
      have := hrun.symm.trans hrun2
      injection this
    have hblk := (heap_setBlock_same hb (.map es' clock')).symm.trans ((congrArg (fun x : World => x.heap[b]?) hsame).trans (heap_setBlock_same hb _))
    have hes : es' = es.modify j (fun e' => { e' with key := key, val := val }) ∧ clock' = clock := by
      have := Option.some.inj hblk
      injection this with a1 a2
      exact ⟨a1, a2⟩
    obtain ⟨he1, he2⟩ := hes
    have hlist : es'.toList = es.toList.set j { e0 with key := key, val := val } := by
      rw [he1, Array.toList_modify]
      apply List.ext_getElem?
      intro i
      rw [List.getElem?_modify, List.getElem?_set]
      by_cases e : j = i
      · subst e
        have hjs : j < es.size := by simpa using hjl
        have he : es[j] = e0 := by rw [Array.getElem?_eq_getElem hjs] at hj; exact Option.some.inj hj
        simp [hjs, he]
      · simp [e]
    have hborn : es'.toList.map (·.born) = es.toList.map (·.born) := by
      rw [hlist, List.map_set]
      apply List.ext_getElem?
      intro i
      rw [List.getElem?_set]
      by_cases e : j = i
      · subst e
        have hjs : j < es.size := by simpa using hjl
        have he : es[j] = e0 := by rw [Array.getElem?_eq_getElem hjs] at hj; exact Option.some.inj hj
        simp [hjs, he]
      · simp [e]
    have who : ∀ x ∈ es'.toList, (x ∈ es.toList ∧ x.key ≠ key) ∨ x = { e0 with key := key, val := val } := by
      intro x hx
      rw [hlist] at hx
      obtain ⟨i, hi, ex⟩ := List.getElem_of_mem hx
      rw [List.getElem_set] at ex
      split at ex
      · exact .inr ex.symm
      · rename_i hne'
        have hi' : i < es.toList.length := by simpa using hi
        refine .inl ⟨ex ▸ List.getElem_mem hi', ?_⟩
        rw [← h3]
        exact other_key F h2 (by rw [List.getElem?_eq_getElem hi', ex]) (fun e1 => hne' e1.symm)
    have hmem0 : e0 ∈ es.toList := List.mem_of_getElem? h2
    have hmemN : ({ e0 with key := key, val := val } : MapEntry) ∈ es'.toList := by
      rw [hlist]
      exact List.mem_iff_getElem.2 ⟨j, by simpa using hjl, by simp⟩
    have hk0 : (rg P k R e0).1 = kl := by
      obtain ⟨y, hy⟩ := F.reads e0 hmem0
      rw [rg_of hy]
      have m1 := rd_key hy
      rw [h3, hkey] at m1
      exact (Option.some.inj m1).symm
    have hkN : (rg P k R ({ e0 with key := key, val := val } : MapEntry)).1 = kl := by
      obtain ⟨y, hy⟩ := F'.reads _ hmemN
      rw [rg_of hy]
      have m1 := rd_key hy
      exact (Option.some.inj (hkey.symm.trans m1)).symm
    refine ⟨_, hrun, ⟨es', clock', since, seen, c0, heap_setBlock_same hb _, F', ?_, by rw [DataW.put_eq, hput], (heap_setBlock_other hb _ hne).trans hr, fun x hx => ?_, by rw [← hcnt, leftOf_size, leftOf_size, hborn], fun x hx => ?_, fun kl' hkl' => ?_, hsc, by rw [he2]; exact hsk⟩, ⟨es, clock, es', clock', hb, rfl⟩⟩
    · rw [he1]; simpa using hs
    · rcases who x hx with h | rfl
      · exact hold x h.1
      · exact hold e0 hmem0
    · rcases who x hx with h | rfl
      · exact hl1 x h.1
      · rw [hkN, ← hk0]
        exact hl1 e0 hmem0
    · obtain ⟨x, hx, e1⟩ := hl2 kl' hkl'
      by_cases hxk : x.key = key
      · refine ⟨_, hmemN, ?_⟩
        rw [hkN, ← e1]
        obtain ⟨y, hy⟩ := F.reads x hx
        rw [rg_of hy]
        have m1 := rd_key hy
        rw [hxk, hkey] at m1
        exact Option.some.inj m1
      · refine ⟨x, ?_, e1⟩
        obtain ⟨i, hi⟩ := List.getElem?_of_mem hx
        have hne' : j ≠ i := by
          rintro rfl
          rw [h2] at hi
          cases hi
          exact hxk h3
        rw [hlist]
        exact List.mem_of_getElem? (i := i) (by rw [List.getElem?_set, if_neg hne']; exact hi)
end
end Go.Proofs.Ytlfpkikmofgjfaa
