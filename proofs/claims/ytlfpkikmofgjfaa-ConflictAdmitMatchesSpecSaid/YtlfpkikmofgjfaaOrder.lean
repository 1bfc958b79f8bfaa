/- A valid history without a dangerous structure has a serial order; the order that is found has every edge forward. Plain mathematics. -/
import Derived.Test.YtlfpkikmofgjfaaHist
namespace Go.Proofs.Ytlfpkikmofgjfaa

theorem nodup_length_le : ∀ (l1 l2 : List Nat), l1.Nodup → (∀ x, x ∈ l1 → x ∈ l2) → l1.length ≤ l2.length
  | [], _, _, _ => Nat.zero_le _
  | a :: l1, l2, hn, hs => by
    rw [List.nodup_cons] at hn
    have ha := hs a List.mem_cons_self
    have := nodup_length_le l1 (l2.erase a) hn.2 (fun x hx => by
      rw [List.mem_erase_of_ne]
      · exact hs x (List.mem_cons_of_mem _ hx)
      · rintro rfl; exact hn.1 hx)
    rw [List.length_erase_of_mem ha] at this
    have hp : 0 < l2.length := List.length_pos_of_mem ha
    simp
    omega
def dones (h : List Acc) : List Nat := (List.range h.length).filter fun i => (tx h i).done
theorem dones_length (h : List Acc) : (dones h).length = committed h := by simp [dones, committed, List.countP_eq_length_filter]
theorem mem_dones {h : List Acc} {i : Nat} : i ∈ dones h ↔ (tx h i).done = true := by
  simp only [dones, List.mem_filter, List.mem_range]
  exact ⟨fun k => k.2, fun k => ⟨tx_lt k, k⟩⟩
theorem dones_nodup (h : List Acc) : (dones h).Nodup := List.nodup_range.filter _
/-- Different committed transactions, each behind its predecessors. -/
structure Taken (h : List Acc) (l : List Nat) : Prop where
  nodup : l.Nodup
  done : ∀ i, i ∈ l → (tx h i).done = true
  pred : ∀ a k b, l = a ++ k :: b → ∀ i, edgeB h i k = true → i ∈ a
theorem Taken.nil (h : List Acc) : Taken h [] := ⟨List.nodup_nil, fun _ hx => (by cases hx), fun a k b e => (by cases a <;> cases e)⟩
theorem snoc_cases {l a b : List Nat} {k k' : Nat} (e : l ++ [k'] = a ++ k :: b) : (a = l ∧ k = k' ∧ b = []) ∨ ∃ b', b = b' ++ [k'] ∧ l = a ++ k :: b' := by
  rcases List.eq_nil_or_concat b with rfl | ⟨b', z, rfl⟩
  · obtain ⟨h1, h2⟩ := List.append_inj' e rfl
    injection h2 with h3
    exact .inl ⟨h1.symm, h3.symm, rfl⟩
  · have e' : l ++ [k'] = (a ++ k :: b') ++ [z] := by simpa using e
    obtain ⟨h1, h2⟩ := List.append_inj' e' rfl
    injection h2 with h3
    subst h3
    exact .inr ⟨b', by simp, h1⟩
theorem Taken.snoc {h : List Acc} {l : List Nat} {k : Nat} (t : Taken h l) (hf : freeB h l k = true) : Taken h (l ++ [k]) := by
  unfold freeB at hf
  simp only [Bool.and_eq_true, Bool.not_eq_true', decide_eq_false_iff_not, anyUpto_not, Bool.and_eq_false_iff, Bool.not_eq_false', decide_eq_true_eq] at hf
  obtain ⟨⟨h1, h2⟩, h3⟩ := hf
  refine ⟨?_, fun i hi => ?_, fun a k' b e i he => ?_⟩
  · rw [List.nodup_append]
    exact ⟨t.nodup, by simp, fun x hx y hy => by simp at hy; subst hy; rintro rfl; exact h2 hx⟩
  · rcases List.mem_append.1 hi with hi | hi
    · exact t.done i hi
    · simp at hi; subst hi; exact h1
  · rcases snoc_cases e with ⟨rfl, rfl, rfl⟩ | ⟨b', rfl, e'⟩
    · rcases h3 i (tx_lt (edge_iff.1 he).di) with h | h
      · rw [he] at h; cases h
      · exact h
    · exact t.pred a k' b' e' i he
theorem nextL_some {h : List Acc} {l : List Nat} {k : Nat} (e : nextL h l = some k) : freeB h l k = true := List.find?_some e
theorem serialGo_taken {h : List Acc} : ∀ (n : Nat) (t t' : List Nat), Taken h t → serialGo h n t = some t' → Taken h t' ∧ t'.length = t.length + n
  | 0, t, t', ht, e => by
    have : t = t' := by simpa [serialGo] using e
    subst this
    exact ⟨ht, rfl⟩
  | n + 1, t, t', ht, e => by
    unfold serialGo at e
    split at e
    · cases e
    · rename_i k hk
      obtain ⟨r1, r2⟩ := serialGo_taken n _ t' (ht.snoc (nextL_some hk)) e
      exact ⟨r1, by rw [r2]; simp; omega⟩
/-- Committed transactions that were not taken, each of which has a predecessor that was not taken. -/
structure Stuck (h : List Acc) (t : List Nat) : Prop where
  some : ∃ j, (tx h j).done = true ∧ j ∉ t
  pred : ∀ j, (tx h j).done = true → j ∉ t → ∃ i, i ∉ t ∧ Edge h i j
theorem stuck_of {h : List Acc} {t : List Nat} (hl : t.length < committed h) (e : nextL h t = none) : Stuck h t := by
  refine ⟨?_, fun j hj hn => ?_⟩
  · apply Classical.byContradiction
    intro hno
    have := nodup_length_le (dones h) t (dones_nodup h) (fun x hx => by
      apply Classical.byContradiction
      intro hx'
      exact hno ⟨x, mem_dones.1 hx, hx'⟩)
    rw [dones_length] at this
    omega
  · have h1 := List.find?_eq_none.1 e j (List.mem_range.2 (tx_lt hj))
    have h2 : freeB h t j = false := by simpa using h1
    unfold freeB at h2
    rw [hj] at h2
    have hn' : decide (j ∈ t) = false := by simpa using hn
    rw [hn'] at h2
    simp only [Bool.not_false, Bool.true_and, Bool.not_eq_false', anyUpto_iff, Bool.and_eq_true, Bool.not_eq_true', decide_eq_false_iff_not] at h2
    obtain ⟨i, _, h3, h4⟩ := h2
    exact ⟨i, h4, edge_iff.1 h3⟩
/-- A dangerous structure. -/
structure Danger (h : List Acc) (a b c : Nat) : Prop where
  ab : Anti h a b
  bc : Anti h b c
  lt : (tx h c).stamp < (tx h b).stamp
  kind : a = c ∨ ((tx h a).writes ≠ [] ∧ (tx h c).stamp < (tx h a).stamp) ∨ ((tx h a).writes = [] ∧ (tx h c).stamp ≤ (tx h a).snap)
theorem danger_iff {h : List Acc} {a b c : Nat} : structB h a b c = true ↔ Danger h a b c := by
  unfold structB
  simp only [Bool.and_eq_true, Bool.or_eq_true, anti_iff, decide_eq_true_eq]
  constructor
  · rintro ⟨⟨⟨h1, h2⟩, h3⟩, h4⟩
    refine ⟨h1, h2, h3, ?_⟩
    rcases h4 with h4 | h4
    · exact .inl h4
    · split at h4
      · rename_i h5
        exact .inr (.inl ⟨h5, by simpa using h4⟩)
      · rename_i h5
        exact .inr (.inr ⟨by simpa using h5, by simpa using h4⟩)
  · rintro ⟨h1, h2, h3, h4⟩
    refine ⟨⟨⟨h1, h2⟩, h3⟩, ?_⟩
    rcases h4 with h4 | ⟨h4, h5⟩ | ⟨h4, h5⟩
    · exact .inl h4
    · right; rw [if_pos h4]; simpa using h5
    · right; rw [if_neg (by simpa using h4)]; simpa using h5
theorem exists_min {p : Nat → Prop} (f : Nat → Int) (hf : ∀ i, p i → 0 ≤ f i) (hex : ∃ i, p i) : ∃ i, p i ∧ ∀ j, p j → f i ≤ f j := by
  obtain ⟨i, hi⟩ := hex
  have key : ∀ (m : Nat) (i : Nat), p i → (f i).toNat ≤ m → ∃ i, p i ∧ ∀ j, p j → f i ≤ f j := by
    intro m
    induction m with
    | zero =>
      intro i hi h0
      have := hf i hi
      exact ⟨i, hi, fun j hj => by have := hf j hj; omega⟩
    | succ m ih =>
      intro i hi h0
      by_cases hc : ∃ j, p j ∧ f j < f i
      · obtain ⟨j, hj, hlt⟩ := hc
        exact ih j hj (by have := hf j hj; omega)
      · exact ⟨i, hi, fun j hj => by
          apply Classical.byContradiction
          intro hn
          exact hc ⟨j, hj, by omega⟩⟩
  exact key _ i hi (Nat.le_refl _)
theorem Formed.stamp_nn {x : Acc} (f : Formed x) : 0 ≤ x.stamp := by
  by_cases hw : x.writer = true
  · have := f.writer hw; have := f.snap; omega
  · have := f.other (by simpa using hw); omega
theorem wr_of {h : List Acc} {i : Nat} {x : Int} (hd : (tx h i).done = true) (hx : x ∈ (tx h i).writes) : (tx h i).writer = true := Wr.writer ⟨hd, hx⟩
theorem stuck_danger {h : List Acc} {t : List Nat} (hv : Valid h) (hs : Stuck h t) : ∃ a b c, Danger h a b c := by
  -- a set of transactions that were not taken has a writer
  have hw : ∃ i, (tx h i).writer = true ∧ i ∉ t := by
    obtain ⟨j, hj, hn⟩ := hs.some
    obtain ⟨i, hi, he⟩ := hs.pred j hj hn
    rcases he.kind with ⟨x, h1, _, _⟩ | ⟨x, h1, _, _⟩ | ⟨x, _, h1, _⟩
    · exact ⟨i, wr_of he.di h1, hi⟩
    · exact ⟨i, wr_of he.di h1, hi⟩
    · exact ⟨j, wr_of he.dj h1, hn⟩
  obtain ⟨c, ⟨hc, hct⟩, hmin⟩ := exists_min (p := fun i => (tx h i).writer = true ∧ i ∉ t) (fun i => (tx h i).stamp)
    (fun i hi => (hv.at (tx_lt (Acc.writer_iff.1 hi.1).1)).stamp_nn) hw
  have hcd := (Acc.writer_iff.1 hc).1
  have fc := (hv.at (tx_lt hcd)).writer hc
  have hlt : ∀ i, (tx h i).writer = true → i ∉ t → i ≠ c → (tx h c).stamp < (tx h i).stamp := fun i h1 h2 h3 => by
    have := hmin i ⟨h1, h2⟩
    have := hv.apart h1 hc h3
    omega
  obtain ⟨b, hbt, eb⟩ := hs.pred c hcd hct
  have hbc : Anti h b c := by
    rcases eb.kind with ⟨x, h1, h2, h3⟩ | ⟨x, h1, h2, h3⟩ | ⟨x, h1, h2, h3⟩
    · have := hlt b (wr_of eb.di h1) hbt eb.ne; omega
    · have := hlt b (wr_of eb.di h1) hbt eb.ne; omega
    · exact ⟨eb.ne, eb.di, eb.dj, ⟨x, h1, h2⟩, h3⟩
  obtain ⟨a, hat, ea⟩ := hs.pred b eb.di hbt
  have late := hbc.late
  -- a writer that b has in its snapshot is older than c
  have no : (tx h a).writer = true → ¬ (tx h a).stamp ≤ (tx h b).snap := fun h1 h2 => by
    by_cases e : a = c
    · subst e; omega
    · have := hlt a h1 hat e; omega
  have hab : Anti h a b := by
    rcases ea.kind with ⟨x, h1, h2, h3⟩ | ⟨x, h1, h2, h3⟩ | ⟨x, h1, h2, h3⟩
    · exact absurd (hv.seen ⟨ea.di, h1⟩ ⟨ea.dj, h2⟩ h3) (no (wr_of ea.di h1))
    · exact absurd h3 (no (wr_of ea.di h1))
    · exact ⟨ea.ne, ea.di, ea.dj, ⟨x, h1, h2⟩, h3⟩
  have hbw : (tx h b).writer = true := by
    obtain ⟨x, _, h2⟩ := hab.common
    exact wr_of hab.dj h2
  refine ⟨a, b, c, hab, hbc, hlt b hbw hbt eb.ne, ?_⟩
  by_cases e : a = c
  · exact .inl e
  by_cases haw : (tx h a).writes = []
  · refine .inr (.inr ⟨haw, ?_⟩)
    obtain ⟨d, hdt, ed⟩ := hs.pred a hab.di hat
    rcases ed.kind with ⟨x, h1, h2, h3⟩ | ⟨x, h1, h2, h3⟩ | ⟨x, h1, h2, h3⟩
    · rw [haw] at h2; cases h2
    · have := hmin d ⟨wr_of ed.di h1, hdt⟩
      omega
    · rw [haw] at h2; cases h2
  · exact .inr (.inl ⟨haw, hlt a (Acc.writer_iff.2 ⟨hab.di, haw⟩) hat e⟩)
theorem findUpto_none {α : Type} {n : Nat} {p : Nat → Option α} : findUpto n p = none ↔ ∀ i, i < n → p i = none := by simp [findUpto]
theorem tripleOf_none {n : Nat} {p : Nat → Nat → Nat → Bool} : tripleOf n p = none ↔ ∀ a b c, a < n → b < n → c < n → p a b c = false := by
  unfold tripleOf
  simp only [findUpto_none]
  constructor
  · intro h a b c ha hb hc
    have := h a ha b hb c hc
    split at this
    · cases this
    · rename_i k; simpa using k
  · intro h a ha b hb c hc
    rw [if_neg]
    simp [h a b c ha hb hc]
theorem danger_lt {h : List Acc} {a b c : Nat} (d : Danger h a b c) : a < h.length ∧ b < h.length ∧ c < h.length := ⟨tx_lt d.ab.di, tx_lt d.ab.dj, tx_lt d.bc.dj⟩
theorem dangerousL_none {h : List Acc} (hv : Valid h) : dangerousL h = none ↔ ∀ a b c, ¬ Danger h a b c := by
  unfold dangerousL
  rw [if_pos (checkL_zero.2 hv), tripleOf_none]
  constructor
  · intro k a b c d
    obtain ⟨h1, h2, h3⟩ := danger_lt d
    have := k a b c h1 h2 h3
    rw [danger_iff.2 d] at this
    cases this
  · intro k a b c _ _ _
    rw [← Bool.not_eq_true, danger_iff]
    exact k a b c
theorem serialGo_some {h : List Acc} (hv : Valid h) (hd : ∀ a b c, ¬ Danger h a b c) : ∀ (n : Nat) (t : List Nat), Taken h t → t.length + n ≤ committed h → ∃ t', serialGo h n t = some t'
  | 0, t, _, _ => ⟨t, rfl⟩
  | n + 1, t, ht, hl => by
    unfold serialGo
    split
    · rename_i e
      obtain ⟨a, b, c, k⟩ := stuck_danger hv (stuck_of (by omega) e)
      exact absurd k (hd a b c)
    · rename_i k e
      exact serialGo_some hv hd n _ (ht.snoc (nextL_some e)) (by simp; omega)
/-- P26.8. -/
theorem serial_of_safe {h : List Acc} (hv : Valid h) (hd : ∀ a b c, ¬ Danger h a b c) : ∃ t, serialL h = some t := by
  unfold serialL
  rw [if_pos (checkL_zero.2 hv)]
  exact serialGo_some hv hd _ [] (Taken.nil h) (by simp)
theorem serialL_taken {h : List Acc} {t : List Nat} (e : serialL h = some t) : Valid h ∧ Taken h t ∧ t.length = committed h := by
  unfold serialL at e
  split at e
  · rename_i hv
    obtain ⟨r1, r2⟩ := serialGo_taken _ [] t (Taken.nil h) e
    exact ⟨checkL_zero.1 hv, r1, by simpa using r2⟩
  · cases e
theorem Taken.all {h : List Acc} {t : List Nat} (ht : Taken h t) (hl : t.length = committed h) {i : Nat} (hi : (tx h i).done = true) : i ∈ t := by
  apply Classical.byContradiction
  intro hn
  have := nodup_length_le (i :: t) (dones h) (List.nodup_cons.2 ⟨hn, ht.nodup⟩) (fun x hx => by
    rcases List.mem_cons.1 hx with rfl | hx
    · exact mem_dones.2 hi
    · exact mem_dones.2 (ht.done x hx))
  rw [dones_length] at this
  simp at this
  omega
end Go.Proofs.Ytlfpkikmofgjfaa
