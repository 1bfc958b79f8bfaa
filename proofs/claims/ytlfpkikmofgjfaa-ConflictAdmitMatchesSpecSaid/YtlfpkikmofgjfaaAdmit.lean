/- Who may commit: what admission keeps. Plain mathematics. -/
import Derived.Test.YtlfpkikmofgjfaaEquiv
namespace Go.Proofs.Ytlfpkikmofgjfaa

/-- The greatest stamp and snapshot. -/
def lastL (h : List Acc) : Int := h.foldl (fun m x => max (max m x.stamp) x.snap) 0
theorem last_ge_start (h : List Acc) : ∀ m : Int, m ≤ h.foldl (fun m x => max (max m x.stamp) x.snap) m := by
  induction h with
  | nil => intro m; exact Int.le_refl m
  | cons x h ih => intro m; have := ih (max (max m x.stamp) x.snap); simp only [List.foldl_cons]; omega
theorem last_ge_from (h : List Acc) : ∀ m : Int, ∀ x, x ∈ h → x.stamp ≤ h.foldl (fun m x => max (max m x.stamp) x.snap) m ∧ x.snap ≤ h.foldl (fun m x => max (max m x.stamp) x.snap) m := by
  induction h with
  | nil => intro m x hx; cases hx
  | cons y h ih =>
    intro m x hx
    simp only [List.foldl_cons]
    rcases List.mem_cons.1 hx with rfl | hx
    · have := last_ge_start h (max (max m x.stamp) x.snap); omega
    · exact ih _ x hx
theorem last_le_from (h : List Acc) (B : Int) (hB : ∀ x, x ∈ h → x.stamp ≤ B ∧ x.snap ≤ B) : ∀ m : Int, m ≤ B → h.foldl (fun m x => max (max m x.stamp) x.snap) m ≤ B := by
  induction h with
  | nil => intro m hm; exact hm
  | cons y h ih =>
    intro m hm
    simp only [List.foldl_cons]
    have := hB y List.mem_cons_self
    exact ih (fun x hx => hB x (List.mem_cons_of_mem _ hx)) _ (by omega)
theorem lastL_nn (h : List Acc) : 0 ≤ lastL h := last_ge_start h 0
theorem tx_mem {h : List Acc} {i : Nat} (hi : i < h.length) : tx h i ∈ h := by rw [tx_of hi]; exact List.getElem_mem hi
theorem lastL_ge {h : List Acc} {i : Nat} (hi : i < h.length) : (tx h i).stamp ≤ lastL h ∧ (tx h i).snap ≤ lastL h := last_ge_from h 0 _ (tx_mem hi)
theorem lastL_le {h : List Acc} {B : Int} (h0 : 0 ≤ B) (hB : ∀ i, i < h.length → (tx h i).stamp ≤ B ∧ (tx h i).snap ≤ B) : lastL h ≤ B :=
  last_le_from h B (fun x hx => by
    obtain ⟨i, hi, rfl⟩ := List.mem_iff_getElem.1 hx
    have := hB i hi
    rw [tx_of hi] at this
    exact this) 0 h0
/-- A history with a transaction that has committed. -/
def withL (h : List Acc) (i : Nat) (s : Int) : List Acc := h.set i { tx h i with done := true, stamp := s }
theorem withL_length (h : List Acc) (i : Nat) (s : Int) : (withL h i s).length = h.length := by simp [withL]
theorem tx_withL_same {h : List Acc} {i : Nat} (hi : i < h.length) (s : Int) : tx (withL h i s) i = { tx h i with done := true, stamp := s } := by
  simp [tx, withL, List.getD, hi]
theorem tx_withL_other {h : List Acc} {i j : Nat} (hne : i ≠ j) (s : Int) : tx (withL h i s) j = tx h j := by
  simp [tx, withL, List.getD, List.getElem?_set_ne hne]
def stampL (h : List Acc) (i : Nat) : Int := if (tx h i).writes = [] then 0 else lastL h + 1
def losesB (h : List Acc) (i : Nat) : Bool := anyUpto h.length fun k => (tx h k).done && meet (tx h i).writes (tx h k).writes && decide ((tx h i).snap < (tx h k).stamp)
def hurtsB (h : List Acc) (i : Nat) : Bool := anyUpto h.length fun a => anyUpto h.length fun b => anyUpto h.length fun c => structB h a b c && decide (a = i ∨ b = i ∨ c = i)
/-- May a transaction commit next, and with which stamp? -/
def admitL (h : List Acc) (i : Int) : Int × Int :=
  if checkL h ≠ 0 then (0, checkL h)
  else if i < 0 ∨ (h.length : Int) ≤ i ∨ (tx h i.toNat).done = true then (0, 1)
  else if 1073741824 < stampL h i.toNat then (0, 2)
  else if losesB h i.toNat = true then (0, 271)
  else if (tx h i.toNat).mode = 1 ∧ hurtsB (withL h i.toNat (stampL h i.toNat)) i.toNat = true then (0, 272)
  else (stampL h i.toNat, 0)
/-- Is a snapshot safe? -/
def safeL (h : List Acc) (s : Int) : Bool :=
  decide (checkL h = 0 ∧ 0 ≤ s ∧ s ≤ 1073741824) && !(anyUpto h.length fun i => !(tx h i).done && decide ((tx h i).mode ≠ 2 ∧ (tx h i).snap < s)) &&
    !(anyUpto h.length fun i => anyUpto h.length fun j => antiB h i j && decide (s < (tx h i).stamp ∧ (tx h j).stamp ≤ s))
/-- What admission answers and leaves. -/
def commitL (h : List Acc) (i : Nat) : Option (List Acc) :=
  if (admitL h i).2 ≠ 0 then (if (admitL h i).2 = 271 ∨ (admitL h i).2 = 272 then some h else none)
  else if decide ((tx h i).snap < (admitL h i).1) ≠ decide ((tx h i).writes ≠ []) then none else some (withL h i (admitL h i).1)
/-- A new transaction keeps a history valid. -/
theorem tx_snoc_same (h : List Acc) (x : Acc) : tx (h ++ [x]) h.length = x := by simp [tx, List.getD]
theorem tx_snoc_lt {h : List Acc} {i : Nat} (hi : i < h.length) (x : Acc) : tx (h ++ [x]) i = tx h i := by simp [tx, List.getD, List.getElem?_append_left hi]
structure Fresh (x : Acc) : Prop where
  formed : Formed x
  stamp : x.stamp = 0
  items : x.reads.length ≤ 64 ∧ x.writes.length ≤ 64
theorem Valid.snoc {h : List Acc} (hv : Valid h) {x : Acc} (hx : Fresh x) (hd : x.done = false ∨ x.writes = []) (hl : h.length + 1 ≤ 100) : Valid (h ++ [x]) := by
  have hcase : ∀ i, i < (h ++ [x]).length → (i < h.length ∧ tx (h ++ [x]) i = tx h i) ∨ (i = h.length ∧ tx (h ++ [x]) i = x) := fun i hi => by
    simp at hi
    by_cases e : i < h.length
    · exact .inl ⟨e, tx_snoc_lt e x⟩
    · have : i = h.length := by omega
      subst this
      exact .inr ⟨rfl, tx_snoc_same h x⟩
  refine ⟨by simp; omega, fun i hi => ?_, fun i hi => ?_, fun i k hi hk hne h0 => ?_, fun i k hi hk hne => ?_⟩
  · rcases hcase i hi with ⟨h1, e⟩ | ⟨_, e⟩ <;> rw [e]
    · exact hv.items i h1
    · exact hx.items
  · rcases hcase i hi with ⟨h1, e⟩ | ⟨_, e⟩ <;> rw [e]
    · exact hv.formed i h1
    · exact formed_iff.2 hx.formed
  · rcases hcase i hi with ⟨h1, e⟩ | ⟨_, e⟩
    · rw [e] at h0 ⊢
      rcases hcase k hk with ⟨h2, e'⟩ | ⟨_, e'⟩
      · rw [e']; exact hv.stamps i k h1 h2 hne h0
      · rw [e', hx.stamp]; exact h0
    · rw [e, hx.stamp] at h0; exact absurd rfl h0
  · have hno : ∀ y : Acc, (y.done && x.done && meet y.writes x.writes) = false := fun y => by
      rcases hd with hd | hd
      · simp [hd]
      · rw [hd]; simp [meet]
    rcases hcase i hi with ⟨h1, e⟩ | ⟨h1, e⟩ <;> rcases hcase k hk with ⟨h2, e'⟩ | ⟨h2, e'⟩
    · have := hv.clash i k h1 h2 hne
      unfold clashB at this ⊢
      rw [e, e']; exact this
    · unfold clashB
      rw [e, e', hno]; rfl
    · rw [clash_comm]
      unfold clashB
      rw [e, e', hno]; rfl
    · omega
theorem Formed.done {x : Acc} (f : Formed x) {s : Int} (hw : x.writes ≠ [] → x.snap < s ∧ s ≤ 1073741824) (h0 : x.writes = [] → s = 0) : Formed { x with done := true, stamp := s } := by
  refine ⟨f.mode, f.snap, f.reads, f.writes, f.read, fun h => ?_, fun h => ?_⟩
  · exact hw (Acc.writer_iff.1 h).2
  · apply h0
    apply Classical.byContradiction
    intro hn
    have : ({ x with done := true, stamp := s } : Acc).writer = true := Acc.writer_iff.2 ⟨rfl, hn⟩
    rw [this] at h
    cases h
theorem stampL_gt {h : List Acc} {i k : Nat} (hi : (tx h i).writes ≠ []) (hk : k < h.length) : (tx h k).stamp < stampL h i ∧ (tx h k).snap < stampL h i := by
  have := lastL_ge hk
  unfold stampL
  rw [if_neg hi]
  omega
/-- A commit that wins keeps a history valid. -/
theorem Valid.commit {h : List Acc} (hv : Valid h) {i : Nat} (hi : i < h.length) (hs : stampL h i ≤ 1073741824) (hl : losesB h i = false) : Valid (withL h i (stampL h i)) := by
  have hs' := tx_withL_same hi (stampL h i)
  have hcase : ∀ j, j < (withL h i (stampL h i)).length → (j ≠ i ∧ j < h.length ∧ tx (withL h i (stampL h i)) j = tx h j) ∨ j = i := fun j hj => by
    rw [withL_length] at hj
    by_cases e : j = i
    · exact .inr e
    · exact .inl ⟨e, hj, tx_withL_other (fun e' => e e'.symm) _⟩
  unfold losesB at hl
  rw [anyUpto_not] at hl
  have hclash : ∀ k, k ≠ i → k < h.length → clashB (withL h i (stampL h i)) i k = false := fun k hne hk => by
    have := hl k hk
    unfold clashB
    rw [hs', tx_withL_other (fun e => hne e.symm)]
    simp only [Bool.and_eq_false_iff, decide_eq_false_iff_not] at this ⊢
    simp only [Bool.true_eq_false, false_or]
    rcases this with (this | this) | this
    · exact .inl (.inl this)
    · exact .inl (.inr this)
    · exact .inr (fun h => this h.1)
  refine ⟨by rw [withL_length]; exact hv.len, fun j hj => ?_, fun j hj => ?_, fun j k hj hk hne h0 e => ?_, fun j k hj hk hne => ?_⟩
  · rcases hcase j hj with ⟨_, h1, e⟩ | rfl
    · rw [e]; exact hv.items j h1
    · rw [hs']; exact hv.items j hi
  · rcases hcase j hj with ⟨_, h1, e⟩ | rfl
    · rw [e]; exact hv.formed j h1
    · rw [hs', formed_iff]
      exact (hv.at hi).done (fun hw => ⟨(stampL_gt hw hi).2, hs⟩) (fun hw => by unfold stampL; rw [if_pos hw])
  · rcases hcase j hj with ⟨h1, h2, e1⟩ | rfl
    · rcases hcase k hk with ⟨h3, h4, e2⟩ | rfl
      · rw [e1, e2] at e
        rw [e1] at h0
        exact hv.stamps j k h2 h4 hne h0 e
      · rw [e1, hs'] at e
        rw [e1] at h0
        simp only at e
        by_cases hw : (tx h k).writes = []
        · have : stampL h k = 0 := by unfold stampL; rw [if_pos hw]
          omega
        · have := stampL_gt hw h2; omega
    · rcases hcase k hk with ⟨h3, h4, e2⟩ | rfl
      · rw [e2, hs'] at e
        rw [hs'] at h0
        simp only at e h0
        by_cases hw : (tx h j).writes = []
        · have : stampL h j = 0 := by unfold stampL; rw [if_pos hw]
          omega
        · have := stampL_gt hw h4; omega
      · exact hne rfl
  · rcases hcase j hj with ⟨h1, h2, e1⟩ | rfl
    · rcases hcase k hk with ⟨h3, h4, e2⟩ | rfl
      · have := hv.clash j k h2 h4 hne
        unfold clashB at this ⊢
        rw [e1, e2]; exact this
      · rw [clash_comm]; exact hclash j h1 h2
    · rcases hcase k hk with ⟨h3, h4, e2⟩ | rfl
      · exact hclash k h3 h4
      · exact absurd rfl hne
/-- What admission comes to where the history is valid and the transaction is not done. -/
theorem admitL_ready {h : List Acc} {i : Nat} (hv : Valid h) (hi : i < h.length) (hd : (tx h i).done = false) (hs : stampL h i ≤ 1073741824) :
    (admitL h i = (0, 271) ∧ losesB h i = true) ∨ (admitL h i = (0, 272) ∧ losesB h i = false) ∨ (admitL h i = (stampL h i, 0) ∧ losesB h i = false ∧ ((tx h i).mode = 1 → hurtsB (withL h i (stampL h i)) i = false)) := by
  unfold admitL
  rw [Int.toNat_natCast, if_neg (by rw [checkL_zero.2 hv]; simp), if_neg (by rw [hd]; simp; omega), if_neg (by omega)]
  by_cases hl : losesB h i = true
  · rw [if_pos hl]; exact .inl ⟨rfl, hl⟩
  · rw [if_neg hl]
    have hl' : losesB h i = false := by simpa using hl
    by_cases hh : (tx h i).mode = 1 ∧ hurtsB (withL h i (stampL h i)) i = true
    · rw [if_pos hh]; exact .inr (.inl ⟨rfl, hl'⟩)
    · rw [if_neg hh]
      exact .inr (.inr ⟨rfl, hl', fun hm => by
        cases e : hurtsB (withL h i (stampL h i)) i
        · rfl
        · exact absurd ⟨hm, e⟩ hh⟩)
theorem commitL_ready {h : List Acc} {i : Nat} (hv : Valid h) (hi : i < h.length) (hd : (tx h i).done = false) (hs : stampL h i ≤ 1073741824) :
    commitL h i = some h ∨ (commitL h i = some (withL h i (stampL h i)) ∧ Valid (withL h i (stampL h i)) ∧ ((tx h i).mode = 1 → hurtsB (withL h i (stampL h i)) i = false)) := by
  unfold commitL
  rcases admitL_ready hv hi hd hs with ⟨e, _⟩ | ⟨e, _⟩ | ⟨e, h1, h2⟩
  · rw [e]; left; simp
  · rw [e]; left; simp
  · rw [e]
    right
    refine ⟨?_, hv.commit hi hs h1, h2⟩
    simp only [ne_eq, not_true_eq_false, if_false]
    rw [if_neg]
    simp only [Decidable.not_not]
    by_cases hw : (tx h i).writes = []
    · have : stampL h i = 0 := by unfold stampL; rw [if_pos hw]
      have := (hv.at hi).snap
      simp [hw]
      omega
    · have := (stampL_gt hw hi).2
      simp [hw, this]
/-- No dangerous structure. -/
def Calm (h : List Acc) : Prop := ∀ a b c, ¬ Danger h a b c
theorem Danger.back {h : List Acc} {i a b c : Nat} {s : Int} (d : Danger (withL h i s) a b c) (ha : i ≠ a) (hb : i ≠ b) (hc : i ≠ c) : Danger h a b c := by
  obtain ⟨⟨h1, h2, h3, h4, h5⟩, ⟨g1, g2, g3, g4, g5⟩, h6, h7⟩ := d
  rw [tx_withL_other ha] at h2 h4 h5 h7
  rw [tx_withL_other hb] at h3 h4 h5 h6 g2 g4 g5
  rw [tx_withL_other hc] at g3 g4 g5 h6 h7
  exact ⟨⟨h1, h2, h3, h4, h5⟩, ⟨g1, g2, g3, g4, g5⟩, h6, h7⟩
theorem Calm.commit {h : List Acc} {i : Nat} {s : Int} (hc : Calm h) (hh : hurtsB (withL h i s) i = false) : Calm (withL h i s) := by
  intro a b c d
  by_cases hi : a = i ∨ b = i ∨ c = i
  · obtain ⟨l1, l2, l3⟩ := danger_lt d
    unfold hurtsB at hh
    rw [anyUpto_not] at hh
    have := anyUpto_not.1 ((anyUpto_not.1 (hh a l1)) b l2) c l3
    rw [danger_iff.2 d] at this
    simp only [Bool.true_and, decide_eq_false_iff_not] at this
    exact this hi
  · exact hc a b c (d.back (fun e => hi (.inl e.symm)) (fun e => hi (.inr (.inl e.symm))) (fun e => hi (.inr (.inr e.symm))))
theorem Danger.back_snoc {h : List Acc} {x : Acc} {a b c : Nat} (d : Danger (h ++ [x]) a b c) (ha : a < h.length) (hb : b < h.length) (hc : c < h.length) : Danger h a b c := by
  obtain ⟨⟨h1, h2, h3, h4, h5⟩, ⟨g1, g2, g3, g4, g5⟩, h6, h7⟩ := d
  rw [tx_snoc_lt ha] at h2 h4 h5 h7
  rw [tx_snoc_lt hb] at h3 h4 h5 h6 g2 g4 g5
  rw [tx_snoc_lt hc] at g3 g4 g5 h6 h7
  exact ⟨⟨h1, h2, h3, h4, h5⟩, ⟨g1, g2, g3, g4, g5⟩, h6, h7⟩
theorem Calm.snoc {h : List Acc} (hc : Calm h) {x : Acc} (hd : x.done = false) : Calm (h ++ [x]) := by
  intro a b c d
  obtain ⟨l1, l2, l3⟩ := danger_lt d
  simp at l1 l2 l3
  have hne : ∀ j, (tx (h ++ [x]) j).done = true → j ≠ h.length := fun j hj e => by
    rw [e, tx_snoc_same, hd] at hj
    cases hj
  have e1 := hne a d.ab.di
  have e2 := hne b d.ab.dj
  have e3 := hne c d.bc.dj
  exact hc a b c (d.back_snoc (by omega) (by omega) (by omega))
end Go.Proofs.Ytlfpkikmofgjfaa
