/- Histories of transactions as plain data: what a history is, its edges, its dangerous structures, its orders. No program in sight. -/
namespace Go.Proofs.Ytlfpkikmofgjfaa

/-- A transaction. -/
structure Acc where
  mode : Int
  snap : Int
  done : Bool
  stamp : Int
  reads : List Int
  writes : List Int
def acc0 : Acc := ⟨0, 0, false, 0, [], []⟩
/-- The transaction at a place. -/
def tx (h : List Acc) (i : Nat) : Acc := h.getD i acc0
theorem tx_of {h : List Acc} {i : Nat} (hi : i < h.length) : tx h i = h[i] := by simp [tx, List.getD, List.getElem?_eq_getElem hi]
theorem tx_out {h : List Acc} {i : Nat} (hi : h.length ≤ i) : tx h i = acc0 := by simp [tx, List.getD, List.getElem?_eq_none hi]
theorem tx_lt {h : List Acc} {i : Nat} (hd : (tx h i).done = true) : i < h.length := by
  apply Classical.byContradiction
  intro hn
  rw [tx_out (by omega)] at hd
  cases hd
/-- Two lists have a common element. -/
def meet (a b : List Int) : Bool := a.any fun x => decide (x ∈ b)
theorem meet_iff {a b : List Int} : meet a b = true ↔ ∃ x, x ∈ a ∧ x ∈ b := by simp [meet]
theorem meet_comm (a b : List Int) : meet a b = meet b a := by
  rw [Bool.eq_iff_iff, meet_iff, meet_iff]
  exact ⟨fun ⟨x, h1, h2⟩ => ⟨x, h2, h1⟩, fun ⟨x, h1, h2⟩ => ⟨x, h2, h1⟩⟩
/-- Strictly ascending. -/
def rising : List Int → Bool
  | a :: b :: l => decide (a < b) && rising (b :: l)
  | _ => true
def Acc.writer (x : Acc) : Bool := x.done && !x.writes.isEmpty
theorem Acc.writer_iff {x : Acc} : x.writer = true ↔ x.done = true ∧ x.writes ≠ [] := by simp [Acc.writer]
/-- The fields of a transaction agree with each other. -/
def formedB (x : Acc) : Bool :=
  decide (0 ≤ x.mode ∧ x.mode ≤ 2 ∧ 0 ≤ x.snap ∧ x.snap ≤ 1073741824) && rising x.reads && rising x.writes && !(decide (x.mode = 2) && !x.writes.isEmpty) &&
    (if x.writer = true then decide (x.snap < x.stamp ∧ x.stamp ≤ 1073741824) else decide (x.stamp = 0))
/-- There is a number below n that fits. -/
def anyUpto (n : Nat) (p : Nat → Bool) : Bool := (List.range n).any p
theorem anyUpto_iff {n : Nat} {p : Nat → Bool} : anyUpto n p = true ↔ ∃ i, i < n ∧ p i = true := by simp [anyUpto]
theorem anyUpto_not {n : Nat} {p : Nat → Bool} : anyUpto n p = false ↔ ∀ i, i < n → p i = false := by simp [anyUpto]
def bigB (h : List Acc) : Bool := anyUpto h.length fun i => decide (64 < (tx h i).reads.length ∨ 64 < (tx h i).writes.length)
def badB (h : List Acc) (i : Nat) : Bool := !formedB (tx h i) || anyUpto i fun k => decide ((tx h i).stamp ≠ 0 ∧ (tx h i).stamp = (tx h k).stamp)
def clashB (h : List Acc) (i k : Nat) : Bool := (tx h i).done && (tx h k).done && meet (tx h i).writes (tx h k).writes && decide ((tx h i).snap < (tx h k).stamp ∧ (tx h k).snap < (tx h i).stamp)
/-- The error of a history. -/
def checkL (h : List Acc) : Int :=
  if 100 < h.length then 2 else if bigB h = true then 2 else if anyUpto h.length (badB h) = true then 1 else if (anyUpto h.length fun i => anyUpto i (clashB h i)) = true then 3 else 0
/-- An antidependency. -/
def antiB (h : List Acc) (i j : Nat) : Bool := decide (i ≠ j) && (tx h i).done && (tx h j).done && meet (tx h i).reads (tx h j).writes && decide ((tx h i).snap < (tx h j).stamp)
def wwB (h : List Acc) (i j : Nat) : Bool := meet (tx h i).writes (tx h j).writes && decide ((tx h i).stamp < (tx h j).stamp)
def wrB (h : List Acc) (i j : Nat) : Bool := meet (tx h i).writes (tx h j).reads && decide ((tx h i).stamp ≤ (tx h j).snap)
/-- A dependency. -/
def edgeB (h : List Acc) (i j : Nat) : Bool := decide (i ≠ j) && (tx h i).done && (tx h j).done && (wwB h i j || wrB h i j || antiB h i j)
def pairsOf (n : Nat) (p : Nat → Nat → Bool) : List (Nat × Nat) := (List.range n).flatMap fun i => ((List.range n).filter (p i)).map fun j => (i, j)
def antiL (h : List Acc) : List (Nat × Nat) := if checkL h = 0 then pairsOf h.length (antiB h) else []
def dependsL (h : List Acc) : List (Nat × Nat) := if checkL h = 0 then pairsOf h.length (edgeB h) else []
/-- A dangerous structure. -/
def structB (h : List Acc) (a b c : Nat) : Bool :=
  antiB h a b && antiB h b c && decide ((tx h c).stamp < (tx h b).stamp) && (decide (a = c) || (if (tx h a).writes ≠ [] then decide ((tx h c).stamp < (tx h a).stamp) else decide ((tx h c).stamp ≤ (tx h a).snap)))
def findUpto {α : Type} (n : Nat) (p : Nat → Option α) : Option α := (List.range n).findSome? p
def tripleOf (n : Nat) (p : Nat → Nat → Nat → Bool) : Option (Nat × Nat × Nat) :=
  findUpto n fun a => findUpto n fun b => findUpto n fun c => if p a b c = true then some (a, b, c) else none
def dangerousL (h : List Acc) : Option (Nat × Nat × Nat) := if checkL h = 0 then tripleOf h.length (structB h) else none
/-- The least committed transaction that was not taken and whose predecessors were. -/
def freeB (h : List Acc) (taken : List Nat) (j : Nat) : Bool := (tx h j).done && !decide (j ∈ taken) && !anyUpto h.length fun i => edgeB h i j && !decide (i ∈ taken)
def nextL (h : List Acc) (taken : List Nat) : Option Nat := (List.range h.length).find? (freeB h taken)
def serialGo (h : List Acc) : Nat → List Nat → Option (List Nat)
  | 0, t => some t
  | n + 1, t => match nextL h t with
    | none => none
    | some k => serialGo h n (t ++ [k])
def committed (h : List Acc) : Nat := (List.range h.length).countP fun i => (tx h i).done
def serialL (h : List Acc) : Option (List Nat) := if checkL h = 0 then serialGo h (committed h) [] else none

/-! ### what a valid history keeps to -/
structure Valid (h : List Acc) : Prop where
  len : h.length ≤ 100
  items : ∀ i, i < h.length → (tx h i).reads.length ≤ 64 ∧ (tx h i).writes.length ≤ 64
  formed : ∀ i, i < h.length → formedB (tx h i) = true
  stamps : ∀ i k, i < h.length → k < h.length → i ≠ k → (tx h i).stamp ≠ 0 → (tx h i).stamp ≠ (tx h k).stamp
  clash : ∀ i k, i < h.length → k < h.length → i ≠ k → clashB h i k = false
theorem clash_comm (h : List Acc) (i k : Nat) : clashB h i k = clashB h k i := by
  unfold clashB
  rw [meet_comm, Bool.and_comm (tx h i).done, show decide ((tx h i).snap < (tx h k).stamp ∧ (tx h k).snap < (tx h i).stamp) = decide ((tx h k).snap < (tx h i).stamp ∧ (tx h i).snap < (tx h k).stamp) from decide_eq_decide.2 And.comm]
theorem checkL_zero {h : List Acc} : checkL h = 0 ↔ Valid h := by
  unfold checkL
  constructor
  · intro hc
    split at hc
    · omega
    split at hc
    · omega
    split at hc
    · omega
    split at hc
    · omega
    rename_i h1 h2 h3 h4
    have h2' : bigB h = false := by simpa using h2
    have h3' : anyUpto h.length (badB h) = false := by simpa using h3
    have h4' : (anyUpto h.length fun i => anyUpto i (clashB h i)) = false := by simpa using h4
    unfold bigB at h2'
    rw [anyUpto_not] at h2' h3' h4'
    have hst : ∀ i k, i < h.length → k < i → (tx h i).stamp ≠ 0 → (tx h i).stamp ≠ (tx h k).stamp := fun i k hi hk h0 e => by
      have := h3' i hi
      unfold badB at this
      simp only [Bool.or_eq_false_iff, anyUpto_not] at this
      have := this.2 k hk
      simp only [decide_eq_false_iff_not] at this
      exact this ⟨h0, e⟩
    refine ⟨by omega, fun i hi => ?_, fun i hi => ?_, fun i k hi hk hne h0 e => ?_, fun i k hi hk hne => ?_⟩
    · have := h2' i hi
      simp only [decide_eq_false_iff_not] at this
      omega
    · have := h3' i hi
      unfold badB at this
      simp only [Bool.or_eq_false_iff] at this
      simpa using this.1
    · rcases Nat.lt_or_ge i k with hlt | hge
      · exact hst k i hk hlt (by rw [← e]; exact h0) e.symm
      · exact hst i k hi (by omega) h0 e
    · rcases Nat.lt_or_ge i k with hlt | hge
      · rw [clash_comm]
        exact (anyUpto_not.1 (h4' k hk)) i hlt
      · exact (anyUpto_not.1 (h4' i hi)) k (by omega)
  · intro ⟨h1, h2, h3, h4, h5⟩
    rw [if_neg (by omega), if_neg, if_neg, if_neg]
    · rw [Bool.not_eq_true, anyUpto_not]
      intro i hi
      rw [anyUpto_not]
      intro k hk
      exact h5 i k hi (by omega) (by omega)
    · rw [Bool.not_eq_true, anyUpto_not]
      intro i hi
      unfold badB
      simp only [Bool.or_eq_false_iff, anyUpto_not, decide_eq_false_iff_not]
      exact ⟨by simp [h3 i hi], fun k hk ⟨a, b⟩ => h4 i k hi (by omega) (by omega) a b⟩
    · unfold bigB
      rw [Bool.not_eq_true, anyUpto_not]
      intro i hi
      have := h2 i hi
      simp only [decide_eq_false_iff_not]
      omega
structure Formed (x : Acc) : Prop where
  mode : 0 ≤ x.mode ∧ x.mode ≤ 2
  snap : 0 ≤ x.snap ∧ x.snap ≤ 1073741824
  reads : rising x.reads = true
  writes : rising x.writes = true
  read : x.mode = 2 → x.writes = []
  writer : x.writer = true → x.snap < x.stamp ∧ x.stamp ≤ 1073741824
  other : x.writer = false → x.stamp = 0
theorem formed_iff {x : Acc} : formedB x = true ↔ Formed x := by
  unfold formedB
  constructor
  · intro h
    simp only [Bool.and_eq_true, decide_eq_true_eq, Bool.not_eq_true', Bool.and_eq_false_iff, decide_eq_false_iff_not, Bool.not_eq_false'] at h
    obtain ⟨⟨⟨⟨⟨a, b, c, d⟩, e⟩, f⟩, g⟩, k⟩ := h
    refine ⟨⟨a, b⟩, ⟨c, d⟩, e, f, fun hm => ?_, fun hw => ?_, fun hw => ?_⟩
    · rcases g with g | g
      · exact absurd hm g
      · simpa using g
    · rw [if_pos hw] at k
      simpa using k
    · rw [if_neg (by simp [hw])] at k
      simpa using k
  · intro ⟨⟨a, b⟩, ⟨c, d⟩, e, f, g, k, l⟩
    simp only [Bool.and_eq_true, decide_eq_true_eq, Bool.not_eq_true', Bool.and_eq_false_iff, decide_eq_false_iff_not, Bool.not_eq_false']
    refine ⟨⟨⟨⟨⟨a, b, c, d⟩, e⟩, f⟩, ?_⟩, ?_⟩
    · by_cases hm : x.mode = 2
      · right
        simp [g hm]
      · exact .inl hm
    · by_cases hw : x.writer = true
      · rw [if_pos hw]
        simpa using k hw
      · rw [if_neg hw]
        simpa using l (by simpa using hw)
theorem Valid.at {h : List Acc} (hv : Valid h) {i : Nat} (hi : i < h.length) : Formed (tx h i) := formed_iff.1 (hv.formed i hi)
/-! ### edges -/
structure Anti (h : List Acc) (i j : Nat) : Prop where
  ne : i ≠ j
  di : (tx h i).done = true
  dj : (tx h j).done = true
  common : ∃ x, x ∈ (tx h i).reads ∧ x ∈ (tx h j).writes
  late : (tx h i).snap < (tx h j).stamp
theorem anti_iff {h : List Acc} {i j : Nat} : antiB h i j = true ↔ Anti h i j := by
  unfold antiB
  simp only [Bool.and_eq_true, decide_eq_true_eq, meet_iff]
  exact ⟨fun ⟨⟨⟨⟨a, b⟩, c⟩, d⟩, e⟩ => ⟨a, b, c, d, e⟩, fun ⟨a, b, c, d, e⟩ => ⟨⟨⟨⟨a, b⟩, c⟩, d⟩, e⟩⟩
structure Edge (h : List Acc) (i j : Nat) : Prop where
  ne : i ≠ j
  di : (tx h i).done = true
  dj : (tx h j).done = true
  kind : (∃ x, x ∈ (tx h i).writes ∧ x ∈ (tx h j).writes ∧ (tx h i).stamp < (tx h j).stamp) ∨ (∃ x, x ∈ (tx h i).writes ∧ x ∈ (tx h j).reads ∧ (tx h i).stamp ≤ (tx h j).snap) ∨ (∃ x, x ∈ (tx h i).reads ∧ x ∈ (tx h j).writes ∧ (tx h i).snap < (tx h j).stamp)
theorem edge_iff {h : List Acc} {i j : Nat} : edgeB h i j = true ↔ Edge h i j := by
  unfold edgeB wwB wrB
  simp only [Bool.and_eq_true, Bool.or_eq_true, decide_eq_true_eq, meet_iff, anti_iff]
  constructor
  · rintro ⟨⟨⟨a, b⟩, c⟩, (⟨⟨x, d, e⟩, f⟩ | ⟨⟨x, d, e⟩, f⟩) | d⟩
    · exact ⟨a, b, c, .inl ⟨x, d, e, f⟩⟩
    · exact ⟨a, b, c, .inr (.inl ⟨x, d, e, f⟩)⟩
    · obtain ⟨x, d1, d2⟩ := d.common
      exact ⟨a, b, c, .inr (.inr ⟨x, d1, d2, d.late⟩)⟩
  · rintro ⟨a, b, c, ⟨x, d, e, f⟩ | ⟨x, d, e, f⟩ | ⟨x, d, e, f⟩⟩
    · exact ⟨⟨⟨a, b⟩, c⟩, .inl (.inl ⟨⟨x, d, e⟩, f⟩)⟩
    · exact ⟨⟨⟨a, b⟩, c⟩, .inl (.inr ⟨⟨x, d, e⟩, f⟩)⟩
    · exact ⟨⟨⟨a, b⟩, c⟩, .inr ⟨a, b, c, ⟨x, d, e⟩, f⟩⟩
/-- A writer writes an item of h. -/
def Wr (h : List Acc) (i : Nat) (x : Int) : Prop := (tx h i).done = true ∧ x ∈ (tx h i).writes
theorem Wr.writer {h : List Acc} {i : Nat} {x : Int} (k : Wr h i x) : (tx h i).writer = true := Acc.writer_iff.2 ⟨k.1, fun e => by have := k.2; rw [e] at this; cases this⟩
theorem Wr.lt {h : List Acc} {i : Nat} {x : Int} (k : Wr h i x) : i < h.length := tx_lt k.1
theorem Valid.wr {h : List Acc} (hv : Valid h) {i : Nat} {x : Int} (k : Wr h i x) : 0 ≤ (tx h i).snap ∧ (tx h i).snap < (tx h i).stamp ∧ (tx h i).stamp ≤ 1073741824 := by
  have f := hv.at k.lt
  exact ⟨f.snap.1, f.writer k.writer⟩
/-- Of two writers of an item the later one has the earlier one in its snapshot. -/
theorem Valid.seen {h : List Acc} (hv : Valid h) {i k : Nat} {x : Int} (hi : Wr h i x) (hk : Wr h k x) (hlt : (tx h i).stamp < (tx h k).stamp) : (tx h i).stamp ≤ (tx h k).snap := by
  have hc := hv.clash i k hi.lt hk.lt (fun e => by rw [e] at hlt; omega)
  unfold clashB at hc
  have w1 := hv.wr hi
  have w2 := hv.wr hk
  apply Classical.byContradiction
  intro hn
  have : meet (tx h i).writes (tx h k).writes = true := meet_iff.2 ⟨x, hi.2, hk.2⟩
  rw [hi.1, hk.1, this] at hc
  simp only [Bool.and_self, Bool.true_and, decide_eq_false_iff_not] at hc
  omega
theorem Valid.apart {h : List Acc} (hv : Valid h) {i k : Nat} (hi : (tx h i).writer = true) (hk : (tx h k).writer = true) (hne : i ≠ k) : (tx h i).stamp ≠ (tx h k).stamp := by
  have d1 := tx_lt (Acc.writer_iff.1 hi).1
  have d2 := tx_lt (Acc.writer_iff.1 hk).1
  have f := (hv.at d1).writer hi
  have g := (hv.at d1).snap
  exact hv.stamps i k d1 d2 hne (by omega)
end Go.Proofs.Ytlfpkikmofgjfaa
