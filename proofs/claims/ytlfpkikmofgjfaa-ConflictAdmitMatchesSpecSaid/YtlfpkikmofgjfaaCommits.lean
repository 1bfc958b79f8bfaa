/- Scripts of transactions that commit by admission: what holds after each step. Plain mathematics. -/
import Derived.Test.YtlfpkikmofgjfaaCycle
namespace Go.Proofs.Ytlfpkikmofgjfaa

/-- A transaction of a script. -/
structure Tr where
  ago : Int
  mode : Int
  reads : Int
  writes : Int
/-- The items of bits. -/
def itemsL (n : Int) : List Int := ((List.range 8).filter fun i => decide (n / 2 ^ i % 2 = 1)).map fun (i : Nat) => (i : Int)
def begunL (h : List Acc) (x : Tr) : Acc := ⟨x.mode % 3, max 0 (lastL h - x.ago % 6), false, 0, itemsL x.reads, if x.mode % 3 = 2 then [] else itemsL x.writes⟩
def tuneL (x : Acc) (mode least : Int) : Acc := { x with mode := if mode < 3 then mode else x.mode, snap := max x.snap least }
theorem rising_cons {a : Int} {l : List Int} : rising (a :: l) = true ↔ (∀ b, l.head? = some b → a < b) ∧ rising l = true := by
  cases l with
  | nil => simp [rising]
  | cons b l => simp [rising]
theorem rising_of_pairwise : ∀ {l : List Int}, l.Pairwise (· < ·) → rising l = true
  | [], _ => rfl
  | a :: l, h => by
    rw [List.pairwise_cons] at h
    rw [rising_cons]
    exact ⟨fun b hb => h.1 b (List.mem_of_mem_head? hb), rising_of_pairwise h.2⟩
theorem pairwise_of_rising : ∀ {l : List Int}, rising l = true → l.Pairwise (· < ·)
  | [], _ => List.Pairwise.nil
  | [a], _ => by simp
  | a :: b :: l, h => by
    simp only [rising, Bool.and_eq_true, decide_eq_true_eq] at h
    have ih := pairwise_of_rising h.2
    rw [List.pairwise_cons]
    refine ⟨fun x hx => ?_, ih⟩
    rcases List.mem_cons.1 hx with rfl | hx
    · exact h.1
    · have := (List.pairwise_cons.1 ih).1 x hx
      omega
theorem items_rising (n : Int) : rising (itemsL n) = true := by
  apply rising_of_pairwise
  unfold itemsL
  rw [List.pairwise_map]
  refine List.Pairwise.imp (fun {a b} h => ?_) (List.pairwise_lt_range.filter _)
  omega
theorem items_length (n : Int) : (itemsL n).length ≤ 8 := by
  unfold itemsL
  rw [List.length_map]
  have := List.length_filter_le (fun i => decide (n / 2 ^ i % 2 = 1)) (List.range 8)
  simpa using this
theorem begun_fresh {h : List Acc} {x : Tr} (hl : lastL h ≤ 1073741824) {mode least : Int} (hmode : mode = 1 ∨ mode = 3) (hle : least ≤ 1073741824) : Fresh (tuneL (begunL h x) mode least) ∧ (tuneL (begunL h x) mode least).done = false := by
  have hlast := lastL_nn h
  have hw : ((tuneL (begunL h x) mode least).writes).length ≤ 8 := by
    show (if x.mode % 3 = 2 then [] else itemsL x.writes).length ≤ 8
    split
    · simp
    · exact items_length _
  refine ⟨⟨⟨?_, ?_, items_rising _, ?_, ?_, fun hw => ?_, fun _ => rfl⟩, rfl, ?_, by omega⟩, rfl⟩
  · show 0 ≤ (if mode < 3 then mode else x.mode % 3) ∧ (if mode < 3 then mode else x.mode % 3) ≤ 2
    split <;> omega
  · show 0 ≤ max (max 0 (lastL h - x.ago % 6)) least ∧ max (max 0 (lastL h - x.ago % 6)) least ≤ 1073741824
    omega
  · show rising (if x.mode % 3 = 2 then [] else itemsL x.writes) = true
    split
    · rfl
    · exact items_rising _
  · show (if mode < 3 then mode else x.mode % 3) = 2 → (if x.mode % 3 = 2 then [] else itemsL x.writes) = []
    intro hm2
    split at hm2
    · omega
    · rw [if_pos hm2]
  · have : (tuneL (begunL h x) mode least).done = true := (Acc.writer_iff.1 hw).1
    cases this
  · have := items_length x.reads
    show (itemsL x.reads).length ≤ 64
    omega
/-- A valid history, its last stamp, its length. -/
structure Good (h : List Acc) (B : Int) : Prop where
  valid : Valid h
  last : lastL h ≤ B
theorem Good.snoc {h : List Acc} {B : Int} (g : Good h B) {x : Acc} (hx : Fresh x) (hd : x.done = false ∨ x.writes = []) (hl : h.length + 1 ≤ 100) (hs : x.snap ≤ B) : Good (h ++ [x]) B := by
  have hB : 0 ≤ B := by have := lastL_nn h; have := g.last; omega
  refine ⟨g.valid.snoc hx hd hl, lastL_le hB fun i hi => ?_⟩
  simp at hi
  by_cases e : i < h.length
  · rw [tx_snoc_lt e]
    have := lastL_ge e
    have := g.last
    omega
  · obtain rfl : i = h.length := by omega
    rw [tx_snoc_same, hx.stamp]
    omega
theorem Good.commit {h : List Acc} {B : Int} (g : Good h B) (hB : B < 1073741824) {i : Nat} (hi : i < h.length) (hd : (tx h i).done = false) :
    commitL h i = some h ∨ (commitL h i = some (withL h i (stampL h i)) ∧ Good (withL h i (stampL h i)) (B + 1) ∧ ((tx h i).mode = 1 → hurtsB (withL h i (stampL h i)) i = false)) := by
  have hB0 : 0 ≤ B := by have := lastL_nn h; have := g.last; omega
  have hs : 0 ≤ stampL h i ∧ stampL h i ≤ B + 1 := by
    unfold stampL
    have := lastL_nn h
    have := g.last
    split <;> omega
  rcases commitL_ready g.valid hi hd (by omega) with e | ⟨e, h1, h2⟩
  · exact .inl e
  · refine .inr ⟨e, ⟨h1, lastL_le (by omega) fun j hj => ?_⟩, h2⟩
    rw [withL_length] at hj
    by_cases e : i = j
    · subst e
      rw [tx_withL_same hi]
      have := lastL_ge hi
      have := g.last
      simp only
      omega
    · rw [tx_withL_other e]
      have := lastL_ge hj
      have := g.last
      omega
/-- All transactions are of ModeSerial. -/
def Serials (h : List Acc) : Prop := ∀ i, i < h.length → (tx h i).mode = 1
theorem Serials.snoc {h : List Acc} (k : Serials h) {x : Acc} (hx : x.mode = 1) : Serials (h ++ [x]) := fun i hi => by
  simp at hi
  by_cases e : i < h.length
  · rw [tx_snoc_lt e]; exact k i e
  · obtain rfl : i = h.length := by omega
    rw [tx_snoc_same]; exact hx
theorem Serials.commit {h : List Acc} (k : Serials h) {i : Nat} {s : Int} (hi : i < h.length) : Serials (withL h i s) := fun j hj => by
  rw [withL_length] at hj
  by_cases e : i = j
  · subst e; rw [tx_withL_same hi]; exact k i hi
  · rw [tx_withL_other e]; exact k j hj
/-- A safe snapshot: no antidependency leads back over it, and whoever has not committed has begun behind it. -/
structure Safe (h : List Acc) (s : Int) : Prop where
  back : ∀ i j, Anti h i j → s < (tx h i).stamp → ¬ (tx h j).stamp ≤ s
  begun : ∀ i, i < h.length → (tx h i).done = false → s ≤ (tx h i).snap
theorem safe_of {h : List Acc} {s : Int} (k : safeL h s = true) (hm : Serials h) : Safe h s := by
  unfold safeL at k
  simp only [Bool.and_eq_true, Bool.not_eq_true', anyUpto_not, decide_eq_true_eq, Bool.and_eq_false_iff, decide_eq_false_iff_not, Bool.not_eq_false'] at k
  obtain ⟨⟨_, k1⟩, k2⟩ := k
  refine ⟨fun i j a h1 h2 => ?_, fun i hi hd => ?_⟩
  · rcases k2 i (tx_lt a.di) j (tx_lt a.dj) with h | h
    · rw [anti_iff.2 a] at h; cases h
    · exact h ⟨h1, h2⟩
  · rcases k1 i hi with h | h
    · rw [hd] at h; cases h
    · have := hm i hi
      apply Classical.byContradiction
      intro hn
      exact h ⟨by omega, by omega⟩
theorem anti_writes {h : List Acc} {i j : Nat} (a : Anti h i j) : (tx h j).writes ≠ [] := by
  obtain ⟨x, _, hx⟩ := a.common
  intro e
  rw [e] at hx
  cases hx
theorem Safe.snoc {h : List Acc} {s : Int} (k : Safe h s) {x : Acc} (hs : s ≤ x.snap ∨ x.done = true) (h0 : x.stamp = 0) (hd : x.done = false ∨ x.writes = []) (hs0 : 0 ≤ s) : Safe (h ++ [x]) s := by
  have hcase : ∀ i, (tx (h ++ [x]) i).done = true → (i < h.length ∧ tx (h ++ [x]) i = tx h i) ∨ (i = h.length ∧ tx (h ++ [x]) i = x ∧ x.done = true) := fun i hi => by
    have hlt := tx_lt hi
    simp at hlt
    by_cases e : i < h.length
    · exact .inl ⟨e, tx_snoc_lt e x⟩
    · obtain rfl : i = h.length := by omega
      rw [tx_snoc_same] at hi
      exact .inr ⟨rfl, tx_snoc_same h x, hi⟩
  refine ⟨fun i j a h1 h2 => ?_, fun i hi hd' => ?_⟩
  · have hw := anti_writes a
    rcases hcase i a.di with ⟨l1, e1⟩ | ⟨_, e1, _⟩
    · rcases hcase j a.dj with ⟨l2, e2⟩ | ⟨_, e2, d2⟩
      · obtain ⟨a1, a2, a3, a4, a5⟩ := a
        rw [e1] at a2 a4 a5 h1
        rw [e2] at a3 a4 a5 h2
        exact k.back i j ⟨a1, a2, a3, a4, a5⟩ h1 h2
      · rw [e2] at hw
        rcases hd with h | h
        · rw [h] at d2; cases d2
        · exact hw h
    · rw [e1, h0] at h1; omega
  · simp at hi
    by_cases e : i < h.length
    · rw [tx_snoc_lt e] at hd' ⊢; exact k.begun i e hd'
    · obtain rfl : i = h.length := by omega
      rw [tx_snoc_same] at hd' ⊢
      rcases hs with h | h
      · exact h
      · rw [h] at hd'; cases hd'
theorem Safe.commit {h : List Acc} {s : Int} (k : Safe h s) {i : Nat} (hi : i < h.length) (hd : (tx h i).done = false) : Safe (withL h i (stampL h i)) s := by
  have hsn := k.begun i hi hd
  refine ⟨fun a b x h1 h2 => ?_, fun j hj hd' => ?_⟩
  · by_cases e1 : i = a
    · subst e1
      have := x.late
      rw [tx_withL_same hi] at this
      simp only at this
      omega
    · by_cases e2 : i = b
      · subst e2
        have hw := anti_writes x
        have hal := tx_lt x.di
        rw [withL_length] at hal
        rw [tx_withL_same hi] at hw h2
        rw [tx_withL_other e1] at h1
        simp only at hw h2
        have := stampL_gt hw hal
        omega
      · obtain ⟨a1, a2, a3, a4, a5⟩ := x
        rw [tx_withL_other e1] at a2 a4 a5 h1
        rw [tx_withL_other e2] at a3 a4 a5 h2
        exact k.back a b ⟨a1, a2, a3, a4, a5⟩ h1 h2
  · rw [withL_length] at hj
    by_cases e : i = j
    · subst e; rw [tx_withL_same hi] at hd'; cases hd'
    · rw [tx_withL_other e] at hd' ⊢; exact k.begun j hj hd'
/-- A reader at a safe snapshot completes no dangerous structure. -/
theorem Calm.reader {h : List Acc} (hc : Calm h) {x : Acc} {s : Int} (k : Safe h s) (hs : x.snap = s) (hw : x.writes = []) : Calm (h ++ [x]) := by
  intro a b c d
  have hb := anti_writes d.ab
  have hcw := anti_writes d.bc
  obtain ⟨l1, l2, l3⟩ := danger_lt d
  simp at l1 l2 l3
  have hnb : b ≠ h.length := by rintro rfl; rw [tx_snoc_same] at hb; exact hb hw
  have hnc : c ≠ h.length := by rintro rfl; rw [tx_snoc_same] at hcw; exact hcw hw
  by_cases e : a < h.length
  · exact hc a b c (d.back_snoc e (by omega) (by omega))
  · obtain rfl : a = h.length := by omega
    obtain ⟨⟨g1, g2, g3, g4, g5⟩, ⟨f1, f2, f3, f4, f5⟩, h6, h7⟩ := d
    rw [tx_snoc_same] at g5 h7
    rw [tx_snoc_lt (show b < h.length by omega)] at g5 f2 f4 f5
    rw [tx_snoc_lt (show c < h.length by omega)] at f3 f4 f5 h7
    refine k.back b c ⟨f1, f2, f3, f4, f5⟩ (by omega) ?_
    rcases h7 with h7 | ⟨h7, _⟩ | ⟨_, h7⟩
    · omega
    · exact absurd hw h7
    · omega
theorem Calm.nil : Calm [] := fun a b c d => by have := (danger_lt d).1; simp at this
theorem Good.nil : Good [] 0 := ⟨⟨by simp, fun i hi => (by simp at hi), fun i hi => (by simp at hi), fun i k hi => (by simp at hi), fun i k hi => (by simp at hi)⟩, by simp [lastL]⟩
end Go.Proofs.Ytlfpkikmofgjfaa
