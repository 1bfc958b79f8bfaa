/- The reference's way of reckoning the lengths of shortest ways, in plain words. -/
import Derived.Test.YtlfpkikmofgjfaaCycle
namespace Go.Proofs.Ytlfpkikmofgjfaa

def nearN (h : List Acc) (to n j : Nat) : Bool := decide ((n = 1 ∧ j = to) ∨ (1 < n ∧ j ≠ to ∧ dist h to (n - 1) j = n - 1))
def distN (h : List Acc) (to n i j : Nat) : Nat := if dist h to (n - 1) i = 0 ∧ to ≤ i ∧ (anyUpto j fun j' => decide (to ≤ j') && edgeB h i j' && nearN h to n j') = true then n else dist h to (n - 1) i
/-- What lies at x in the round n, where the place (i, j) comes next. -/
def outN (h : List Acc) (to n i j x : Nat) : Nat := if x < i then dist h to n x else if x = i then distN h to n i j else dist h to (n - 1) x
theorem distN_start (h : List Acc) (to n i : Nat) : distN h to n i to = dist h to (n - 1) i := by
  unfold distN
  rw [if_neg]
  rintro ⟨_, _, k⟩
  obtain ⟨j, hj, hp⟩ := anyUpto_iff.1 k
  simp only [Bool.and_eq_true, decide_eq_true_eq] at hp
  omega
theorem distN_end (h : List Acc) (to i : Nat) {n : Nat} (hn : 1 ≤ n) : distN h to n i h.length = dist h to n i := by
  obtain ⟨N, rfl⟩ : ∃ N, n = N + 1 := ⟨n - 1, by omega⟩
  unfold distN
  conv => rhs; unfold dist
  simp only [Nat.add_sub_cancel]
  have e : ∀ j, nearN h to (N + 1) j = decide ((N = 0 ∧ j = to) ∨ (0 < N ∧ j ≠ to ∧ dist h to N j = N)) := fun j => by
    unfold nearN
    simp only [Nat.add_sub_cancel]
    congr 1
    apply propext
    constructor
    · rintro (⟨h1, h2⟩ | ⟨h1, h2⟩)
      · exact .inl ⟨by omega, h2⟩
      · exact .inr ⟨by omega, h2⟩
    · rintro (⟨h1, h2⟩ | ⟨h1, h2⟩)
      · exact .inl ⟨by omega, h2⟩
      · exact .inr ⟨by omega, h2⟩
  simp only [e]
theorem distN_step {h : List Acc} {to n i j : Nat} (hi : to ≤ i) (hj : to ≤ j) (_hn : 1 ≤ n) : distN h to n i (j + 1) = if (edgeB h i j && nearN h to n j) = true ∧ distN h to n i j = 0 then n else distN h to n i j := by
  unfold distN
  have e : (anyUpto (j + 1) fun j' => decide (to ≤ j') && edgeB h i j' && nearN h to n j') = ((anyUpto j fun j' => decide (to ≤ j') && edgeB h i j' && nearN h to n j') || (edgeB h i j && nearN h to n j)) := by
    unfold anyUpto
    rw [List.range_succ, List.any_append]
    simp [hj]
  rw [e]
  generalize (anyUpto j fun j' => decide (to ≤ j') && edgeB h i j' && nearN h to n j') = a
  generalize (edgeB h i j && nearN h to n j) = b
  cases a <;> cases b <;> by_cases h0 : dist h to (n - 1) i = 0 <;> simp [h0, hi]
theorem dist_lo (h : List Acc) {to x : Nat} (hx : x < to) : ∀ n, dist h to n x = 0
  | 0 => rfl
  | n + 1 => by
    unfold dist
    rw [if_neg (fun k => by omega)]
    exact dist_lo h hx n
theorem dist_cases (h : List Acc) (to x : Nat) {n : Nat} (hn : 1 ≤ n) : dist h to n x = dist h to (n - 1) x ∨ (dist h to n x = n ∧ dist h to (n - 1) x = 0) := by
  rw [← distN_end h to x hn]
  unfold distN
  split
  · rename_i k
    exact .inr ⟨rfl, k.1⟩
  · exact .inl rfl
theorem distN_cases (h : List Acc) (to n i j : Nat) : distN h to n i j = dist h to (n - 1) i ∨ (distN h to n i j = n ∧ dist h to (n - 1) i = 0) := by
  unfold distN
  split
  · rename_i k
    exact .inr ⟨rfl, k.1⟩
  · exact .inl rfl
theorem outN_cases (h : List Acc) (to i j x : Nat) {n : Nat} (hn : 1 ≤ n) : outN h to n i j x = dist h to (n - 1) x ∨ (outN h to n i j x = n ∧ dist h to (n - 1) x = 0) := by
  unfold outN
  split
  · exact dist_cases h to x hn
  · split
    · rename_i e
      rw [e]
      exact distN_cases h to n i j
    · exact .inl rfl
theorem outN_near (h : List Acc) (to i j x : Nat) {n : Nat} (hn : 1 < n) : outN h to n i j x = n - 1 ↔ dist h to (n - 1) x = n - 1 := by
  rcases outN_cases h to i j x (show 1 ≤ n by omega) with e | ⟨e, e'⟩
  · rw [e]
  · rw [e, e']; omega
theorem outN_le (h : List Acc) (to i j x : Nat) {n : Nat} (hn : 1 ≤ n) : outN h to n i j x ≤ n := by
  rcases outN_cases h to i j x hn with e | ⟨e, _⟩
  · rw [e]
    have := (dist_spec h to (n - 1) x).2
    omega
  · omega
theorem outN_hit {h : List Acc} {to n i j : Nat} (hi : to ≤ i) (hj : to ≤ j) (hn : 1 ≤ n) (he : edgeB h i j = true) (hr : nearN h to n j = true) (h0 : outN h to n i j i = 0) (x : Nat) : outN h to n i (j + 1) x = if x = i then n else outN h to n i j x := by
  have h0' : distN h to n i j = 0 := by simpa [outN] using h0
  unfold outN
  by_cases e : x = i
  · subst e
    simp [distN_step hi hj hn, he, hr, h0']
  · simp [e]
theorem outN_miss {h : List Acc} {to n i j : Nat} (hi : to ≤ i) (hj : to ≤ j) (hn : 1 ≤ n) (hm : edgeB h i j = false ∨ nearN h to n j = false ∨ outN h to n i j i ≠ 0) (x : Nat) : outN h to n i (j + 1) x = outN h to n i j x := by
  unfold outN
  by_cases e : x = i
  · subst e
    simp only [Nat.lt_irrefl, if_false, if_true]
    rw [distN_step hi hj hn, if_neg]
    rintro ⟨k1, k2⟩
    simp only [Bool.and_eq_true] at k1
    rcases hm with hm | hm | hm
    · rw [hm] at k1; cases k1.1
    · rw [hm] at k1; cases k1.2
    · exact hm (by simpa [outN] using k2)
  · simp [e]
theorem outN_row {h : List Acc} {to n i : Nat} (hn : 1 ≤ n) (x : Nat) : outN h to n i h.length x = outN h to n (i + 1) to x := by
  unfold outN
  by_cases h1 : x < i
  · rw [if_pos h1, if_pos (by omega)]
  · by_cases h2 : x = i
    · subst h2
      rw [if_neg h1, if_pos rfl, if_pos (by omega), distN_end h to x hn]
    · rw [if_neg h1, if_neg h2, if_neg (by omega)]
      split
      · rename_i e
        rw [distN_start, e]
      · rfl
theorem outN_next {h : List Acc} {to n : Nat} (x : Nat) (hx : x < h.length) : outN h to n h.length to x = outN h to (n + 1) to to x := by
  unfold outN
  rw [if_pos hx]
  by_cases h1 : x < to
  · rw [if_pos h1, dist_lo h h1, dist_lo h h1]
  · rw [if_neg h1]
    split
    · rename_i e
      subst e
      rw [distN_start]
      rfl
    · rfl
theorem outN_first (h : List Acc) (to x : Nat) : outN h to 1 to to x = 0 := by
  unfold outN
  by_cases h1 : x < to
  · rw [if_pos h1, dist_lo h h1]
  · rw [if_neg h1]
    split
    · rw [distN_start]; rfl
    · rfl
theorem outN_last (h : List Acc) (to x : Nat) : outN h to (h.length + 1) to to x = far h to x := by
  unfold outN far
  by_cases h1 : x < to
  · rw [if_pos h1, dist_lo h h1, dist_lo h h1]
  · rw [if_neg h1]
    split
    · rename_i e
      rw [distN_start, e]; rfl
    · rfl
end Go.Proofs.Ytlfpkikmofgjfaa
