/- The map of the numbers of predecessors that order keeps. -/
import Derived.Test.YtlfpkikmofgjfaaWalkJ
import Derived.Test.YtlfpkikmofgjfaaIntRange
namespace Go.Proofs.Ytlfpkikmofgjfaa
open Go.RowKit

/-- How many predecessors of j were not taken. -/
def edgeN (hs : List Acc) (t : List Nat) (j : Nat) : Nat := (List.range hs.length).countP fun i => edgeB hs i j && !decide (i ∈ t)
def waitsF (hs : List Acc) (t : List Nat) : Int → Option Int := fun x => if 0 ≤ x ∧ (tx hs x.toNat).done = true ∧ x.toNat ∉ t then some (edgeN hs t x.toNat) else none
def waitsTo (hs : List Acc) (k : Nat) : Int → Option Int := fun x => if x < k then waitsF hs [] x else none
def cntTo (hs : List Acc) (k m : Nat) : Nat := (List.range m).countP fun i => edgeB hs i k
theorem cntTo_succ (hs : List Acc) (k m : Nat) : cntTo hs k (m + 1) = cntTo hs k m + (if edgeB hs m k = true then 1 else 0) := by
  unfold cntTo
  rw [List.range_succ, List.countP_append]
  simp [List.countP_cons]
theorem cntTo_le (hs : List Acc) (k m : Nat) : cntTo hs k m ≤ m := by
  have := List.countP_le_length (p := fun i => edgeB hs i k) (l := List.range m)
  simpa [cntTo] using this
theorem cntTo_all (hs : List Acc) (k : Nat) : cntTo hs k hs.length = edgeN hs [] k := by simp [cntTo, edgeN]
theorem edgeN_le (hs : List Acc) (t : List Nat) (j : Nat) : edgeN hs t j ≤ hs.length := by
  have := List.countP_le_length (p := fun i => edgeB hs i j && !decide (i ∈ t)) (l := List.range hs.length)
  simpa [edgeN] using this
theorem upd_upd (f : Int → Option Int) (x a b : Int) : upd (upd f x a) x b = upd f x b := by
  funext z
  unfold upd
  split <;> rfl
theorem upd_at (f : Int → Option Int) (x a : Int) : upd f x a x = some a := by simp [upd]
/-- How many committed transactions are among the first. -/
def doneTo (hs : List Acc) (k : Nat) : Nat := (List.range k).countP fun i => (tx hs i).done
theorem doneTo_succ (hs : List Acc) (k : Nat) : doneTo hs (k + 1) = doneTo hs k + (if (tx hs k).done = true then 1 else 0) := by
  unfold doneTo
  rw [List.range_succ, List.countP_append]
  simp [List.countP_cons]
theorem doneTo_le (hs : List Acc) (k : Nat) : doneTo hs k ≤ k := by
  have := List.countP_le_length (p := fun i => (tx hs i).done) (l := List.range k)
  simpa [doneTo] using this
theorem doneTo_all (hs : List Acc) : doneTo hs hs.length = committed hs := rfl
theorem waitsTo_none (hs : List Acc) : waitsTo hs 0 = fun _ => none := by
  funext x
  unfold waitsTo waitsF
  split
  · rw [if_neg (by omega)]
  · rfl
theorem waitsTo_at (hs : List Acc) (k : Nat) : waitsTo hs k k = none := by simp [waitsTo]
theorem waitsTo_skip {hs : List Acc} {k : Nat} (h : (tx hs k).done = false) : waitsTo hs (k + 1) = waitsTo hs k := by
  funext x
  unfold waitsTo
  by_cases e : x < k
  · rw [if_pos e, if_pos (by omega)]
  · rw [if_neg e]
    split
    · obtain rfl : x = k := by omega
      simp [waitsF, h]
    · rfl
theorem waitsTo_step {hs : List Acc} {k : Nat} (h : (tx hs k).done = true) : waitsTo hs (k + 1) = upd (waitsTo hs k) k (cntTo hs k hs.length) := by
  funext x
  unfold waitsTo upd
  by_cases e : x < k
  · rw [if_pos (by omega), if_neg (by omega)]
    simp only [if_pos e]
  · by_cases e2 : x = k
    · subst e2
      rw [if_pos (by omega), if_pos rfl, cntTo_all]
      simp [waitsF, h]
    · rw [if_neg e2, if_neg (by omega)]
      simp only [if_neg e]
theorem waitsTo_all (hs : List Acc) : waitsTo hs hs.length = waitsF hs [] := by
  funext x
  unfold waitsTo
  split
  · rfl
  · unfold waitsF
    rw [if_neg]
    rintro ⟨h0, h1, _⟩
    have := tx_lt h1
    omega
theorem waitsF_zero {hs : List Acc} {t : List Nat} {j : Nat} : waitsF hs t j = some 0 ↔ freeB hs t j = true := by
  unfold waitsF freeB edgeN
  by_cases h : (tx hs j).done = true ∧ j ∉ t
  · rw [if_pos ⟨by omega, by simpa using h⟩]
    simp only [h.1, h.2, decide_false, Bool.not_false, Bool.and_self, Bool.true_and, Bool.not_eq_true', anyUpto_not, Option.some.injEq, Int.toNat_natCast]
    rw [show ((List.countP (fun i => edgeB hs i j && !decide (i ∈ t)) (List.range hs.length) : Nat) : Int) = 0 ↔ List.countP (fun i => edgeB hs i j && !decide (i ∈ t)) (List.range hs.length) = 0 by omega, List.countP_eq_zero]
    simp
  · rw [if_neg (by simpa using h)]
    simp only [reduceCtorEq, false_iff, Bool.not_eq_true]
    by_cases hd : (tx hs j).done = true
    · have : j ∈ t := by
        by_cases ht : j ∈ t
        · exact ht
        · exact absurd ⟨hd, ht⟩ h
      simp [this]
    · simp [hd]
theorem waitsF_some {hs : List Acc} {t : List Nat} {x c : Int} (h : waitsF hs t x = some c) : ∃ j : Nat, x = j ∧ j < hs.length ∧ (tx hs j).done = true ∧ j ∉ t ∧ c = edgeN hs t j := by
  unfold waitsF at h
  split at h
  · rename_i hc
    obtain ⟨h0, h1, h2⟩ := hc
    injection h with h
    exact ⟨x.toNat, by omega, tx_lt h1, h1, h2, h.symm⟩
  · cases h
theorem edgeN_take {hs : List Acc} {t : List Nat} {k j : Nat} (hk : k ∉ t) (hl : k < hs.length) : edgeN hs t j = edgeN hs (t ++ [k]) j + (if edgeB hs k j = true then 1 else 0) := by
  unfold edgeN
  have key : ∀ n, (List.range n).countP (fun i => edgeB hs i j && !decide (i ∈ t)) = (List.range n).countP (fun i => edgeB hs i j && !decide (i ∈ t ++ [k])) + (if k < n ∧ edgeB hs k j = true then 1 else 0) := by
    intro n
    induction n with
    | zero => simp
    | succ n ih =>
      rw [List.range_succ, List.countP_append, List.countP_append, ih]
      simp only [List.countP_cons, List.countP_nil, Nat.zero_add, List.mem_append, List.mem_singleton]
      by_cases e : n = k
      · subst e
        by_cases he : edgeB hs n j = true
        · simp [hk, he]
        · simp [he]
      · have : (k < n + 1) ↔ k < n := by omega
        simp only [e, or_false, this]
        omega
  rw [key]
  simp [hl]
/-- The map while the numbers of a taken one's successors are lowered. -/
def mixF (hs : List Acc) (t : List Nat) (k : Nat) (left : Int → Bool) : Int → Option Int := fun x => if left x = true then cut (waitsF hs t) k x else waitsF hs (t ++ [k]) x
theorem waitsF_snoc {hs : List Acc} {t : List Nat} {k : Nat} {x : Int} (h : cut (waitsF hs t) k x = none) : waitsF hs (t ++ [k]) x = none := by
  unfold cut at h
  unfold waitsF at *
  rw [if_neg]
  rintro ⟨h0, h1, h2⟩
  rw [List.mem_append, List.mem_singleton, not_or] at h2
  rw [if_neg (by omega), if_pos ⟨h0, h1, h2.1⟩] at h
  cases h
theorem mixF_start (hs : List Acc) (t : List Nat) (k : Nat) : mixF hs t k (fun x => (cut (waitsF hs t) k x).isSome) = cut (waitsF hs t) k := by
  funext x
  unfold mixF
  cases h : cut (waitsF hs t) k x with
  | none => simp [waitsF_snoc h]
  | some c => simp [h]
theorem mixF_end {hs : List Acc} {t : List Nat} {k : Nat} {left : Int → Bool} {x : Int} (h : left x = false) : waitsF hs (t ++ [k]) x = mixF hs t k left x := by
  unfold mixF
  rw [h]
  simp
theorem mixF_at {hs : List Acc} {t : List Nat} {k : Nat} {left : Int → Bool} {x c : Int} (hl : left x = true) (h : mixF hs t k left x = some c) : ∃ j : Nat, x = j ∧ j < hs.length ∧ c = edgeN hs t j ∧ waitsF hs (t ++ [k]) x = some (edgeN hs (t ++ [k]) j : Int) := by
  unfold mixF at h
  rw [hl, if_pos rfl] at h
  unfold cut at h
  split at h
  · cases h
  rename_i hne
  obtain ⟨j, rfl, hj, hd, ht, rfl⟩ := waitsF_some h
  refine ⟨j, rfl, hj, rfl, ?_⟩
  unfold waitsF
  have h3 : (j : Int).toNat ∉ t ++ [k] := by
    rw [List.mem_append, List.mem_singleton, not_or]
    exact ⟨by simpa using ht, by rw [Int.toNat_natCast]; omega⟩
  rw [if_pos ⟨by omega, by simpa using hd, h3⟩]
  rfl
theorem mixF_skip {hs : List Acc} {t : List Nat} {k j : Nat} {left : Int → Bool} (hk : k ∉ t) (hl : k < hs.length) (_hlx : left j = true) (h : mixF hs t k left j = some (edgeN hs t j : Int)) (he : edgeB hs k j = false) (hw : waitsF hs (t ++ [k]) j = some (edgeN hs (t ++ [k]) j : Int)) :
    mixF hs t k (fun z => left z && !decide (z = (j : Int))) = mixF hs t k left := by
  have := edgeN_take (j := j) hk hl
  rw [he] at this
  funext z
  by_cases e : z = (j : Int)
  · subst e
    rw [h]
    unfold mixF
    simp only [decide_true, Bool.not_true, Bool.and_false, Bool.false_eq_true, if_false]
    rw [hw]
    simp at this
    rw [this]
  · unfold mixF
    simp [e]
theorem mixF_step {hs : List Acc} {t : List Nat} {k j : Nat} {left : Int → Bool} (hk : k ∉ t) (hl : k < hs.length) (_hlx : left j = true) (he : edgeB hs k j = true) (hw : waitsF hs (t ++ [k]) j = some (edgeN hs (t ++ [k]) j : Int)) :
    mixF hs t k (fun z => left z && !decide (z = (j : Int))) = upd (mixF hs t k left) j ((edgeN hs t j : Int) - 1) := by
  have := edgeN_take (j := j) hk hl
  rw [he, if_pos rfl] at this
  funext z
  unfold upd
  by_cases e : z = (j : Int)
  · subst e
    unfold mixF
    simp only [decide_true, Bool.not_true, Bool.and_false, Bool.false_eq_true, if_false, if_true]
    rw [hw, this]
    congr 1
    omega
  · unfold mixF
    simp [e]
/-- What the search for the least one has found. -/
structure Found (hs : List Acc) (t : List Nat) (left : Int → Bool) (y : Int) : Prop where
  val : y = -1 ∨ ∃ j : Nat, y = j ∧ freeB hs t j = true
  least : ∀ j : Nat, freeB hs t j = true → left j = false → 0 ≤ y ∧ y ≤ j
theorem Found.start (hs : List Acc) (t : List Nat) : Found hs t (fun x => (waitsF hs t x).isSome) (-1) :=
  ⟨.inl rfl, fun j hf hl => by rw [waitsF_zero.2 hf] at hl; cases hl⟩
theorem Found.skip {hs : List Acc} {t : List Nat} {left : Int → Bool} {y x c : Int} (h : Found hs t left y) (hx : waitsF hs t x = some c) (hno : c ≠ 0 ∨ (0 ≤ y ∧ y ≤ x)) : Found hs t (fun z => left z && !decide (z = x)) y :=
  ⟨h.val, fun j hf hl => by
    by_cases e : (j : Int) = x
    · subst e
      rcases hno with hno | hno
      · rw [waitsF_zero.2 hf] at hx
        injection hx with hx
        exact absurd hx.symm hno
      · exact hno
    · exact h.least j hf (by simpa [e] using hl)⟩
theorem Found.take {hs : List Acc} {t : List Nat} {left : Int → Bool} {y x : Int} (h : Found hs t left y) (hx : waitsF hs t x = some 0) (hy : y < 0 ∨ x < y) : Found hs t (fun z => left z && !decide (z = x)) x := by
  obtain ⟨j, rfl, _⟩ := waitsF_some hx
  refine ⟨.inr ⟨j, rfl, waitsF_zero.1 hx⟩, fun i hf hl => ?_⟩
  by_cases e : (i : Int) = j
  · omega
  · have := h.least i hf (by simpa [e] using hl)
    omega
theorem Found.next {hs : List Acc} {t : List Nat} {left : Int → Bool} {y : Int} (h : Found hs t left y) (hl : ∀ j : Nat, j < hs.length → left j = false) : (y = -1 ∧ nextL hs t = none) ∨ ∃ j : Nat, y = j ∧ nextL hs t = some j := by
  rcases h.val with rfl | ⟨j, rfl, hf⟩
  · refine .inl ⟨rfl, ?_⟩
    unfold nextL
    rw [List.find?_eq_none]
    intro i hi hf
    have := h.least i hf (hl i (by simpa using hi))
    omega
  · refine .inr ⟨j, rfl, ?_⟩
    have hj : j < hs.length := by
      unfold freeB at hf
      simp only [Bool.and_eq_true] at hf
      exact tx_lt hf.1.1
    unfold nextL
    rw [List.find?_range_eq_some]
    refine ⟨hf, by simpa using hj, fun i hi => ?_⟩
    cases hq : freeB hs t i with
    | false => rfl
    | true =>
      have := h.least i hq (hl i (by omega))
      omega
end Go.Proofs.Ytlfpkikmofgjfaa
