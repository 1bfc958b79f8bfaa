/- What Equivalent keeps, in plain words. -/
import Derived.Test.YtlfpkikmofgjfaaWalkQ
namespace Go.Proofs.Ytlfpkikmofgjfaa
open Go.RowKit

theorem beforeL_ge (hs : List Acc) (o : List Nat) (x : Int) : -1 ≤ beforeL hs o x := by
  rcases before_spec hs x o with ⟨h, _⟩ | ⟨_, s, _, _, h, _⟩ <;> omega
/-- The last writers, as the program keeps them. -/
def beforeF (hs : List Acc) (o : List Nat) : Int → Option Int := fun x => if beforeL hs o x < 0 then none else some (beforeL hs o x)
theorem beforeF_getD (hs : List Acc) (o : List Nat) (x : Int) : (beforeF hs o x).getD (-1) = beforeL hs o x := by
  have := beforeL_ge hs o x
  unfold beforeF
  split
  · show (-1 : Int) = _
    omega
  · rfl
theorem beforeF_nil (hs : List Acc) : beforeF hs [] = fun _ => none := by
  funext x
  simp [beforeF, beforeL]
theorem beforeF_some {hs : List Acc} {o : List Nat} {x : Int} : (beforeF hs o x).isSome = true ↔ ∃ i, i ∈ o ∧ x ∈ (tx hs i).writes := by
  unfold beforeF
  rcases before_spec hs x o with ⟨h, h2⟩ | ⟨a, s, b, h1, h, h3, h4⟩
  · rw [h]
    simp only [show (-1 : Int) < 0 by omega, if_true, Option.isSome_none, Bool.false_eq_true, false_iff]
    rintro ⟨i, hi, hx⟩
    exact h2 i hi hx
  · rw [h, if_neg (by omega)]
    simp only [Option.isSome_some, true_iff]
    exact ⟨s, by rw [h1]; simp, h3⟩
/-- The same after some of the items that i writes. -/
def midF (hs : List Acc) (o : List Nat) (i j : Nat) : Int → Option Int := fun x => if x ∈ (tx hs i).writes.take j then some (i : Int) else beforeF hs o x
theorem midF_zero (hs : List Acc) (o : List Nat) (i : Nat) : midF hs o i 0 = beforeF hs o := by
  funext x
  simp [midF]
theorem midF_succ {hs : List Acc} {o : List Nat} {i j : Nat} (hj : j < (tx hs i).writes.length) : midF hs o i (j + 1) = upd (midF hs o i j) ((tx hs i).writes.getD j 0) i := by
  funext x
  unfold midF upd
  rw [take_succ_getD hj]
  simp only [List.mem_append, List.mem_singleton]
  by_cases e : x = (tx hs i).writes.getD j 0
  · rw [if_pos (.inr e), if_pos e]
  · rw [if_neg e]
    by_cases h : x ∈ (tx hs i).writes.take j
    · rw [if_pos (.inl h), if_pos h]
    · rw [if_neg (by rintro (h' | h'); exact h h'; exact e h'), if_neg h]
theorem midF_all (hs : List Acc) (o : List Nat) (i : Nat) : midF hs o i (tx hs i).writes.length = beforeF hs (o ++ [i]) := by
  funext x
  unfold midF beforeF
  rw [List.take_length, beforeL_snoc]
  by_cases h : x ∈ (tx hs i).writes
  · rw [if_pos h, if_pos h, if_neg (by omega)]
  · rw [if_neg h, if_neg h]
theorem all_in {hs : List Acc} {l : List Nat} (hn : l.Nodup) (hd : ∀ x, x ∈ l → (tx hs x).done = true) (hl : l.length = committed hs) {i : Nat} (hi : (tx hs i).done = true) : i ∈ l := by
  apply Classical.byContradiction
  intro h
  have h1 := nodup_length_le (i :: l) (dones hs) (List.nodup_cons.2 ⟨h, hn⟩) (fun x hx => by
    rcases List.mem_cons.1 hx with rfl | hx
    · exact mem_dones.2 hi
    · exact mem_dones.2 (hd x hx))
  rw [dones_length] at h1
  simp at h1
  omega
theorem len_of_all {hs : List Acc} {l : List Nat} (hn : l.Nodup) (hd : ∀ x, x ∈ l → (tx hs x).done = true) (hall : ∀ i, i < hs.length → (tx hs i).done = true → i ∈ l) : l.length = committed hs := by
  rw [← dones_length]
  apply Nat.le_antisymm
  · exact nodup_length_le l _ hn (fun x hx => mem_dones.2 (hd x hx))
  · exact nodup_length_le _ l (dones_nodup hs) (fun x hx => hall x (tx_lt (mem_dones.1 hx)) (mem_dones.1 hx))
/-- An order whose members are committed transactions. -/
structure Fine (hs : List Acc) (o : List Int) : Prop where
  ok : ∀ x, x ∈ o → 0 ≤ x ∧ x < hs.length ∧ (tx hs x.toNat).done = true
  nodup : o.Nodup
theorem Fine.nats {hs : List Acc} {o : List Int} (f : Fine hs o) : (o.map Int.toNat).Nodup := by
  have h1 := f.ok
  have h2 := f.nodup
  clear f
  induction o with
  | nil => simp
  | cons a l ih =>
    rw [List.nodup_cons] at h2
    rw [List.map_cons, List.nodup_cons]
    refine ⟨fun hm => ?_, ih (fun x hx => h1 x (List.mem_cons_of_mem _ hx)) h2.2⟩
    obtain ⟨y, hy, e⟩ := List.mem_map.1 hm
    have ha := (h1 a List.mem_cons_self).1
    have hy0 := (h1 y (List.mem_cons_of_mem _ hy)).1
    have : a = y := by omega
    exact h2.1 (this ▸ hy)
theorem once_of {hs : List Acc} {o : List Int} (f : Fine hs o) (hall : ∀ i : Nat, i < hs.length → (tx hs i).done = true → (i : Int) ∈ o) : onceB hs o = true := by
  have hl := len_of_all f.nats (fun x hx => by obtain ⟨y, hy, rfl⟩ := List.mem_map.1 hx; exact (f.ok y hy).2.2) (fun i hi hd => List.mem_map.2 ⟨i, hall i hi hd, by simp⟩)
  rw [List.length_map] at hl
  unfold onceB
  simp only [hl, decide_true, Bool.true_and, Bool.and_eq_true, decide_eq_true_eq, List.all_eq_true]
  exact ⟨fun x hx => ⟨⟨(f.ok x hx).1, (f.ok x hx).2.1⟩, (f.ok x hx).2.2⟩, f.nodup⟩
theorem fine_of_once {hs : List Acc} {o : List Int} (h : onceB hs o = true) : Fine hs o ∧ ∀ i : Nat, (tx hs i).done = true → (i : Int) ∈ o := by
  unfold onceB at h
  simp only [Bool.and_eq_true, decide_eq_true_eq, List.all_eq_true] at h
  obtain ⟨⟨h1, h2⟩, h3⟩ := h
  have f : Fine hs o := ⟨fun x hx => ⟨(h2 x hx).1.1, (h2 x hx).1.2, (h2 x hx).2⟩, h3⟩
  refine ⟨f, fun i hi => ?_⟩
  have := all_in f.nats (fun x hx => by obtain ⟨y, hy, rfl⟩ := List.mem_map.1 hx; exact (f.ok y hy).2.2) (by rw [List.length_map]; exact h1) hi
  obtain ⟨y, hy, e⟩ := List.mem_map.1 this
  have := (f.ok y hy).1
  rw [show (i : Int) = y by omega]
  exact hy
/-- What equivB asks of the place p. -/
theorem equivB_iff' {hs : List Acc} {o : List Nat} : equivB hs o = true ↔ (∀ p, p < o.length → ∀ x, x ∈ (tx hs (o.getD p 0)).reads → beforeL hs (o.take p) x = sourceL hs (tx hs (o.getD p 0)).snap x) ∧ ∀ x, (beforeF hs o x).isSome = true → beforeL hs o x = sourceL hs 1073741824 x := by
  unfold equivB
  simp only [List.all_eq_true, List.mem_range, Bool.and_eq_true, decide_eq_true_eq]
  constructor
  · intro h
    refine ⟨fun p hp => (h p hp).1, fun x hx => ?_⟩
    obtain ⟨i, hi, hw⟩ := beforeF_some.1 hx
    obtain ⟨p, hp, e⟩ := List.getElem_of_mem hi
    refine (h p hp).2 x ?_
    simp only [List.getD, List.getElem?_eq_getElem hp, Option.getD_some, e]
    exact hw
  · rintro ⟨h1, h2⟩ p hp
    refine ⟨h1 p hp, fun x hx => h2 x (beforeF_some.2 ⟨_, ?_, hx⟩)⟩
    simp only [List.getD, List.getElem?_eq_getElem hp, Option.getD_some]
    exact List.getElem_mem hp
end Go.Proofs.Ytlfpkikmofgjfaa
