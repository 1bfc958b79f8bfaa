/- Breadth first search finds the shortest ways. Plain mathematics. -/
import Derived.Test.YtlfpkikmofgjfaaCommits
namespace Go.Proofs.Ytlfpkikmofgjfaa

/-- The level of the place a of the queue. -/
def lev (out : Nat → Nat) (q : List Nat) (a : Nat) : Nat := if a = 0 then 0 else out (q.getD a 0)
/-- A search: the places below a of the queue are done; of place a the transactions below i. -/
structure Bfs (h : List Acc) (to a i : Nat) (out : Nat → Nat) (q : List Nat) : Prop where
  head : q.getD 0 0 = to
  pos : 0 < q.length
  nodup : q.Nodup
  mem : ∀ x, x ∈ q ↔ x = to ∨ out x ≠ 0
  good : ∀ x, out x ≠ 0 → IsFar h to (out x) x
  done : ∀ p, p < a → ∀ x, to ≤ x → edgeB h x (q.getD p 0) = true → out x ≠ 0
  part : a < q.length → ∀ x, to ≤ x → x < i → edgeB h x (q.getD a 0) = true → out x ≠ 0
  sort : ∀ p r, 0 < p → p ≤ r → r < q.length → out (q.getD p 0) ≤ out (q.getD r 0)
  top : a < q.length → ∀ p, 0 < p → p < q.length → out (q.getD p 0) ≤ lev out q a + 1
theorem getD_at {q : List Nat} {p : Nat} (hp : p < q.length) : q.getD p 0 = q[p] := by simp [List.getD, List.getElem?_eq_getElem hp]
theorem Bfs.other {h : List Acc} {to a i : Nat} {out : Nat → Nat} {q : List Nat} (b : Bfs h to a i out q) {p : Nat} (h0 : 0 < p) (hp : p < q.length) : q.getD p 0 ≠ to := by
  intro e
  have h1 := b.head
  rw [getD_at b.pos] at h1
  rw [getD_at hp] at e
  have := (List.getElem_inj b.nodup).1 (h1.trans e.symm)
  omega
theorem Bfs.at_mem {q : List Nat} {x : Nat} (hx : x ∈ q) : ∃ p, p < q.length ∧ q.getD p 0 = x := by
  obtain ⟨p, hp, e⟩ := List.mem_iff_getElem.1 hx
  exact ⟨p, hp, by rw [getD_at hp]; exact e⟩
theorem Bfs.getD_mem {q : List Nat} {p : Nat} (hp : p < q.length) : q.getD p 0 ∈ q := by rw [getD_at hp]; exact List.getElem_mem hp
theorem Bfs.start (h : List Acc) (to : Nat) : Bfs h to 0 to (fun _ => 0) [to] := by
  refine ⟨rfl, by simp, by simp, fun x => by simp, fun x hx => absurd rfl hx, fun p hp => by omega, fun _ x h1 h2 => by omega, fun p r h1 h2 h3 => ?_, fun _ p h1 h2 => ?_⟩
  · simp
  · simp
theorem Bfs.skip {h : List Acc} {to a i : Nat} {out : Nat → Nat} {q : List Nat} (b : Bfs h to a i out q) (hs : edgeB h i (q.getD a 0) = true → out i ≠ 0) : Bfs h to a (i + 1) out q :=
  ⟨b.head, b.pos, b.nodup, b.mem, b.good, b.done, fun ha x h1 h2 e => by
    by_cases hx : x = i
    · subst hx; exact hs e
    · exact b.part ha x h1 (by omega) e, b.sort, b.top⟩
/-- Whoever has a shorter way than the current level is done. -/
theorem Bfs.before {h : List Acc} {to a i : Nat} {out : Nat → Nat} {q : List Nat} (b : Bfs h to a i out q) : ∀ n x, x ≠ to → IsFar h to n x → n < lev out q a → ∃ p, p < a ∧ q.getD p 0 = x := by
  have base : ∀ n x, x ≠ to → IsFar h to n x → n < lev out q a → out x ≠ 0 → ∃ p, p < a ∧ q.getD p 0 = x := by
    intro n x hx k hn h0
    obtain ⟨p, hp, e⟩ := Bfs.at_mem ((b.mem x).2 (.inr h0))
    refine ⟨p, ?_, e⟩
    apply Classical.byContradiction
    intro hpa
    have ha0 : 0 < a := by
      unfold lev at hn
      split at hn
      · omega
      · omega
    have h1 := b.sort a p ha0 (by omega) hp
    rw [e] at h1
    have h2 := (b.good x h0).uniq k
    unfold lev at hn
    rw [if_neg (by omega)] at hn
    omega
  intro n
  induction n with
  | zero => intro x _ k _; exact absurd k.walk (fun h => h)
  | succ n ih =>
    intro x hx k hn
    have ha0 : 0 < a := by
      unfold lev at hn
      split at hn
      · omega
      · omega
    refine base _ x hx k hn ?_
    cases n with
    | zero => exact b.done 0 ha0 x k.walk.ge (by rw [b.head]; exact k.one)
    | succ n =>
      obtain ⟨y, h1, h2, h3⟩ := k.back
      obtain ⟨p, hp, e⟩ := ih y h1 h3 (by omega)
      exact b.done p hp x k.walk.ge (by rw [e]; exact h2)
def updN (f : Nat → Nat) (i n : Nat) : Nat → Nat := fun x => if x = i then n else f x
theorem Bfs.isFar {h : List Acc} {to a i : Nat} {out : Nat → Nat} {q : List Nat} (b : Bfs h to a i out q) (ha : a < q.length) (hi : to ≤ i) (he : edgeB h i (q.getD a 0) = true) (h0 : out i = 0) : IsFar h to (lev out q a + 1) i := by
  have hw : Walk h to (lev out q a + 1) i := by
    unfold lev
    by_cases e : a = 0
    · subst e
      rw [if_pos rfl]
      rw [b.head] at he
      exact ⟨hi, he⟩
    · rw [if_neg e]
      have hne := b.other (by omega) ha
      have hj : out (q.getD a 0) ≠ 0 := by
        rcases (b.mem _).1 (Bfs.getD_mem ha) with k | k
        · exact absurd k hne
        · exact k
      exact (b.good _ hj).walk.step hi hne he
  refine ⟨hw, fun m hm => ?_⟩
  apply Classical.byContradiction
  intro hn
  obtain ⟨m', hm', k⟩ := far_of_walk m hm
  have hp := k.walk.pos
  have ha0 : 0 < a := by
    apply Classical.byContradiction
    intro h
    have : a = 0 := by omega
    subst this
    unfold lev at hn
    rw [if_pos rfl] at hn
    omega
  have hset : out i ≠ 0 := by
    obtain ⟨m2, rfl⟩ : ∃ m2, m' = m2 + 1 := ⟨m' - 1, by omega⟩
    cases m2 with
    | zero => exact b.done 0 ha0 i hi (by rw [b.head]; exact k.one)
    | succ m2 =>
      obtain ⟨y, h1, h2, h3⟩ := k.back
      obtain ⟨p, hp, e⟩ := b.before (m2 + 1) y h1 h3 (by omega)
      exact b.done p hp i hi (by rw [e]; exact h2)
  exact hset h0
theorem Bfs.set {h : List Acc} {to a i : Nat} {out : Nat → Nat} {q : List Nat} (b : Bfs h to a i out q) (ha : a < q.length) (hi : to ≤ i) (he : edgeB h i (q.getD a 0) = true) (h0 : out i = 0) :
    Bfs h to a (i + 1) (updN out i (lev out q a + 1)) (if i = to then q else q ++ [i]) := by
  have hf := b.isFar ha hi he h0
  have hnew : ∀ x, updN out i (lev out q a + 1) x ≠ 0 ↔ x = i ∨ out x ≠ 0 := fun x => by
    unfold updN
    split
    · rename_i e; simp [e]
    · rename_i e; simp [e]
  have hgood : ∀ x, updN out i (lev out q a + 1) x ≠ 0 → IsFar h to (updN out i (lev out q a + 1) x) x := fun x hx => by
    unfold updN at hx ⊢
    split
    · rename_i e; rw [e]; exact hf
    · rename_i e; rw [if_neg e] at hx; exact b.good x hx
  by_cases e : i = to
  · rw [if_pos e]
    have hsame : ∀ p, 0 < p → p < q.length → updN out i (lev out q a + 1) (q.getD p 0) = out (q.getD p 0) := fun p h1 h2 => by
      unfold updN
      rw [if_neg (by rw [e]; exact b.other h1 h2)]
    have hlev : lev (updN out i (lev out q a + 1)) q a = lev out q a := by
      unfold lev
      split
      · rfl
      · rename_i h
        have := hsame a (by omega) ha
        unfold lev at this
        rw [if_neg h] at this
        exact this
    refine ⟨b.head, b.pos, b.nodup, fun x => ?_, hgood, fun p hp x h1 h2 => ?_, fun _ x h1 h2 h3 => ?_, fun p r h1 h2 h3 => ?_, fun _ p h1 h2 => ?_⟩
    · rw [b.mem, hnew, e]
      constructor
      · rintro (h | h)
        · exact .inl h
        · exact .inr (.inr h)
      · rintro (h | h | h)
        · exact .inl h
        · exact .inl h
        · exact .inr h
    · exact (hnew x).2 (.inr (b.done p hp x h1 h2))
    · by_cases hx : x = i
      · exact (hnew x).2 (.inl hx)
      · exact (hnew x).2 (.inr (b.part ha x h1 (by omega) h3))
    · rw [hsame p h1 (by omega), hsame r (by omega) h3]
      exact b.sort p r h1 h2 h3
    · rw [hsame p h1 h2, hlev]
      exact b.top ha p h1 h2
  · rw [if_neg e]
    have hni : i ∉ q := fun hm => by
      rcases (b.mem i).1 hm with k | k
      · exact e k
      · exact k h0
    have hold : ∀ p, p < q.length → (q ++ [i]).getD p 0 = q.getD p 0 := fun p hp => by simp [List.getD, List.getElem?_append_left hp]
    have hsame : ∀ p, p < q.length → updN out i (lev out q a + 1) (q.getD p 0) = out (q.getD p 0) := fun p h2 => by
      unfold updN
      rw [if_neg]
      intro k
      exact hni (by rw [← k]; exact Bfs.getD_mem h2)
    have hlast : (q ++ [i]).getD q.length 0 = i := by simp [List.getD]
    have hlev : lev (updN out i (lev out q a + 1)) (q ++ [i]) a = lev out q a := by
      unfold lev
      split
      · rfl
      · rename_i h
        rw [hold a ha]
        have := hsame a ha
        unfold lev at this
        rw [if_neg h] at this
        exact this
    have hi' : updN out i (lev out q a + 1) i = lev out q a + 1 := by simp [updN]
    refine ⟨by rw [hold 0 b.pos]; exact b.head, by simp, ?_, fun x => ?_, hgood, fun p hp x h1 h2 => ?_, fun _ x h1 h2 h3 => ?_, fun p r h1 h2 h3 => ?_, fun _ p h1 h2 => ?_⟩
    · rw [List.nodup_append]
      exact ⟨b.nodup, by simp, fun x hx y hy => by simp at hy; subst hy; rintro rfl; exact hni hx⟩
    · rw [List.mem_append, b.mem, hnew]
      simp only [List.mem_singleton]
      constructor
      · rintro ((h | h) | h)
        · exact .inl h
        · exact .inr (.inr h)
        · exact .inr (.inl h)
      · rintro (h | h | h)
        · exact .inl (.inl h)
        · exact .inr h
        · exact .inl (.inr h)
    · rw [hold p (by omega)] at h2
      exact (hnew x).2 (.inr (b.done p hp x h1 h2))
    · rw [hold a ha] at h3
      by_cases hx : x = i
      · exact (hnew x).2 (.inl hx)
      · exact (hnew x).2 (.inr (b.part ha x h1 (by omega) h3))
    · simp at h3
      by_cases hr : r = q.length
      · subst hr
        rw [hlast, hi']
        by_cases hp : p = q.length
        · subst hp; rw [hlast, hi']; omega
        · rw [hold p (by omega), hsame p (by omega)]
          exact b.top ha p h1 (by omega)
      · rw [hold p (by omega), hold r (by omega), hsame p (by omega), hsame r (by omega)]
        exact b.sort p r h1 h2 (by omega)
    · simp at h2
      rw [hlev]
      by_cases hp : p = q.length
      · subst hp; rw [hlast, hi']; omega
      · rw [hold p (by omega), hsame p (by omega)]
        exact b.top ha p h1 (by omega)
theorem Bfs.next {h : List Acc} {to a i : Nat} {out : Nat → Nat} {q : List Nat} (b : Bfs h to a i out q) (ha : a < q.length) (hi : h.length ≤ i) : Bfs h to (a + 1) to out q := by
  refine ⟨b.head, b.pos, b.nodup, b.mem, b.good, fun p hp x h1 h2 => ?_, fun _ x h1 h2 => by omega, b.sort, fun ha' p h1 h2 => ?_⟩
  · by_cases e : p = a
    · subst e
      have := (edge_lt h2).1
      exact b.part ha x h1 (by omega) h2
    · exact b.done p (by omega) x h1 h2
  · have h3 := b.top ha p h1 h2
    have h4 : lev out q a ≤ lev out q (a + 1) := by
      unfold lev
      rw [if_neg (show ¬ a + 1 = 0 by omega)]
      split
      · omega
      · exact b.sort a (a + 1) (by omega) (by omega) ha'
    omega
theorem Bfs.end {h : List Acc} {to a i : Nat} {out : Nat → Nat} {q : List Nat} (b : Bfs h to a i out q) (ha : q.length ≤ a) : ∀ x, out x = far h to x := by
  have key : ∀ n x, Walk h to n x → out x ≠ 0 := by
    intro n
    induction n with
    | zero => intro x k; exact absurd k (fun h => h)
    | succ n ih =>
      intro x k
      match n, k with
      | 0, k => exact b.done 0 (by have := b.pos; omega) x k.1 (by rw [b.head]; exact k.2)
      | n + 1, k =>
        obtain ⟨k1, y, k2, k3, k4⟩ := k
        obtain ⟨p, hp, e⟩ := Bfs.at_mem ((b.mem y).2 (.inr (ih y k4)))
        exact b.done p (by omega) x k1 (by rw [e]; exact k3)
  intro x
  by_cases h0 : out x = 0
  · rw [h0]
    exact (far_zero.2 fun n k => key n x k h0).symm
  · exact ((far_iff (by omega)).2 (b.good x h0)).symm
/-- The queue stays short. -/
theorem Bfs.short {h : List Acc} {to a i : Nat} {out : Nat → Nat} {q : List Nat} (b : Bfs h to a i out q) (ht : to < h.length) : q.length ≤ h.length := by
  have := nodup_length_le q (List.range h.length) b.nodup (fun x hx => by
    rcases (b.mem x).1 hx with k | k
    · rw [k]; exact List.mem_range.2 ht
    · exact List.mem_range.2 (b.good x k).walk.lt)
  simpa using this
theorem Bfs.le {h : List Acc} {to a i : Nat} {out : Nat → Nat} {q : List Nat} (b : Bfs h to a i out q) (x : Nat) : out x ≤ h.length := by
  by_cases h0 : out x = 0
  · omega
  · exact (b.good x h0).le
end Go.Proofs.Ytlfpkikmofgjfaa
