/- Ways back to a transaction, shortest cycles. Plain mathematics. -/
import Derived.Test.YtlfpkikmofgjfaaAdmit
namespace Go.Proofs.Ytlfpkikmofgjfaa

/-- There is a way of n edges from i to a place, over transactions from it on, that passes it at its end alone. -/
def Walk (h : List Acc) (to : Nat) : Nat → Nat → Prop
  | 0, _ => False
  | 1, i => to ≤ i ∧ edgeB h i to = true
  | n + 2, i => to ≤ i ∧ ∃ j, j ≠ to ∧ edgeB h i j = true ∧ Walk h to (n + 1) j
theorem Walk.ge {h : List Acc} {to n i : Nat} (k : Walk h to n i) : to ≤ i := by
  match n, k with
  | 1, k => exact k.1
  | _ + 2, k => exact k.1
theorem edge_lt {h : List Acc} {i j : Nat} (e : edgeB h i j = true) : i < h.length ∧ j < h.length := ⟨tx_lt (edge_iff.1 e).di, tx_lt (edge_iff.1 e).dj⟩
theorem Walk.lt {h : List Acc} {to n i : Nat} (k : Walk h to n i) : i < h.length := by
  match n, k with
  | 1, k => exact (edge_lt k.2).1
  | _ + 2, k => obtain ⟨_, j, _, e, _⟩ := k; exact (edge_lt e).1
theorem Walk.pos {h : List Acc} {to n i : Nat} (k : Walk h to n i) : 0 < n := by
  match n, k with
  | 1, _ => omega
  | _ + 2, _ => omega
theorem Walk.step {h : List Acc} {to n i j : Nat} (hi : to ≤ i) (hj : j ≠ to) (e : edgeB h i j = true) (k : Walk h to n j) : Walk h to (n + 1) i := by
  match n, k with
  | n + 1, k => exact ⟨hi, j, hj, e, k⟩
/-- A shortest way has n edges. -/
structure IsFar (h : List Acc) (to n i : Nat) : Prop where
  walk : Walk h to n i
  least : ∀ m, Walk h to m i → n ≤ m
theorem IsFar.uniq {h : List Acc} {to n m i : Nat} (a : IsFar h to n i) (b : IsFar h to m i) : n = m := Nat.le_antisymm (a.least m b.walk) (b.least n a.walk)
theorem far_of_walk {h : List Acc} {to i : Nat} : ∀ n, Walk h to n i → ∃ m, m ≤ n ∧ IsFar h to m i := by
  intro n
  induction n using Nat.strongRecOn with
  | ind n ih =>
    intro k
    by_cases hc : ∃ m, m < n ∧ Walk h to m i
    · obtain ⟨m, hm, km⟩ := hc
      obtain ⟨m', h1, h2⟩ := ih m hm km
      exact ⟨m', by omega, h2⟩
    · exact ⟨n, Nat.le_refl _, k, fun m km => by
        apply Classical.byContradiction
        intro hn
        exact hc ⟨m, by omega, km⟩⟩
theorem IsFar.back {h : List Acc} {to n i : Nat} (k : IsFar h to (n + 2) i) : ∃ j, j ≠ to ∧ edgeB h i j = true ∧ IsFar h to (n + 1) j := by
  obtain ⟨h1, j, h2, h3, h4⟩ := k.walk
  refine ⟨j, h2, h3, h4, fun m hm => ?_⟩
  have := k.least (m + 1) (hm.step h1 h2 h3)
  omega
theorem IsFar.one {h : List Acc} {to i : Nat} (k : IsFar h to 1 i) : edgeB h i to = true := k.walk.2
/-- A chain of a shortest way: its members have the ways n, n-1, .., 1. -/
theorem IsFar.chain {h : List Acc} {to : Nat} : ∀ n i, IsFar h to (n + 1) i → ∃ l : List Nat, l.length = n + 1 ∧ l.Nodup ∧ ∀ x, x ∈ l → ∃ m, m ≤ n + 1 ∧ IsFar h to m x
  | 0, i, k => ⟨[i], rfl, by simp, fun x hx => by simp at hx; subst hx; exact ⟨1, by omega, k⟩⟩
  | n + 1, i, k => by
    obtain ⟨j, _, _, kj⟩ := k.back
    obtain ⟨l, h1, h2, h3⟩ := IsFar.chain n j kj
    refine ⟨i :: l, by simp [h1], List.nodup_cons.2 ⟨fun hi => ?_, h2⟩, fun x hx => ?_⟩
    · obtain ⟨m, hm, km⟩ := h3 i hi
      have := km.uniq k
      omega
    · rcases List.mem_cons.1 hx with rfl | hx
      · exact ⟨n + 2, by omega, k⟩
      · obtain ⟨m, hm, km⟩ := h3 x hx
        exact ⟨m, by omega, km⟩
theorem IsFar.le {h : List Acc} {to n i : Nat} (k : IsFar h to n i) : n ≤ h.length := by
  match n, k with
  | 0, k => exact absurd k.walk (fun h => h)
  | n + 1, k =>
    obtain ⟨l, h1, h2, h3⟩ := IsFar.chain n i k
    have := nodup_length_le l (List.range h.length) h2 (fun x hx => by
      obtain ⟨m, _, km⟩ := h3 x hx
      exact List.mem_range.2 km.walk.lt)
    simp at this
    omega
/-- The shortest ways of at most n edges; 0: there is none. -/
def dist (h : List Acc) (to : Nat) : Nat → Nat → Nat
  | 0, _ => 0
  | n + 1, i => if dist h to n i = 0 ∧ to ≤ i ∧ (anyUpto h.length fun j => decide (to ≤ j) && edgeB h i j && decide ((n = 0 ∧ j = to) ∨ (0 < n ∧ j ≠ to ∧ dist h to n j = n))) = true then n + 1 else dist h to n i
theorem dist_spec (h : List Acc) (to : Nat) : ∀ n i, (∀ m, 0 < m → m ≤ n → (dist h to n i = m ↔ IsFar h to m i)) ∧ dist h to n i ≤ n
  | 0, i => ⟨fun m h1 h2 => by omega, Nat.le_refl _⟩
  | n + 1, i => by
    have ih := dist_spec h to n
    obtain ⟨ih1, ih2⟩ := ih i
    have key : (dist h to n i = 0 ∧ to ≤ i ∧ (anyUpto h.length fun j => decide (to ≤ j) && edgeB h i j && decide ((n = 0 ∧ j = to) ∨ (0 < n ∧ j ≠ to ∧ dist h to n j = n))) = true) ↔ IsFar h to (n + 1) i := by
      rw [anyUpto_iff]
      constructor
      · rintro ⟨h0, h1, j, h2, h3⟩
        simp only [Bool.and_eq_true, decide_eq_true_eq] at h3
        obtain ⟨⟨h4, h5⟩, h6⟩ := h3
        have hw : Walk h to (n + 1) i := by
          rcases h6 with ⟨rfl, rfl⟩ | ⟨h6, h7, h8⟩
          · exact ⟨h1, h5⟩
          · exact (((ih j).1 n h6 (Nat.le_refl _)).1 h8).walk.step h1 h7 h5
        refine ⟨hw, fun m hm => ?_⟩
        apply Classical.byContradiction
        intro hn
        obtain ⟨m', hm', k⟩ := far_of_walk m hm
        have hp := k.walk.pos
        have := (ih1 m' hp (by omega)).2 k
        omega
      · intro k
        refine ⟨?_, k.walk.ge, ?_⟩
        · by_cases h0 : dist h to n i = 0
          · exact h0
          · have := (ih1 _ (by omega) ih2).1 rfl
            have := this.uniq k
            omega
        · cases n with
          | zero => exact ⟨to, (edge_lt k.one).2, by simp [k.one]⟩
          | succ n =>
            obtain ⟨j, h1, h2, h3⟩ := k.back
            refine ⟨j, h3.walk.lt, ?_⟩
            simp only [Bool.and_eq_true, decide_eq_true_eq]
            exact ⟨⟨h3.walk.ge, h2⟩, .inr ⟨by omega, h1, ((ih j).1 (n + 1) (by omega) (Nat.le_refl _)).2 h3⟩⟩
    unfold dist
    by_cases hc : IsFar h to (n + 1) i
    · rw [if_pos (key.2 hc)]
      refine ⟨fun m h1 h2 => ⟨fun e => by rw [← e]; exact hc, fun k => hc.uniq k⟩, Nat.le_refl _⟩
    · rw [if_neg (fun h => hc (key.1 h))]
      refine ⟨fun m h1 h2 => ?_, by omega⟩
      by_cases e : m = n + 1
      · subst e
        exact ⟨fun e => by omega, fun k => absurd k hc⟩
      · exact ih1 m h1 (by omega)
/-- The length of a shortest way; 0: there is none. -/
def far (h : List Acc) (to i : Nat) : Nat := dist h to h.length i
theorem far_iff {h : List Acc} {to i m : Nat} (hm : 0 < m) : far h to i = m ↔ IsFar h to m i := by
  by_cases hl : m ≤ h.length
  · exact (dist_spec h to h.length i).1 m hm hl
  · constructor
    · intro e
      have := (dist_spec h to h.length i).2
      unfold far at e
      omega
    · intro k
      have := k.le
      omega
theorem far_zero {h : List Acc} {to i : Nat} : far h to i = 0 ↔ ∀ n, ¬ Walk h to n i := by
  constructor
  · intro e n k
    obtain ⟨m, _, km⟩ := far_of_walk n k
    have := (far_iff km.walk.pos).2 km
    have := km.walk.pos
    omega
  · intro hn
    apply Classical.byContradiction
    intro h0
    exact hn _ ((far_iff (by omega)).1 rfl).walk
/-- The least transaction behind another one that has a way of n edges to the first one. -/
def stepL (h : List Acc) (from' at' n : Nat) : Nat := ((List.range h.length).find? fun j => decide (from' < j) && edgeB h at' j && decide (far h from' j = n)).getD from'
def pathGo (h : List Acc) (from' : Nat) : Nat → Nat → List Nat
  | _, 0 => []
  | at', n + 1 => stepL h from' at' (n + 1) :: pathGo h from' (stepL h from' at' (n + 1)) n
/-- The first of the least ways back: its place and its length; the length 0: there is none. -/
def bestGo (h : List Acc) : Nat → Nat × Nat
  | 0 => (0, 0)
  | s + 1 => if 0 < far h s s ∧ ((bestGo h s).2 = 0 ∨ far h s s < (bestGo h s).2) then (s, far h s s) else bestGo h s
def bestL (h : List Acc) : Nat × Nat := bestGo h h.length
def cycleL (h : List Acc) : List Nat := if checkL h = 0 then (if (bestL h).2 = 0 then [] else (bestL h).1 :: pathGo h (bestL h).1 (bestL h).1 ((bestL h).2 - 1)) else []
theorem bestGo_spec (h : List Acc) : ∀ n, ((bestGo h n).2 = 0 ∧ ∀ s, s < n → far h s s = 0) ∨ (0 < (bestGo h n).2 ∧ far h (bestGo h n).1 (bestGo h n).1 = (bestGo h n).2)
  | 0 => .inl ⟨rfl, fun s hs => by omega⟩
  | n + 1 => by
    have ih := bestGo_spec h n
    unfold bestGo
    by_cases hc : 0 < far h n n ∧ ((bestGo h n).2 = 0 ∨ far h n n < (bestGo h n).2)
    · rw [if_pos hc]
      exact .inr ⟨hc.1, rfl⟩
    · rw [if_neg hc]
      rcases ih with ⟨h1, h2⟩ | h
      · refine .inl ⟨h1, fun s hs => ?_⟩
        by_cases e : s = n
        · subst e
          apply Classical.byContradiction
          intro h0
          exact hc ⟨by omega, .inl h1⟩
        · exact h2 s (by omega)
      · exact .inr h
theorem stepL_spec {h : List Acc} {f a n : Nat} (k : IsFar h f (n + 2) a) : ∃ j, stepL h f a (n + 1) = j ∧ f < j ∧ edgeB h a j = true ∧ IsFar h f (n + 1) j := by
  obtain ⟨j, h1, h2, h3⟩ := k.back
  unfold stepL
  cases e : (List.range h.length).find? fun j => decide (f < j) && edgeB h a j && decide (far h f j = n + 1) with
  | none =>
    have := List.find?_eq_none.1 e j (List.mem_range.2 h3.walk.lt)
    have hge := h3.walk.ge
    have hfar := (far_iff (by omega)).2 h3
    simp only [h2, hfar, decide_true, Bool.and_true, decide_eq_true_eq] at this
    omega
  | some j' =>
    have := List.find?_some e
    simp only [Bool.and_eq_true, decide_eq_true_eq] at this
    exact ⟨j', rfl, this.1.1, this.1.2, (far_iff (by omega)).1 this.2⟩
/-- A way back: each member has an edge to the next one, the last one to the first place; all are greater than it and different. -/
theorem pathGo_spec {h : List Acc} {f : Nat} : ∀ (n a : Nat), IsFar h f (n + 1) a → (pathGo h f a n).length = n ∧ (∀ x, x ∈ pathGo h f a n → f < x ∧ ∃ m, m ≤ n ∧ IsFar h f m x) ∧ (pathGo h f a n).Nodup ∧
    ∀ p, p < n + 1 → edgeB h ((a :: pathGo h f a n).getD p 0) ((pathGo h f a n ++ [f]).getD p 0) = true
  | 0, a, k => by
    refine ⟨rfl, fun x hx => (by cases hx), List.nodup_nil, fun p hp => ?_⟩
    have : p = 0 := by omega
    subst this
    exact k.one
  | n + 1, a, k => by
    obtain ⟨j, e, h1, h2, h3⟩ := stepL_spec k
    obtain ⟨g1, g2, g3, g4⟩ := pathGo_spec n j h3
    unfold pathGo
    rw [e]
    refine ⟨by simp [g1], fun x hx => ?_, List.nodup_cons.2 ⟨fun hj => ?_, g3⟩, fun p hp => ?_⟩
    · rcases List.mem_cons.1 hx with rfl | hx
      · exact ⟨h1, n + 1, Nat.le_refl _, h3⟩
      · obtain ⟨a1, m, a2, a3⟩ := g2 x hx
        exact ⟨a1, m, by omega, a3⟩
    · obtain ⟨_, m, hm, km⟩ := g2 j hj
      have := km.uniq h3
      omega
    · cases p with
      | zero => simpa using h2
      | succ p => simpa using g4 p (by omega)
/-- P26.4: what Cycle returns. -/
theorem cycleL_spec {h : List Acc} (hne : cycleL h ≠ []) : ∃ (f : Nat) (l : List Nat), cycleL h = f :: l ∧ 0 < l.length ∧ (f :: l).Nodup ∧ (∀ x, x ∈ l → f < x) ∧ ∀ p, p < l.length + 1 → edgeB h ((f :: l).getD p 0) ((l ++ [f]).getD p 0) = true := by
  unfold cycleL at hne ⊢
  by_cases hv : checkL h = 0
  · rw [if_pos hv] at hne ⊢
    by_cases h0 : (bestL h).2 = 0
    · rw [if_pos h0] at hne; exact absurd rfl hne
    · rw [if_neg h0]
      rcases bestGo_spec h h.length with ⟨h1, _⟩ | ⟨_, h2⟩
      · exact absurd h1 h0
      · have hk : IsFar h (bestL h).1 (bestL h).2 (bestL h).1 := (far_iff (by omega)).1 h2
        obtain ⟨n, hn⟩ : ∃ n, (bestL h).2 = n + 1 := ⟨(bestL h).2 - 1, by omega⟩
        rw [hn] at hk ⊢
        have h1 : 0 < n := by
          cases n with
          | zero => exact absurd rfl (edge_iff.1 hk.one).ne
          | succ n => omega
        obtain ⟨g1, g2, g3, g4⟩ := pathGo_spec n _ hk
        rw [Nat.add_sub_cancel]
        refine ⟨_, _, rfl, by omega, List.nodup_cons.2 ⟨fun hm => ?_, g3⟩, fun x hx => (g2 x hx).1, fun p hp => g4 p (by omega)⟩
        have := (g2 _ hm).1
        omega
  · rw [if_neg hv] at hne; exact absurd rfl hne
theorem cycleL_nil {h : List Acc} (hv : Valid h) : cycleL h = [] ↔ ∀ s n, ¬ Walk h s n s := by
  unfold cycleL
  rw [if_pos (checkL_zero.2 hv)]
  rcases bestGo_spec h h.length with ⟨h1, h2⟩ | ⟨h1, h2⟩
  · have h1' : (bestL h).2 = 0 := h1
    rw [if_pos h1']
    refine ⟨fun _ s n k => far_zero.1 (h2 s k.lt) n k, fun _ => rfl⟩
  · have h1' : ¬ (bestL h).2 = 0 := by unfold bestL; omega
    rw [if_neg h1']
    refine ⟨fun e => (by cases e), fun hn => ?_⟩
    exact absurd ((far_iff h1).1 h2).walk (hn _ _)
/-- Transactions each of which has a predecessor among them hold a cycle. -/
theorem cycle_of_stuck (h : List Acc) : ∀ (d : Nat) (R : Nat → Prop), (∀ j, R j → h.length ≤ j + d) → (∃ j, R j) → (∀ j, R j → ∃ i, R i ∧ edgeB h i j = true) → ∃ s n, Walk h s n s := by
  intro d
  induction d with
  | zero =>
    intro R h1 ⟨j, hj⟩ h3
    obtain ⟨i, hi, e⟩ := h3 j hj
    have := h1 i hi
    have := (edge_lt e).1
    omega
  | succ d ih =>
    intro R h1 ⟨j0, h2⟩ h3
    by_cases hc : ∃ n, Walk h (h.length - (d + 1)) n (h.length - (d + 1))
    · obtain ⟨n, k⟩ := hc
      exact ⟨_, n, k⟩
    by_cases hm : R (h.length - (d + 1))
    · by_cases hd : d + 1 ≤ h.length
      · refine ih (fun i => R i ∧ ∃ n, Walk h (h.length - (d + 1)) n i) (fun i ⟨hi, n, k⟩ => ?_) ?_ (fun j ⟨hj, n, k⟩ => ?_)
        · have := h1 i hi
          have hne : i ≠ h.length - (d + 1) := by
            rintro rfl
            exact hc ⟨n, k⟩
          omega
        · obtain ⟨i, hi, e⟩ := h3 _ hm
          have := h1 i hi
          exact ⟨i, hi, 1, by omega, e⟩
        · obtain ⟨i, hi, e⟩ := h3 j hj
          have := h1 i hi
          refine ⟨i, ⟨hi, n + 1, k.step (by omega) ?_ e⟩, e⟩
          rintro rfl
          exact hc ⟨n, k⟩
      · refine ih R (fun j hj => ?_) ⟨j0, h2⟩ h3
        omega
    · refine ih R (fun j hj => ?_) ⟨j0, h2⟩ h3
      have := h1 j hj
      have : j ≠ h.length - (d + 1) := by
        rintro rfl
        exact hm hj
      omega
theorem mem_of_pred {h : List Acc} {t : List Nat} (ht : Taken h t) : ∀ (n s : Nat) (a b : List Nat) (i : Nat), t = a ++ s :: b → Walk h s n i → i ∈ a := by
  have step : ∀ (a b : List Nat) (j i : Nat), t = a ++ j :: b → edgeB h i j = true → i ∈ a := fun a b j i e k => ht.pred a j b e i k
  intro n
  induction n with
  | zero => intro s a b i _ k; exact absurd k (fun h => h)
  | succ n ih =>
    intro s a b i e k
    match n, k with
    | 0, k => exact step a b s i e k.2
    | n + 1, k =>
      obtain ⟨_, j, _, k2, k3⟩ := k
      have hj := ih s a b j e k3
      obtain ⟨a1, a2, rfl⟩ := List.append_of_mem hj
      have := step a1 (a2 ++ s :: b) j i (by rw [e]; simp) k2
      exact List.mem_append_left _ this
/-- There is a serial order exactly if there is no cycle. -/
theorem cycleL_serial {h : List Acc} (hv : Valid h) : cycleL h = [] ↔ ∃ t, serialL h = some t := by
  rw [cycleL_nil hv]
  constructor
  · intro hn
    have key : ∀ (n : Nat) (t : List Nat), Taken h t → t.length + n ≤ committed h → ∃ t', serialGo h n t = some t' := by
      intro n
      induction n with
      | zero => intro t _ _; exact ⟨t, rfl⟩
      | succ n ih =>
        intro t ht hl
        unfold serialGo
        split
        · rename_i e
          have hs := stuck_of (by omega) e
          obtain ⟨s, m, k⟩ := cycle_of_stuck h h.length (fun j => (tx h j).done = true ∧ j ∉ t) (fun j _ => by omega) hs.some (fun j ⟨h1, h2⟩ => by
            obtain ⟨i, h3, h4⟩ := hs.pred j h1 h2
            exact ⟨i, ⟨h4.di, h3⟩, edge_iff.2 h4⟩)
          exact absurd k (hn s m)
        · rename_i k e
          exact ih _ (ht.snoc (nextL_some e)) (by simp; omega)
    unfold serialL
    rw [if_pos (checkL_zero.2 hv)]
    exact key _ [] (Taken.nil h) (by simp)
  · rintro ⟨t, e⟩ s n k
    obtain ⟨_, ht, hl⟩ := serialL_taken e
    have hd : (tx h s).done = true := by
      match n, k with
      | 1, k => exact (edge_iff.1 k.2).di
      | _ + 2, k => obtain ⟨_, j, _, k2, _⟩ := k; exact (edge_iff.1 k2).di
    obtain ⟨a, b, e'⟩ := List.append_of_mem (ht.all hl hd)
    have := mem_of_pred ht n s a b s e' k
    have hn := ht.nodup
    rw [e', List.nodup_append] at hn
    exact hn.2.2 s this s (by simp) rfl
end Go.Proofs.Ytlfpkikmofgjfaa
