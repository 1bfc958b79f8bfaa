/- Orders that read and leave the same versions as a history. Plain mathematics. -/
import Derived.Test.YtlfpkikmofgjfaaOrder
namespace Go.Proofs.Ytlfpkikmofgjfaa

/-- The last writer of an item in a list; -1: there is none. -/
def beforeL (h : List Acc) (o : List Nat) (x : Int) : Int := o.foldl (fun best i => if x ∈ (tx h i).writes then (i : Int) else best) (-1)
/-- One step of the search for the writer whose version of an item is read. -/
def srcStep (h : List Acc) (snap x : Int) (best : Int) (i : Nat) : Int :=
  if x ∈ (tx h i).writes ∧ (tx h i).done = true ∧ (tx h i).stamp ≤ snap ∧ (best < 0 ∨ (tx h best.toNat).stamp < (tx h i).stamp) then (i : Int) else best
def sourceL (h : List Acc) (snap x : Int) : Int := (List.range h.length).foldl (srcStep h snap x) (-1)
/-- An order has each committed transaction exactly once. -/
def onceB (h : List Acc) (o : List Int) : Bool :=
  decide (o.length = committed h) && (o.all fun i => decide (0 ≤ i ∧ i < h.length) && (tx h i.toNat).done) && decide (o.Nodup)
def equivB (h : List Acc) (o : List Nat) : Bool :=
  (List.range o.length).all fun p => ((tx h (o.getD p 0)).reads.all fun x => decide (beforeL h (o.take p) x = sourceL h (tx h (o.getD p 0)).snap x)) && ((tx h (o.getD p 0)).writes.all fun x => decide (beforeL h o x = sourceL h 1073741824 x))
def equivL (h : List Acc) (o : List Int) : Bool := decide (checkL h = 0) && onceB h o && equivB h (o.map Int.toNat)

theorem beforeL_snoc (h : List Acc) (o : List Nat) (k : Nat) (x : Int) : beforeL h (o ++ [k]) x = if x ∈ (tx h k).writes then (k : Int) else beforeL h o x := by simp [beforeL, List.foldl_append]
theorem before_spec (h : List Acc) (x : Int) (o : List Nat) : (beforeL h o x = -1 ∧ ∀ i, i ∈ o → x ∉ (tx h i).writes) ∨ ∃ (a : List Nat) (s : Nat) (b : List Nat), o = a ++ s :: b ∧ beforeL h o x = (s : Int) ∧ x ∈ (tx h s).writes ∧ ∀ i, i ∈ b → x ∉ (tx h i).writes := by
  have key : ∀ n (o : List Nat), o.length = n → (beforeL h o x = -1 ∧ ∀ i, i ∈ o → x ∉ (tx h i).writes) ∨ ∃ (a : List Nat) (s : Nat) (b : List Nat), o = a ++ s :: b ∧ beforeL h o x = (s : Int) ∧ x ∈ (tx h s).writes ∧ ∀ i, i ∈ b → x ∉ (tx h i).writes := by
    intro n
    induction n with
    | zero =>
      intro o ho
      obtain rfl := List.length_eq_zero_iff.1 ho
      exact .inl ⟨rfl, fun i hi => by cases hi⟩
    | succ n ih =>
      intro o ho
      rcases List.eq_nil_or_concat o with rfl | ⟨o', k, rfl⟩
      · simp at ho
      · simp only [List.concat_eq_append] at ho ⊢
        rw [beforeL_snoc]
        by_cases hk : x ∈ (tx h k).writes
        · rw [if_pos hk]
          exact .inr ⟨o', k, [], rfl, rfl, hk, fun i hi => by cases hi⟩
        · rw [if_neg hk]
          rcases ih o' (by simp at ho; omega) with ⟨h1, h2⟩ | ⟨a, s, b, h1, h2, h3, h4⟩
          · refine .inl ⟨h1, fun i hi => ?_⟩
            rcases List.mem_append.1 hi with hi | hi
            · exact h2 i hi
            · simp at hi; subst hi; exact hk
          · refine .inr ⟨a, s, b ++ [k], by rw [h1]; simp, h2, h3, fun i hi => ?_⟩
            rcases List.mem_append.1 hi with hi | hi
            · exact h4 i hi
            · simp at hi; subst hi; exact hk
  exact key _ o rfl
theorem source_spec (h : List Acc) (snap x : Int) : (sourceL h snap x = -1 ∧ ∀ i, Wr h i x → ¬ (tx h i).stamp ≤ snap) ∨
    ∃ s : Nat, sourceL h snap x = (s : Int) ∧ Wr h s x ∧ (tx h s).stamp ≤ snap ∧ ∀ i, Wr h i x → (tx h i).stamp ≤ snap → (tx h i).stamp ≤ (tx h s).stamp := by
  have key : ∀ n, ((List.range n).foldl (srcStep h snap x) (-1) = -1 ∧ ∀ i, i < n → Wr h i x → ¬ (tx h i).stamp ≤ snap) ∨
      ∃ s : Nat, (List.range n).foldl (srcStep h snap x) (-1) = (s : Int) ∧ Wr h s x ∧ (tx h s).stamp ≤ snap ∧ ∀ i, i < n → Wr h i x → (tx h i).stamp ≤ snap → (tx h i).stamp ≤ (tx h s).stamp := by
    intro n
    induction n with
    | zero => exact .inl ⟨rfl, fun i hi => by omega⟩
    | succ n ih =>
      rw [List.range_succ, List.foldl_append]
      simp only [List.foldl_cons, List.foldl_nil]
      rcases ih with ⟨e, h2⟩ | ⟨s, e, h2, h3, h4⟩
      · rw [e]
        unfold srcStep
        by_cases hc : Wr h n x ∧ (tx h n).stamp ≤ snap
        · rw [if_pos ⟨hc.1.2, hc.1.1, hc.2, .inl (by omega)⟩]
          refine .inr ⟨n, rfl, hc.1, hc.2, fun i hi hw hl => ?_⟩
          by_cases e' : i = n
          · subst e'; omega
          · exact absurd hl (h2 i (by omega) hw)
        · rw [if_neg (fun k => hc ⟨⟨k.2.1, k.1⟩, k.2.2.1⟩)]
          refine .inl ⟨rfl, fun i hi hw hl => ?_⟩
          by_cases e' : i = n
          · subst e'; exact hc ⟨hw, hl⟩
          · exact h2 i (by omega) hw hl
      · rw [e]
        unfold srcStep
        rw [Int.toNat_natCast]
        by_cases hc : Wr h n x ∧ (tx h n).stamp ≤ snap ∧ (tx h s).stamp < (tx h n).stamp
        · rw [if_pos ⟨hc.1.2, hc.1.1, hc.2.1, .inr hc.2.2⟩]
          refine .inr ⟨n, rfl, hc.1, hc.2.1, fun i hi hw hl => ?_⟩
          by_cases e' : i = n
          · subst e'; omega
          · have := h4 i (by omega) hw hl; omega
        · rw [if_neg (fun k => hc ⟨⟨k.2.1, k.1⟩, k.2.2.1, by have := k.2.2.2; omega⟩)]
          refine .inr ⟨s, rfl, h2, h3, fun i hi hw hl => ?_⟩
          by_cases e' : i = n
          · subst e'
            apply Classical.byContradiction
            intro hn
            exact hc ⟨hw, hl, by omega⟩
          · exact h4 i (by omega) hw hl
  rcases key h.length with ⟨e, h2⟩ | ⟨s, e, h2, h3, h4⟩
  · exact .inl ⟨e, fun i hw => h2 i hw.lt hw⟩
  · exact .inr ⟨s, e, h2, h3, fun i hw => h4 i hw.lt hw⟩
/-- Different committed transactions, all of them. -/
structure Once (h : List Acc) (o : List Nat) : Prop where
  nodup : o.Nodup
  mem : ∀ i, i ∈ o ↔ (tx h i).done = true
structure Equiv (h : List Acc) (o : List Nat) : Prop where
  reads : ∀ a k b, o = a ++ k :: b → ∀ x, x ∈ (tx h k).reads → beforeL h a x = sourceL h (tx h k).snap x
  writes : ∀ k, k ∈ o → ∀ x, x ∈ (tx h k).writes → beforeL h o x = sourceL h 1073741824 x
theorem equivB_iff {h : List Acc} {o : List Nat} : equivB h o = true ↔ Equiv h o := by
  unfold equivB
  simp only [List.all_eq_true, List.mem_range, Bool.and_eq_true, decide_eq_true_eq]
  constructor
  · intro k
    refine ⟨fun a j b e x hx => ?_, fun j hj x hx => ?_⟩
    · have h1 := (k a.length (by rw [e]; simp)).1 x
      have h2 : o.getD a.length 0 = j := by rw [e]; simp [List.getD]
      have h3 : o.take a.length = a := by rw [e]; simp
      rw [h2, h3] at h1
      exact h1 hx
    · obtain ⟨p, hp, rfl⟩ := List.mem_iff_getElem.1 hj
      have h1 := (k p hp).2 x
      have h2 : o.getD p 0 = o[p] := by simp [List.getD, List.getElem?_eq_getElem hp]
      rw [h2] at h1
      exact h1 hx
  · intro ⟨h1, h2⟩ p hp
    have e2 : o.getD p 0 = o[p] := by simp [List.getD, List.getElem?_eq_getElem hp]
    rw [e2]
    exact ⟨fun x hx => h1 (o.take p) o[p] (o.drop (p + 1)) (by rw [← List.drop_eq_getElem_cons hp]; exact (List.take_append_drop p o).symm) x hx, fun x hx => h2 _ (List.getElem_mem hp) x hx⟩
/-- Every edge leads forward. -/
def Fwd (h : List Acc) (o : List Nat) : Prop := ∀ a k b, o = a ++ k :: b → ∀ i, Edge h i k → i ∈ a
theorem split_at {o a b c d : List Nat} {i k : Nat} (hn : o.Nodup) (e1 : o = a ++ k :: b) (e2 : o = c ++ i :: d) (hi : i ∈ a) : k ∈ d := by
  obtain ⟨a1, a2, rfl⟩ := List.append_of_mem hi
  rw [e1] at hn e2
  have e3 : a1 ++ i :: (a2 ++ k :: b) = c ++ i :: d := by simpa using e2
  have hn' : (a1 ++ i :: (a2 ++ k :: b)).Nodup := by simpa using hn
  have key : ∀ (a1 c r d : List Nat), (a1 ++ i :: r).Nodup → a1 ++ i :: r = c ++ i :: d → r = d := by
    intro a1
    induction a1 with
    | nil =>
      intro c r d hn e
      cases c with
      | nil => simpa using e
      | cons y c =>
        simp only [List.nil_append, List.cons_append, List.cons.injEq] at e
        rw [e.2] at hn
        simp at hn
    | cons y a1 ih =>
      intro c r d hn e
      cases c with
      | nil =>
        simp only [List.nil_append, List.cons_append, List.cons.injEq] at e
        rw [e.1] at hn
        simp at hn
      | cons z c =>
        simp only [List.cons_append, List.cons.injEq] at e
        exact ih c r d (by simp only [List.cons_append, List.nodup_cons] at hn; exact hn.2) e.2
  rw [← key a1 c _ d hn' e3]
  simp
theorem Valid.src_lt {h : List Acc} (hv : Valid h) {i : Nat} {x : Int} (hw : Wr h i x) : ¬ (tx h i).stamp ≤ (tx h i).snap := by have := hv.wr hw; omega
/-- P26.9, the first half. -/
theorem equiv_of_fwd {h : List Acc} {o : List Nat} (hv : Valid h) (ho : Once h o) (hf : Fwd h o) : Equiv h o := by
  -- of the writers of an item the last one has the greatest stamp
  have order : ∀ (c d : List Nat) (s i : Nat) (x : Int), o = c ++ s :: d → Wr h s x → Wr h i x → i ∈ c → (tx h i).stamp ≤ (tx h s).stamp := by
    intro c d s i x e hs hi hic
    apply Classical.byContradiction
    intro hn
    obtain ⟨c1, c2, rfl⟩ := List.append_of_mem hic
    have e' : o = c1 ++ i :: (c2 ++ s :: d) := by rw [e]; simp
    have hne : s ≠ i := fun e => by subst e; omega
    have hm := hf c1 i _ e' s ⟨hne, hs.1, hi.1, .inl ⟨x, hs.2, hi.2, by omega⟩⟩
    have hnd := ho.nodup
    rw [e', List.nodup_append] at hnd
    exact hnd.2.2 s hm s (by simp) rfl
  have pick : ∀ (a : List Nat) (x snap : Int), (∃ b, o = a ++ b) → (∀ i, Wr h i x → (i ∈ a ↔ (tx h i).stamp ≤ snap)) → beforeL h a x = sourceL h snap x := by
    rintro a x snap ⟨b, hob⟩ hin
    have hdone : ∀ i, i ∈ a → (tx h i).done = true := fun i hi => (ho.mem i).1 (by rw [hob]; exact List.mem_append_left _ hi)
    rcases before_spec h x a with ⟨e1, h1⟩ | ⟨c, s, d, e1, e2, h1, h2⟩
    · rcases source_spec h snap x with ⟨e2, _⟩ | ⟨s, _, h3, h4, _⟩
      · rw [e1, e2]
      · exact absurd h3.2 (h1 s ((hin s h3).2 h4))
    · have hs : Wr h s x := ⟨hdone s (by rw [e1]; simp), h1⟩
      have hsa : s ∈ a := by rw [e1]; simp
      rcases source_spec h snap x with ⟨_, h3⟩ | ⟨s', e3, h3, h4, h5⟩
      · exact absurd ((hin s hs).1 hsa) (h3 s hs)
      · rw [e2, e3]
        have g1 := h5 s hs ((hin s hs).1 hsa)
        have hs'a := (hin s' h3).2 h4
        have hs'c : s' = s ∨ s' ∈ c := by
          rw [e1] at hs'a
          rcases List.mem_append.1 hs'a with k | k
          · exact .inr k
          · rcases List.mem_cons.1 k with k | k
            · exact .inl k
            · exact absurd h3.2 (h2 s' k)
        rcases hs'c with k | k
        · rw [k]
        · have g2 := order c (d ++ b) s s' x (by rw [hob, e1]; simp) hs h3 k
          by_cases hne : s = s'
          · rw [hne]
          · exact absurd (by omega) (hv.apart hs.writer h3.writer hne)
  refine ⟨fun a k b e x hx => ?_, fun k hk x hx => ?_⟩
  · refine pick a x _ ⟨_, e⟩ fun i hi => ?_
    have hnd := ho.nodup
    rw [e, List.nodup_append] at hnd
    have hkd : (tx h k).done = true := (ho.mem k).1 (by rw [e]; simp)
    constructor
    · intro hia
      apply Classical.byContradiction
      intro hn
      obtain ⟨a1, a2, rfl⟩ := List.append_of_mem hia
      have hne : k ≠ i := fun e' => hnd.2.2 i hia k (by simp) e'.symm
      have hm := hf a1 i (a2 ++ k :: b) (by rw [e]; simp) k ⟨hne, hkd, hi.1, .inr (.inr ⟨x, hx, hi.2, by omega⟩)⟩
      exact hnd.2.2 k (by simp [hm]) k (by simp) rfl
    · intro hs
      have hne : i ≠ k := by
        rintro rfl
        exact hv.src_lt hi hs
      exact hf a k b e i ⟨hne, hi.1, hkd, .inr (.inl ⟨x, hi.2, hx, hs⟩)⟩
  · refine pick o x _ ⟨[], by simp⟩ fun i hi => ⟨fun _ => (hv.wr hi).2.2, fun _ => (ho.mem i).2 hi.1⟩
/-- P26.9, the second half. -/
theorem fwd_of_equiv {h : List Acc} {o : List Nat} (hv : Valid h) (ho : Once h o) (he : Equiv h o) (hr : ∀ i, (tx h i).done = true → ∀ x, x ∈ (tx h i).writes → x ∈ (tx h i).reads) : Fwd h o := by
  have hat : ∀ i, (tx h i).done = true → ∃ a b, o = a ++ i :: b := fun i hi => List.append_of_mem ((ho.mem i).2 hi)
  -- a later writer of an item stands behind all earlier ones
  have ww : ∀ (x : Int) (n : Nat) (i k : Nat), Wr h i x → Wr h k x → (tx h i).stamp < (tx h k).stamp → ((tx h k).stamp - (tx h i).stamp).toNat ≤ n → ∀ a b, o = a ++ k :: b → i ∈ a := by
    intro x n
    induction n with
    | zero => intro i k _ _ hlt hn; omega
    | succ n ih =>
      intro i k hi hk hlt hn a b e
      have hb := he.reads a k b e x (hr k hk.1 x hk.2)
      have hseen := hv.seen hi hk hlt
      rcases source_spec h (tx h k).snap x with ⟨_, h3⟩ | ⟨s, e3, h3, h4, h5⟩
      · exact absurd hseen (h3 i hi)
      · rw [e3] at hb
        rcases before_spec h x a with ⟨e4, _⟩ | ⟨c, s', d, e4, e5, h6, _⟩
        · rw [e4] at hb; omega
        · have : s' = s := by rw [e5] at hb; omega
          subst this
          have hsa : s' ∈ a := by rw [e4]; simp
          have hle := h5 i hi hseen
          by_cases hne : i = s'
          · rw [hne]; exact hsa
          · have h7 := hv.apart hi.writer h3.writer hne
            have h8 := hv.wr hk
            have hic := ih i s' hi h3 (by omega) (by omega) c (d ++ k :: b) (by rw [e, e4]; simp)
            rw [e4]
            exact List.mem_append_left _ hic
  intro a k b e i hed
  rcases hed.kind with ⟨x, h1, h2, h3⟩ | ⟨x, h1, h2, h3⟩ | ⟨x, h1, h2, h3⟩
  · exact ww x _ i k ⟨hed.di, h1⟩ ⟨hed.dj, h2⟩ h3 (Nat.le_refl _) a b e
  · have hi : Wr h i x := ⟨hed.di, h1⟩
    have hb := he.reads a k b e x h2
    rcases source_spec h (tx h k).snap x with ⟨_, h4⟩ | ⟨s, e3, h4, h5, h6⟩
    · exact absurd h3 (h4 i hi)
    · rw [e3] at hb
      rcases before_spec h x a with ⟨e4, _⟩ | ⟨c, s', d, e4, e5, _, _⟩
      · rw [e4] at hb; omega
      · have : s' = s := by rw [e5] at hb; omega
        subst this
        have hle := h6 i hi h3
        by_cases hne : i = s'
        · rw [hne, e4]; simp
        · have h7 := hv.apart hi.writer h4.writer hne
          have := ww x _ i s' hi h4 (by omega) (Nat.le_refl _) c (d ++ k :: b) (by rw [e, e4]; simp)
          rw [e4]
          exact List.mem_append_left _ this
  · -- i reads an item that k writes later than i's snapshot
    have hk : Wr h k x := ⟨hed.dj, h2⟩
    apply Classical.byContradiction
    intro hn
    have him : i ∈ o := (ho.mem i).2 hed.di
    obtain ⟨c, d, e'⟩ := hat i hed.di
    have hkc : k ∈ c := by
      have hio := him
      rw [e] at hio
      rcases List.mem_append.1 hio with q | q
      · exact absurd q hn
      · rcases List.mem_cons.1 q with q | q
        · exact absurd q hed.ne
        · obtain ⟨b1, b2, rfl⟩ := List.append_of_mem q
          have e2 : o = (a ++ k :: b1) ++ i :: b2 := by rw [e]; simp
          apply Classical.byContradiction
          intro hkc
          have hko : k ∈ o := by rw [e]; simp
          have hko' := hko
          rw [e'] at hko'
          have hkd : k ∈ d := by
            rcases List.mem_append.1 hko' with q | q
            · exact absurd q hkc
            · rcases List.mem_cons.1 q with q | q
              · exact absurd q.symm hed.ne
              · exact q
          obtain ⟨d1, d2, rfl⟩ := List.append_of_mem hkd
          have := split_at (o := o) (a := c ++ i :: d1) (b := d2) (c := a ++ k :: b1) (d := b2) (i := i) (k := k) ho.nodup (by rw [e']; simp) e2 (by simp)
          have hnd := ho.nodup
          rw [e2, List.nodup_append] at hnd
          exact hnd.2.2 k (by simp) k (by simp [this]) rfl
    have hb := he.reads c i d e' x h1
    rcases before_spec h x c with ⟨_, h4⟩ | ⟨c1, s, c2, e4, e5, h5, h6⟩
    · exact h4 k hkc h2
    · have hs : Wr h s x := ⟨(ho.mem s).1 (by rw [e', e4]; simp), h5⟩
      rw [e5] at hb
      rcases source_spec h (tx h i).snap x with ⟨e7, _⟩ | ⟨s', e7, _, h8, _⟩
      · rw [e7] at hb; omega
      · have : s' = s := by rw [e7] at hb; omega
        subst this
        -- k stands before s' or is s'
        by_cases hne : k = s'
        · subst hne; omega
        · have hlt : (tx h s').stamp < (tx h k).stamp := by omega
          have hsk := ww x _ s' k hs hk hlt (Nat.le_refl _) a b e
          have hkc1 : k ∈ c1 := by
            rw [e4] at hkc
            rcases List.mem_append.1 hkc with q | q
            · exact q
            · rcases List.mem_cons.1 q with q | q
              · exact absurd q hne
              · exact absurd h2 (h6 k q)
          obtain ⟨c3, c4, rfl⟩ := List.append_of_mem hkc1
          have := split_at (o := o) (a := a) (b := b) (c := c3 ++ k :: c4) (d := c2 ++ i :: d) (i := s') (k := k) ho.nodup e (by rw [e', e4]; simp) hsk
          have hnd := ho.nodup
          rw [e', e4, show (c3 ++ k :: c4) ++ s' :: c2 ++ i :: d = (c3 ++ [k]) ++ (c4 ++ s' :: (c2 ++ i :: d)) by simp, List.nodup_append] at hnd
          exact hnd.2.2 k (by simp) k (by simp only [List.mem_append, List.mem_cons]; right; right; simpa using this) rfl
end Go.Proofs.Ytlfpkikmofgjfaa
