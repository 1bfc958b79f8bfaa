/- The walk of Ask where it takes the transaction. -/
import Derived.Test.YtoecffmhnpnaaaaWalkE
namespace Go.Proofs.Ytoecffmhnpnaaaa
open Go.RowKit

/-- Where the k-th link of the chain lies. -/
def linkAt (g : Nat) (bs : List Nat) : Nat → Addr
  | 0 => ⟨g, 4, none⟩
  | k + 1 => ⟨bs.getD k 0, 3, none⟩
section
variable {w : World} {F : Nat → Prop} {g mb : Nat} {bs : List Nat} {S : Gr}
theorem Rep.link_cells (hR : Rep w F g mb bs S) {k : Nat} (hk : k ≤ bs.length) : w.cell? (linkAt g bs k) = some (ptrAt bs k) ∧ w.frozen? (linkAt g bs k) = false ∧ F (linkAt g bs k).block ∧ (linkAt g bs k).block < w.heap.size := by
  match k, hk with
  | 0, _ =>
    obtain ⟨v, hv, hn⟩ := hR.v
    exact ⟨hv.cell 4, hv.free 4, hR.fg, hv.lt⟩
  | k + 1, hk =>
    have hb : bs[k]? = some (bs.getD k 0) := by simp [List.getD, List.getElem?_eq_getElem (show k < bs.length by omega)]
    obtain ⟨x, hx⟩ : ∃ x, S.l[k]? = some x := ⟨_, List.getElem?_eq_getElem (by rw [← hR.len]; omega)⟩
    have hn := hR.nodes k _ x hb hx
    exact ⟨hn.cell 3, hn.free 3, hR.fb _ (List.mem_of_getElem? hb), hn.lt⟩
theorem ptrAt_app_lt {bs : List Nat} {k n : Nat} (h : k < bs.length) : ptrAt (bs ++ [n]) k = ptrAt bs k := by simp [ptrAt, List.getElem?_append_left h]
theorem ptrAt_app_eq {bs : List Nat} {n : Nat} : ptrAt (bs ++ [n]) bs.length = .pointer (some ⟨n, 0, none⟩) := by simp [ptrAt]
theorem ptrAt_app_gt {bs : List Nat} {n k : Nat} (h : bs.length < k) : ptrAt (bs ++ [n]) k = .pointer none := ptrAt_out (by simp; omega)
/-- The world in which the node has been made and hung. -/
def hungW (w : World) (g : Nat) (bs : List Nat) (x : Rd) : World := (w.alloc (.cells #[.int .i64 x.tx, .int .i64 x.words, .int .i64 x.tick, .pointer none] 69)).setCell (linkAt g bs bs.length) (.pointer (some ⟨w.heap.size, 0, none⟩))
theorem Rep.hung (hR : Rep w F g mb bs S) (x : Rd) : (w.alloc (.cells #[.int .i64 x.tx, .int .i64 x.words, .int .i64 x.tick, .pointer none] 69)).frozen? (linkAt g bs bs.length) = false ∧ (w.alloc (.cells #[.int .i64 x.tx, .int .i64 x.words, .int .i64 x.tick, .pointer none] 69)).cell? (linkAt g bs bs.length) = some (ptrAt bs bs.length) ∧
    (hungW w g bs x).cell? ⟨g, 5, none⟩ = some (.map (some mb)) ∧ SetAt Try.prog 3 4 (hungW w g bs x) mb (S.l.map (·.tx)) := by
  obtain ⟨l1, l2, l3, l4⟩ := hR.link_cells (Nat.le_refl bs.length)
  have hb := Below.heap_alloc w (.cells #[.int .i64 x.tx, .int .i64 x.words, .int .i64 x.tick, .pointer none] 69) _ l4
  obtain ⟨v, hv, hn⟩ := hR.v
  refine ⟨?_, ?_, ?_, ?_⟩
  · rw [← l2]; simp only [World.frozen?, hb]
  · rw [← l1]; simp only [World.cell?, hb]
  · have h1 : Cells (w.alloc (.cells #[.int .i64 x.tx, .int .i64 x.words, .int .i64 x.tick, .pointer none] 69)) g 63 _ := hv.kept (Below.heap_alloc _ _ _ hv.lt)
    unfold hungW
    match hbl : bs.length with
    | 0 => exact (h1.set 4 _).cell 5
    | k + 1 =>
      refine (h1.kept (Below.heap_setCell _ _ _ _ ?_)).cell 5
      exact Ne.symm (hR.g_ne_b (b := bs.getD k 0) (by simp [List.getD, List.getElem?_eq_getElem (show k < bs.length by omega)]))
  · refine hR.set.kept ?_
    unfold hungW
    rw [Below.heap_setCell, Below.heap_alloc _ _ _ hR.set.lt]
    match hbl : bs.length with
    | 0 => exact hR.g_ne_m
    | k + 1 => exact Ne.symm (hR.m_ne_b (b := bs.getD k 0) (by simp [List.getD, List.getElem?_eq_getElem (show k < bs.length by omega)]))
/-- A node has been made and hung behind the last, and its number put into the set. -/
theorem Rep.appended (hR : Rep w F g mb bs S) (x : Rd) {w2 : World}
    (hset : SetAt Try.prog 3 4 w2 mb (S.l.map (·.tx) ++ [x.tx]))
    (hturn : ((w.alloc (.cells #[.int .i64 x.tx, .int .i64 x.words, .int .i64 x.tick, .pointer none] 69)).setCell (linkAt g bs bs.length) (.pointer (some ⟨w.heap.size, 0, none⟩))).mapTurned w2 mb) :
    Rep w2 (fun b => F b ∨ (w.heap.size ≤ b ∧ b < w2.heap.size)) g mb (bs ++ [w.heap.size]) { S with l := S.l ++ [x] } ∧ Only w w2 F := by
  obtain ⟨hl1, hl2, hl3, hl4⟩ := hR.link_cells (Nat.le_refl bs.length)
  have hg := hturn.grown
  have hset1 : SetAt Try.prog 3 4 w mb (S.l.map (·.tx)) := hR.set
  have hmlt := hR.set.lt
  have hOnly : Only w w2 F := (((Only.refl w F).alloc _).setCell (Or.inl hl3) _).turned hturn (Or.inl hR.fm)
  have hsz : w.heap.size < w2.heap.size := by
    have := hg.size
    simp [World.setCell] at this
    omega
  have hk2 : ∀ b, b ≠ mb → b < w.heap.size + 1 → w2.heap[b]? = ((w.alloc (.cells #[.int .i64 x.tx, .int .i64 x.words, .int .i64 x.tick, .pointer none] 69)).setCell (linkAt g bs bs.length) (.pointer (some ⟨w.heap.size, 0, none⟩))).heap[b]? := fun b hb hlt => hg.block b (by simp [World.setCell]; omega) (fun e => hb (Option.some.inj e))
  have hk1 : ∀ b, b ≠ mb → b ≠ (linkAt g bs bs.length).block → b < w.heap.size → w2.heap[b]? = w.heap[b]? := fun b hb hl hlt => by
    rw [hk2 b hb (by omega), Below.heap_setCell _ _ _ _ hl, Below.heap_alloc _ _ _ hlt]
  refine ⟨⟨?_, ?_, ?_, ?_, ?_, ?_, ?_, ?_⟩, hOnly⟩
  · obtain ⟨v, hv, hn⟩ := hR.v
    refine ⟨v, ?_, ?_⟩
    · by_cases h0 : bs.length = 0
      · have hb : bs = [] := List.length_eq_zero_iff.1 h0
        subst hb
        have h1 : Cells (w.alloc (.cells #[.int .i64 x.tx, .int .i64 x.words, .int .i64 x.tick, .pointer none] 69)) g 63 _ := hv.kept (Below.heap_alloc _ _ _ hv.lt)
        have h2 := (h1.set 4 (.pointer (some ⟨w.heap.size, 0, none⟩))).kept (hk2 g (Ne.symm hR.g_ne_m) (by have := hv.lt; omega))
        simpa [ptrAt] using h2
      · have hp : ptrAt (bs ++ [w.heap.size]) 0 = ptrAt bs 0 := ptrAt_app_lt (by omega)
        rw [hp]
        refine hv.kept (hk1 g (Ne.symm hR.g_ne_m) ?_ hv.lt)
        obtain ⟨k, hk⟩ : ∃ k, bs.length = k + 1 := ⟨bs.length - 1, by omega⟩
        rw [hk]
        have hb : bs.getD k 0 ∈ bs := by simp [List.getD, List.getElem?_eq_getElem (show k < bs.length by omega)]
        exact Ne.symm (hR.g_ne_b hb)
    · rcases hn with hn | ⟨q, c, e, h1, h2, h3, h4, h5⟩
      · exact .inl hn
      · obtain ⟨f1, f2, f3, f4⟩ := h3
        have hql : q ≠ (linkAt g bs bs.length).block := by
          intro e1
          match hbl : bs.length with
          | 0 => rw [hbl] at e1; exact f2 e1
          | k + 1 =>
            rw [hbl] at e1
            exact f4 (by rw [e1]; simp [linkAt, List.getD, List.getElem?_eq_getElem (show k < bs.length by omega)])
        refine .inr ⟨q, c, e, h1, h2, ⟨.inl f1, f2, f3, by simp; exact ⟨f4, by omega⟩⟩, by omega, fun j hj => ?_⟩
        rw [← h5 j hj]
        simp [World.cell?, hk1 q f3 hql h4]
  · simp [hR.len]
  · intro k b y hb hy
    rcases Nat.lt_or_ge k bs.length with hlt | hge
    · rw [List.getElem?_append_left hlt] at hb
      rw [List.getElem?_append_left (by rw [← hR.len]; exact hlt)] at hy
      have hn := hR.nodes k b y hb hy
      have hbm := List.mem_of_getElem? hb
      by_cases hlast : k + 1 = bs.length
      · have h1 : Cells (w.alloc (.cells #[.int .i64 x.tx, .int .i64 x.words, .int .i64 x.tick, .pointer none] 69)) b 69 _ := hn.kept (Below.heap_alloc _ _ _ hn.lt)
        have hla : linkAt g bs bs.length = ⟨b, 3, none⟩ := by rw [← hlast, linkAt, List.getD, hb]; rfl
        rw [hla] at hk2
        have h2 := (h1.set 3 (.pointer (some ⟨w.heap.size, 0, none⟩))).kept (hk2 b (hR.m_ne_b hbm) (by have := hn.lt; omega))
        unfold nodeAt at h2 ⊢
        rw [hlast, ptrAt_app_eq]
        simpa using h2
      · have h2 := hn.kept (hk1 b (hR.m_ne_b hbm) ?_ hn.lt)
        · unfold nodeAt at h2 ⊢
          rw [ptrAt_app_lt (by omega)]
          exact h2
        · obtain ⟨j, hj⟩ : ∃ j, bs.length = j + 1 := ⟨bs.length - 1, by omega⟩
          rw [hj, linkAt, List.getD, List.getElem?_eq_getElem (show j < bs.length by omega)]
          intro e1
          simp only [Option.getD_some] at e1
          obtain ⟨hk', rfl⟩ := List.getElem?_eq_some_iff.1 hb
          have := (List.getElem_inj hR.nodup).1 e1
          omega
    · have hkl : k = bs.length := by
        have := (List.getElem?_eq_some_iff.1 hb).1
        simp at this
        omega
      subst hkl
      simp at hb
      rw [hR.len] at hy
      simp at hy
      subst hb
      subst hy
      have h1 := Cells.made w 69 #[.int .i64 x.tx, .int .i64 x.words, .int .i64 x.tick, .pointer none]
      have h2 := (h1.kept (Below.heap_setCell _ (linkAt g bs bs.length) (.pointer (some ⟨w.heap.size, 0, none⟩)) _ (by omega))).kept (hk2 w.heap.size (by omega) (by omega))
      unfold nodeAt
      rw [ptrAt_app_gt (by omega)]
      exact h2
  · rw [List.nodup_append]
    refine ⟨hR.nodup, by simp, fun a ha c hc => ?_⟩
    simp at hc
    subst hc
    rintro rfl
    obtain ⟨k, hk, hkk⟩ := List.mem_iff_getElem.1 ha
    have := (hR.nodes k w.heap.size (S.l[k]'(by rw [← hR.len]; exact hk)) (by rw [← hkk]; exact List.getElem?_eq_getElem hk) (List.getElem?_eq_getElem (by rw [← hR.len]; exact hk))).lt
    omega
  · simpa using hset
  · exact .inl hR.fg
  · exact .inl hR.fm
  · intro b hb
    rcases List.mem_append.1 hb with h | h
    · exact .inl (hR.fb b h)
    · simp at h
      subst h
      exact .inr ⟨Nat.le_refl _, hsz⟩
end
end Go.Proofs.Ytoecffmhnpnaaaa
