/- A graph: a history with the kinds of its edges, and how it lies in memory. -/
import Derived.Test.YtlfpkikmofgjfaaWalkE
import Derived.Deep.OwnRows
namespace Go.Proofs.Ytlfpkikmofgjfaa
open Go.RowKit

/-- An edge that is no antidependency. -/
def plainB (h : List Acc) (i j : Nat) : Bool := decide (i ≠ j) && (tx h i).done && (tx h j).done && (wwB h i j || wrB h i j)
theorem edge_split (h : List Acc) (i j : Nat) : edgeB h i j = (plainB h i j || antiB h i j) := by
  unfold edgeB plainB antiB
  cases decide (i ≠ j) <;> cases (tx h i).done <;> cases (tx h j).done <;> simp
/-- The bits of the kinds of an edge. -/
def bitsOf (h : List Acc) (i j : Nat) : Int := (if plainB h i j = true then 1 else 0) + (if antiB h i j = true then 2 else 0)
/-- A graph in memory. -/
def Graph (w : World) (g : Nat) (v : Value) (h : List Acc) : Prop :=
  ∃ eb, Cells w g 85 #[v, .slice (some ⟨eb, 0, none⟩) h.length h.length] ∧ eb < w.heap.size ∧ ∀ i, i < h.length → ∃ rb, w.cell? ⟨eb, i, none⟩ = some (.slice (some ⟨rb, 0, none⟩) h.length h.length) ∧ rb < w.heap.size ∧
    ∀ j, j < h.length → w.cell? ⟨rb, j, none⟩ = some (.int .i64 (bitsOf h i j))
theorem Graph.below {w w' : World} {g : Nat} {v : Value} {h : List Acc} (k : Graph w g v h) (hb : Below w.heap.size w w') : Graph w' g v h := by
  obtain ⟨eb, hc, he, hr⟩ := k
  have hs := hb.size
  refine ⟨eb, hc.kept (hb.block _ hc.lt), by omega, fun i hi => ?_⟩
  obtain ⟨rb, h1, h2, h3⟩ := hr i hi
  exact ⟨rb, (hb.cell (p := ⟨eb, i, none⟩) he).trans h1, by omega, fun j hj => (hb.cell (p := ⟨rb, j, none⟩) h2).trans (h3 j hj)⟩
theorem info27 : (Try.prog.info? 27).map (fun i => (i.zero, i.size, i.bytes)) = some (some (.slice none 0 0), 1, 24) := by kernel_rfl
theorem info3 : (Try.prog.info? 3).map (fun i => (i.zero, i.size, i.bytes)) = some (some (.int .i64 0), 1, 8) := by kernel_rfl
/-- A graph that is being built: k rows are made, and hold B. -/
structure Built (w wr : World) (g eb : Nat) (v : Value) (n k : Nat) (rb : Nat → Nat) (B : Nat → Nat → Int) : Prop where
  below : Below w.heap.size w wr
  cells : Cells wr g 85 #[v, .slice (some ⟨eb, 0, none⟩) n n]
  edges : wr.rowIs eb 27 n (fun i => if i < k then .slice (some ⟨rb i, 0, none⟩) n n else .slice none 0 0)
  rows : ∀ i, i < k → wr.rowIs (rb i) 3 n (fun j => .int .i64 (B i j))
  inj : ∀ i j, i < j → j < k → rb i < rb j
  ge : w.heap.size ≤ eb
  g_ge : w.heap.size ≤ g
  rb_ge : ∀ i, i < k → w.heap.size ≤ rb i
section
variable {w wr w1 : World} {g eb : Nat} {v : Value} {n k : Nat} {rb : Nat → Nat} {B : Nat → Nat → Int}
theorem Built.keep (b : Built w wr g eb v n k rb B) (hb : Below wr.heap.size wr w1) : Built w w1 g eb v n k rb B :=
  ⟨b.below.trans (hb.mono b.below.size), b.cells.kept (hb.block _ b.cells.lt), b.edges.of_block (hb.block _ b.edges.lt), fun i hi => (b.rows i hi).of_block (hb.block _ (b.rows i hi).lt), b.inj, b.ge, b.g_ge, b.rb_ge⟩
theorem rowIs_ne {b c t u n m : Nat} {f f' : Nat → Value} (h : wr.rowIs b t n f) (h' : wr.rowIs c u m f') (hne : t ≠ u) : b ≠ c := by
  rintro rfl
  obtain ⟨x, hx, _⟩ := h
  obtain ⟨y, hy, _⟩ := h'
  have := Option.some.inj (hx.symm.trans hy)
  injection this with _ h2
  exact hne h2
theorem rowIs_cells_ne {b c t u n : Nat} {f : Nat → Value} {cs : Array Value} (h : wr.rowIs b t n f) (h' : Cells wr c u cs) (hne : t ≠ u) : b ≠ c := by
  rintro rfl
  obtain ⟨x, hx, _⟩ := h
  have := Option.some.inj (hx.symm.trans h')
  injection this with _ h2
  exact hne h2
theorem Built.graph {h : List Acc} (b : Built w wr g eb v h.length h.length rb B) (hB : ∀ i j, i < h.length → j < h.length → B i j = bitsOf h i j) : Graph wr g v h :=
  ⟨eb, b.cells, b.edges.lt, fun i hi => ⟨rb i, by rw [b.edges.cell hi, if_pos hi], (b.rows i hi).lt, fun j hj => by rw [(b.rows i hi).cell hj, hB i j hi hj]⟩⟩
def updB (B : Nat → Nat → Int) (i j : Nat) (x : Int) : Nat → Nat → Int := fun i' j' => if i' = i ∧ j' = j then x else B i' j'
/-- One cell of a row has turned. -/
theorem Built.set (b : Built w wr g eb v n k rb B) {i j : Nat} (hi : i < k) (x : Int) : Built w (wr.setCell ⟨rb i, j, none⟩ (.int .i64 x)) g eb v n k rb (updB B i j x) := by
  have hr := b.rows i hi
  have hne : ∀ i', i' < k → i' ≠ i → rb i' ≠ rb i := fun i' hi' h => by
    rcases Nat.lt_or_ge i' i with hlt | hge
    · have := b.inj i' i hlt hi; omega
    · have := b.inj i i' (by omega) hi'; omega
  refine ⟨b.below.setCell (b.rb_ge i hi) _, b.cells.kept (Below.heap_setCell _ _ _ _ (fun e => rowIs_cells_ne hr b.cells (by decide) e.symm)), b.edges.setOther (rowIs_ne b.edges hr (by decide)) _, fun i' hi' => ?_, b.inj, b.ge, b.g_ge, b.rb_ge⟩
  by_cases e : i' = i
  · subst e
    refine (hr.set j _).congr fun j' _ => ?_
    unfold updB
    by_cases e : j' = j
    · rw [if_pos e, if_pos ⟨rfl, e⟩]
    · rw [if_neg e, if_neg (fun h => e h.2)]
  · refine ((b.rows i' hi').setOther (a := ⟨rb i, j, none⟩) (hne i' hi' e) _).congr fun j' _ => ?_
    unfold updB
    rw [if_neg (fun h => e h.1)]
/-- A new row, of zeros, in a block that was laid behind all others. -/
theorem Built.row (b : Built w wr g eb v n k rb B) (hk : k < n) (o : Obj) : Built w ((((wr.setCell ⟨eb, k, none⟩ (.slice (some ⟨wr.heap.size + 1, 0, none⟩) n n)).alloc o).alloc (.cells (madeCells #[.int .i64 0] n) 3)).drew) g eb v n (k + 1) (fun i => if i = k then wr.heap.size + 1 else rb i) (fun i j => if i = k then 0 else B i j) := by
  have hs : (wr.setCell ⟨eb, k, none⟩ (.slice (some ⟨wr.heap.size + 1, 0, none⟩) n n)).heap.size = wr.heap.size := by simp [World.setCell]
  have hsz := b.below.size
  have e1 : Below w.heap.size w ((wr.setCell ⟨eb, k, none⟩ (.slice (some ⟨wr.heap.size + 1, 0, none⟩) n n)).alloc o) := (b.below.setCell b.ge _).alloc (by rw [hs]; omega) o
  have hs2 : ((wr.setCell ⟨eb, k, none⟩ (.slice (some ⟨wr.heap.size + 1, 0, none⟩) n n)).alloc o).heap.size = wr.heap.size + 1 := by simp [World.setCell]
  have ge_ne : eb ≠ g := rowIs_cells_ne b.edges b.cells (by decide)
  refine ⟨(e1.alloc (by rw [hs2]; omega) _).drew, ?_, ?_, fun i hi => ?_, fun i j hij hj => ?_, b.ge, b.g_ge, fun i hi => ?_⟩
  · refine b.cells.kept ?_
    have hlt := b.cells.lt
    show ((World.alloc _ _).heap)[g]? = _
    rw [Below.heap_alloc _ _ _ (by rw [hs2]; omega), Below.heap_alloc _ _ _ (by rw [hs]; omega), Below.heap_setCell _ _ _ _ (fun e => ge_ne e.symm)]
  · refine ((((b.edges.set k (.slice (some ⟨wr.heap.size + 1, 0, none⟩) n n)).alloc o).alloc _).drew).congr fun i hi => ?_
    by_cases e : i = k
    · subst e; simp
    · by_cases h : i < k
      · simp only [e, if_false, h, if_true, if_pos (show i < k + 1 by omega)]
      · simp only [e, if_false, h, if_neg (show ¬ i < k + 1 by omega)]
  · by_cases e : i = k
    · subst e
      have := (World.rowIs_made ((wr.setCell ⟨eb, i, none⟩ (.slice (some ⟨wr.heap.size + 1, 0, none⟩) n n)).alloc o) (.int .i64 0) n 3).drew
      rw [hs2] at this
      simp only [if_true]
      exact this
    · have hr := b.rows i (by omega)
      simp only [if_neg e]
      exact (((hr.setOther (a := ⟨eb, k, none⟩) (fun h => rowIs_ne b.edges hr (by decide) h.symm) _).alloc o).alloc _).drew
  · by_cases e : j = k
    · have hr := (b.rows i (by omega)).lt
      simp only [e, if_true, if_neg (show i ≠ k by omega)]
      omega
    · simp only [if_neg e, if_neg (show i ≠ k by omega)]
      exact b.inj i j hij (by omega)
  · by_cases e : i = k
    · simp only [e, if_true]; omega
    · simp only [if_neg e]
      exact b.rb_ge i (by omega)
end
end Go.Proofs.Ytlfpkikmofgjfaa
