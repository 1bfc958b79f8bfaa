/- Small words on memory: a block known whole; what has been written; where a slice of whole numbers reads. Over whatever program. -/
import Derived.WalkKit
import Derived.WalkLawsBesides
import Derived.Maps.OwnSet
import Derived.Maps.AppendAt
namespace Go.Proofs.Ytlfpkikmofgjfaa
open Go.RowKit

/-- Block g holds just the cells cs, of type t. -/
def Cells (w : World) (g : Nat) (t : TypeId) (cs : Array Value) : Prop := w.heap[g]? = some (.cells cs t)
section
variable {w w' : World} {g : Nat} {t : TypeId} {cs : Array Value}
theorem Cells.lt (h : Cells w g t cs) : g < w.heap.size := (Array.getElem?_eq_some_iff.1 h).1
theorem Cells.cell (h : Cells w g t cs) (i : Nat) : w.cell? ⟨g, i, none⟩ = cs[i]? := by simp [World.cell?, show w.heap[g]? = some (.cells cs t) from h]
theorem Cells.free (h : Cells w g t cs) (i : Nat) : w.frozen? ⟨g, i, none⟩ = false := by simp [World.frozen?, show w.heap[g]? = some (.cells cs t) from h]
theorem Cells.kept (h : Cells w g t cs) (hk : w'.heap[g]? = w.heap[g]?) : Cells w' g t cs := hk.trans h
theorem Cells.made (w : World) (t : TypeId) (cs : Array Value) : Cells (w.alloc (.cells cs t)) w.heap.size t cs := (MapKept.heap_alloc w _).1
theorem Cells.set (h : Cells w g t cs) (i : Nat) (u : Value) : Cells (w.setCell ⟨g, i, none⟩ u) g t (cs.setIfInBounds i u) := by
  have h' : w.heap[g]? = some (.cells cs t) := h
  unfold Cells World.setCell
  rw [Array.getElem?_modify]
  simp [h']
theorem Cells.other (h : Cells w g t cs) {t' : TypeId} {g' : Nat} {cs' : Array Value} (h' : Cells w g' t' cs') (hne : t ≠ t') : g ≠ g' := by
  rintro rfl
  have := Option.some.inj ((show w.heap[g]? = _ from h).symm.trans h')
  injection this with _ h2
  exact hne h2
end

/-- w' is w but for new blocks and the blocks of F. -/
structure Only (w w' : World) (F : Nat → Prop) : Prop where
  os : w'.os = w.os
  tape : w'.tape = w.tape
  output : w'.output = w.output
  size : w.heap.size ≤ w'.heap.size
  block : ∀ k, k < w.heap.size → ¬ F k → w'.heap[k]? = w.heap[k]?
section
variable {w w1 w2 : World} {F G : Nat → Prop}
theorem Only.refl (w : World) (F : Nat → Prop) : Only w w F := ⟨rfl, rfl, rfl, Nat.le_refl _, fun _ _ _ => rfl⟩
theorem Only.trans (h : Only w w1 F) (k : Only w1 w2 G) (hG : ∀ b, b < w.heap.size → G b → F b) : Only w w2 F :=
  ⟨k.os.trans h.os, k.tape.trans h.tape, k.output.trans h.output, Nat.le_trans h.size k.size, fun b hb hF => (k.block b (Nat.lt_of_lt_of_le hb h.size) (fun hg => hF (hG b hb hg))).trans (h.block b hb hF)⟩
theorem Only.mono (h : Only w w1 F) (hFG : ∀ b, F b → G b) : Only w w1 G := ⟨h.os, h.tape, h.output, h.size, fun b hb hG => h.block b hb (fun hf => hG (hFG b hf))⟩
theorem Only.of_below (h : Below w.heap.size w w1) (F : Nat → Prop) : Only w w1 F := ⟨h.os, h.tape, h.output, h.size, fun b hb _ => h.block b hb⟩
theorem Only.of_drewN (w : World) (n : Nat) (F : Nat → Prop) : Only w (w.drewN n) F := ⟨rfl, rfl, rfl, Nat.le_refl _, fun _ _ _ => rfl⟩
theorem Only.drewN (h : Only w w1 F) (n : Nat) : Only w (w1.drewN n) F := ⟨h.os, h.tape, h.output, h.size, h.block⟩
theorem Only.drew (h : Only w w1 F) : Only w w1.drew F := ⟨h.os, h.tape, h.output, h.size, h.block⟩
theorem Only.alloc (h : Only w w1 F) (o : Obj) : Only w (w1.alloc o) F :=
  ⟨h.os, h.tape, h.output, by simp; have := h.size; omega, fun b hb hF => (Below.heap_alloc w1 o b (Nat.lt_of_lt_of_le hb h.size)).trans (h.block b hb hF)⟩
theorem Only.setCell (h : Only w w1 F) {p : Addr} (hp : F p.block ∨ w.heap.size ≤ p.block) (u : Value) : Only w (w1.setCell p u) F :=
  ⟨h.os, h.tape, h.output, by have := h.size; simp [World.setCell]; omega,
   fun b hb hF => (Below.heap_setCell w1 p u b (by rintro rfl; rcases hp with hp | hp; exact hF hp; omega)).trans (h.block b hb hF)⟩
theorem Only.turned (h : Only w w1 F) {b : Nat} (k : w1.mapTurned w2 b) (hb : F b ∨ w.heap.size ≤ b) : Only w w2 F := by
  have hg := k.grown
  refine ⟨hg.os.trans h.os, hg.tape.trans h.tape, hg.output.trans h.output, Nat.le_trans h.size hg.size, fun c hc hF => ?_⟩
  refine (hg.block c (Nat.lt_of_lt_of_le hc h.size) ?_).trans (h.block c hc hF)
  intro e
  have e' : c = b := Option.some.inj e
  subst e'
  rcases hb with hb | hb
  · exact hF hb
  · omega
theorem Only.grown (h : Only w w1 F) {row : Option Nat} (hg : w1.grownBy w2 row) (hr : ∀ k, row = some k → F k ∨ w.heap.size ≤ k) : Only w w2 F := by
  refine ⟨hg.os.trans h.os, hg.tape.trans h.tape, hg.output.trans h.output, Nat.le_trans h.size hg.size, fun c hc hF => ?_⟩
  refine (hg.block c (Nat.lt_of_lt_of_le hc h.size) ?_).trans (h.block c hc hF)
  intro e
  rcases hr c e.symm with hb | hb
  · exact hF hb
  · omega
theorem Only.below {B : Nat} (h : Only w w1 F) (hF : ∀ b, F b → B ≤ b) (hB : B ≤ w.heap.size) : Below B w w1 :=
  ⟨h.os, h.tape, h.output, h.size, fun b hb => h.block b (Nat.lt_of_lt_of_le hb hB) (fun hf => by have := hF b hf; omega)⟩
end

/-- A slice value that reads as whole numbers: nil if there are none; its block is one of F. -/
def Nums (w : World) (v : Value) (xs : List Int) (F : Nat → Prop) : Prop :=
  (xs = [] ∧ v = .slice none 0 0) ∨
  ∃ g c, v = .slice (some ⟨g, 0, none⟩) xs.length c ∧ 0 < xs.length ∧ xs.length ≤ 9223372036854775807 ∧ F g ∧ g < w.heap.size ∧ ∀ j, j < xs.length → w.cell? ⟨g, j, none⟩ = some (.int .i64 (xs.getD j 0))
theorem Nums.kept {w w' : World} {v : Value} {xs : List Int} {F G : Nat → Prop} (h : Nums w v xs F) (hs : w.heap.size ≤ w'.heap.size) (hk : ∀ g, F g → g < w.heap.size → G g ∧ w'.heap[g]? = w.heap[g]?) : Nums w' v xs G := by
  rcases h with h | ⟨g, c, e, hp, hm, hF, hlt, hcell⟩
  · exact .inl h
  · obtain ⟨hG, hb⟩ := hk g hF hlt
    exact .inr ⟨g, c, e, hp, hm, hG, by omega, fun j hj => by rw [← hcell j hj]; simp [World.cell?, hb]⟩
theorem Nums.nil (w : World) (F : Nat → Prop) : Nums w (.slice none 0 0) [] F := .inl ⟨rfl, rfl⟩

/-- A row of whole numbers that the call owns, from block base on. -/
def Row (w : World) (base : Nat) (e : TypeId) (v : Value) (xs : List Int) : Prop := w.ownsRow base e 1 v xs.length (xs.map fun x => Value.int .i64 x) ∧ (xs = [] → v = .slice none 0 0)
theorem Row.nil (w : World) (base : Nat) (e : TypeId) : Row w base e (.slice none 0 0) [] := ⟨⟨rfl, .inl ⟨rfl, rfl⟩⟩, fun _ => rfl⟩
theorem Row.kept {w w' : World} {base : Nat} {e : TypeId} {v : Value} {xs : List Int} (h : Row w base e v xs) (_hs : w.heap.size ≤ w'.heap.size) (hk : ∀ b, base ≤ b → b < w.heap.size → w'.heap[b]? = w.heap[b]?) : Row w' base e v xs := by
  obtain ⟨⟨hl, h⟩, hn⟩ := h
  refine ⟨⟨hl, ?_⟩, hn⟩
  rcases h with h | ⟨g, cap, cur, h1, h2, h3, h4⟩
  · exact .inl h
  · exact .inr ⟨g, cap, cur, h1, h2, (hk g h2 (Array.getElem?_eq_some_iff.1 h3).1).trans h3, h4⟩
theorem Row.keptAt {w w' : World} {base : Nat} {e : TypeId} {v : Value} {xs : List Int} (h : Row w base e v xs) (hk : ∀ b, v.ownBlock = some b → w'.heap[b]? = w.heap[b]?) : Row w' base e v xs := by
  obtain ⟨⟨hl, h⟩, hn⟩ := h
  refine ⟨⟨hl, ?_⟩, hn⟩
  rcases h with h | ⟨g, cap, cur, h1, h2, h3, h4⟩
  · exact .inl h
  · exact .inr ⟨g, cap, cur, h1, h2, (hk g (by rw [h1]; rfl)).trans h3, h4⟩
theorem Row.mono {w : World} {base base' : Nat} {e : TypeId} {v : Value} {xs : List Int} (h : Row w base e v xs) (hb : base' ≤ base) : Row w base' e v xs := by
  obtain ⟨⟨hl, h⟩, hn⟩ := h
  refine ⟨⟨hl, ?_⟩, hn⟩
  rcases h with h | ⟨g, cap, cur, h1, h2, h3, h4⟩
  · exact .inl h
  · exact .inr ⟨g, cap, cur, h1, by omega, h3, h4⟩
theorem Row.setCell {w : World} {base : Nat} {e : TypeId} {v : Value} {xs : List Int} (h : Row w base e v xs) {p : Addr} (hp : p.block < base) (u : Value) : Row (w.setCell p u) base e v xs :=
  h.kept (by simp [World.setCell]) fun b hb _ => Below.heap_setCell w p u b (by omega)
theorem Row.drewN {w : World} {base : Nat} {e : TypeId} {v : Value} {xs : List Int} (h : Row w base e v xs) (n : Nat) : Row (w.drewN n) base e v xs := h
theorem Row.alloc {w : World} {base : Nat} {e : TypeId} {v : Value} {xs : List Int} (h : Row w base e v xs) (o : Obj) : Row (w.alloc o) base e v xs := ⟨h.1.alloc o, h.2⟩
theorem Row.nums {w : World} {base : Nat} {e : TypeId} {v : Value} {xs : List Int} (h : Row w base e v xs) : Nums w v xs (fun b => base ≤ b ∧ v.ownBlock = some b) := by
  obtain ⟨⟨hl, h⟩, hn⟩ := h
  by_cases h0 : xs = []
  · exact .inl ⟨h0, hn h0⟩
  · have hp : 0 < xs.length := List.length_pos_iff.2 h0
    rcases h with ⟨_, h⟩ | ⟨g, cap, cur, h1, h2, h3, h4, h5, h6, h7⟩
    · omega
    · refine .inr ⟨g, cap, h1, hp, by simp only [maxLen] at h5; omega, ⟨h2, by rw [h1]; rfl⟩, (Array.getElem?_eq_some_iff.1 h3).1, fun j hj => ?_⟩
      have e1 : (cur.toList.take (xs.length * 1))[j]? = some (.int .i64 (xs.getD j 0)) := by rw [h7]; simp [hj, List.getD]
      rw [List.getElem?_take] at e1
      simp only [Nat.mul_one, hj, if_true, Array.getElem?_toList] at e1
      simp [World.cell?, h3, e1]

section
variable {P : Program} {ops : Array Oper} {rest : List Oper} {o : Oper} {a : Act} {Q : Exit → Act → World → Prop}
/-- 'append(v, x)', x an element of 'size' cells, which the translation has just laid in a block of its own. -/
theorem wpList_app_one (W : World) (base : Nat) (hgd : o.guard = none) (s x : Operand) (t e : TypeId) (z : Value) (size bytes : Nat)
    (ho : o.op = .call { callee := .builtin .append, args := #[s, x], argTypes := #[t, t] })
    (ht : P.underlying t = some (.slice e)) (hinfo : (P.info? e).map (fun i => (i.zero, i.size, i.bytes)) = some (some z, size, bytes)) (hz : z.cells.size = size) (hsz : 0 < size)
    (v : Value) (n : Nat) (xs news : List Value) (hs : a.eval s = v) (hx : a.eval x = .slice (some ⟨W.heap.size, 0, none⟩) 1 1) (HO : W.ownsRow base e size v n xs) (hl : news.length = size) (h1 : ∀ u ∈ news, u.oneCell' = true)
    (hn : n + 1 ≤ maxLen) (hb : (n + 1) * bytes ≤ 140737488355328) (hbase : base ≤ W.heap.size)
    (h : ∀ v1 w1, w1.ownsRow base e size v1 (n + 1) (xs ++ news) → W.grownBy w1 v.ownBlock → (v1.ownBlock = v.ownBlock ∨ ∃ b, v1.ownBlock = some b ∧ W.heap.size ≤ b) → wpList P ops Q rest (a.put o.dst v1) w1) :
    wpList P ops Q (o :: rest) a (W.alloc (.cells news.toArray e)) := by
  obtain ⟨i0, hi, hzz⟩ := Option.map_eq_some_iff.1 hinfo
  simp only [Prod.mk.injEq] at hzz
  obtain ⟨hz0, hz1, hz2⟩ := hzz
  refine wpList_append_own_at (W.alloc (.cells news.toArray e)) hgd s x t ho base e i0 z size bytes ht hi hz0 hz1 hz2 hz hsz v n xs hs (HO.alloc _) ⟨W.heap.size, 0, none⟩ 1 1 news hx (by omega)
    (fun j u hj => ?_) h1 hn hb (by simp; omega) ?_
  · have ha : (⟨W.heap.size, 0, none⟩ : Addr).add j = ⟨W.heap.size, j, none⟩ := by unfold Addr.add; split <;> simp_all
    rw [ha, (Cells.made W e news.toArray).cell]
    simpa using hj
  · intro v1 w1 hown hg _ hat
    refine h v1 w1 hown (World.grownBy.trans (World.grownBy_alloc W _ _) hg) ?_
    rcases hat with hat | hat
    · exact .inl hat
    · exact .inr ⟨_, hat, by simp⟩
end
end Go.Proofs.Ytlfpkikmofgjfaa
