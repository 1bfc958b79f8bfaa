/- Rows of pairs in memory; the pairs of a graph. -/
import Derived.Test.YtlfpkikmofgjfaaGraph
namespace Go.Proofs.Ytlfpkikmofgjfaa
open Go.RowKit

theorem info55 : (Try.prog.info? 55).map (fun i => (i.zero, i.size, i.bytes)) = some (some (.agg #[.int .i64 0, .int .i64 0]), 2, 16) := by kernel_rfl
def flatP (ps : List (Nat × Nat)) : List Value := ps.flatMap fun r => [Value.int .i64 r.1, Value.int .i64 r.2]
/-- A row of pairs that the call owns. -/
def Prs (w : World) (base : Nat) (v : Value) (ps : List (Nat × Nat)) : Prop := w.ownsRow base 55 2 v ps.length (flatP ps) ∧ (ps = [] → v = .slice none 0 0)
theorem Prs.nil (w : World) (base : Nat) : Prs w base (.slice none 0 0) [] := ⟨⟨rfl, .inl ⟨rfl, rfl⟩⟩, fun _ => rfl⟩
/-- A slice value that reads as pairs. -/
def PNums (w : World) (v : Value) (ps : List (Nat × Nat)) : Prop :=
  ∃ A c, v = .slice A ps.length c ∧ ps.length ≤ 9223372036854775807 ∧ ∀ j, j < ps.length → ∃ g, A = some ⟨g, 0, none⟩ ∧ g < w.heap.size ∧
    w.cell? ⟨g, j * 2, none⟩ = some (.int .i64 (ps.getD j (0, 0)).1) ∧ w.cell? ⟨g, j * 2 + 1, none⟩ = some (.int .i64 (ps.getD j (0, 0)).2)
theorem PNums.below {w w' : World} {v : Value} {ps : List (Nat × Nat)} (h : PNums w v ps) (hb : Below w.heap.size w w') : PNums w' v ps := by
  obtain ⟨A, c, e, hm, hc⟩ := h
  refine ⟨A, c, e, hm, fun j hj => ?_⟩
  obtain ⟨g, e1, h1, h2, h3⟩ := hc j hj
  exact ⟨g, e1, by have := hb.size; omega, (hb.cell (p := ⟨g, j * 2, none⟩) h1).trans h2, (hb.cell (p := ⟨g, j * 2 + 1, none⟩) h1).trans h3⟩
theorem flat_get : ∀ (ps : List (Nat × Nat)) (j : Nat), j < ps.length →
    (flatP ps)[j * 2]? = some (.int .i64 (ps.getD j (0, 0)).1) ∧ (flatP ps)[j * 2 + 1]? = some (.int .i64 (ps.getD j (0, 0)).2)
  | [], _, h => by simp at h
  | r :: ps, 0, _ => by simp [flatP, List.flatMap_cons]
  | r :: ps, j + 1, h => by
    have := flat_get ps j (by simpa using h)
    unfold flatP at this ⊢
    rw [List.flatMap_cons, show (j + 1) * 2 = j * 2 + 2 by omega]
    simpa using this
theorem Prs.read {w : World} {base : Nat} {v : Value} {ps : List (Nat × Nat)} (h : Prs w base v ps) : PNums w v ps := by
  obtain ⟨⟨hl, h⟩, hn⟩ := h
  by_cases h0 : ps = []
  · subst h0
    exact ⟨none, 0, hn rfl, by simp, fun j hj => (by simp at hj)⟩
  · have hp : 0 < ps.length := List.length_pos_iff.2 h0
    rcases h with ⟨_, h⟩ | ⟨g, cap, cur, h1, h2, h3, h4, h5, h6, h7⟩
    · omega
    · refine ⟨_, cap, h1, by simp only [maxLen] at h5; omega, fun j hj => ⟨g, rfl, (Array.getElem?_eq_some_iff.1 h3).1, ?_⟩⟩
      have hk : ∀ i, i < ps.length * 2 → w.cell? ⟨g, i, none⟩ = (flatP ps)[i]? := fun i hi => by
        rw [← h7, List.getElem?_take, if_pos hi]
        simp [World.cell?, h3]
      obtain ⟨k1, k2⟩ := flat_get ps j hj
      exact ⟨(hk _ (by omega)).trans k1, (hk _ (by omega)).trans k2⟩
theorem PNums.lit (w : World) (ps : List (Nat × Nat)) (c : Nat) (hm : ps.length ≤ 1000000) (t : TypeId) : PNums (w.alloc (.cells (flatP ps).toArray t)) (.slice (some ⟨w.heap.size, 0, none⟩) ps.length c) ps := by
  refine ⟨_, c, rfl, by omega, fun j hj => ⟨w.heap.size, rfl, by simp, ?_⟩⟩
  rw [(Cells.made w t _).cell, (Cells.made w t _).cell]
  simpa using flat_get ps j hj
theorem flatP_append (a b : List (Nat × Nat)) : flatP (a ++ b) = flatP a ++ flatP b := by simp [flatP]
section
variable {ops : Array Oper} {rest : List Oper} {o : Oper} {a : Act} {Q : Exit → Act → World → Prop}
/-- 'append(v, [2]int{i, j})'. -/
theorem wpList_app_pair (W : World) (base : Nat) (hgd : o.guard = none) (s x : Operand) (ho : o.op = .call { callee := .builtin .append, args := #[s, x], argTypes := #[45, 45] })
    (v : Value) (ps : List (Nat × Nat)) (i j : Nat) (hs : a.eval s = v) (hx : a.eval x = .slice (some ⟨W.heap.size, 0, none⟩) 1 1) (hv : Prs W base v ps) (hn : ps.length ≤ 1000000) (hbase : base ≤ W.heap.size)
    (hK : ∀ v1 w1, Prs w1 base v1 (ps ++ [(i, j)]) → W.grownBy w1 v.ownBlock → (∀ b, v.ownBlock = some b → base ≤ b) → wpList Try.prog ops Q rest (a.put o.dst v1) w1) :
    wpList Try.prog ops Q (o :: rest) a (W.alloc (.cells #[.int .i64 i, .int .i64 j] 55)) := by
  refine wpList_app_one W base hgd s x 45 55 (.agg #[.int .i64 0, .int .i64 0]) 2 16 ho Try.underlying45 info55 rfl (by omega) v ps.length (flatP ps) [.int .i64 i, .int .i64 j] hs hx hv.1 rfl (by simp [Value.oneCell']) (by simp only [maxLen]; omega) (by omega) hbase (fun v1 w1 h1 h2 h3 => hK v1 w1 ⟨?_, fun e => ?_⟩ h2 (fun b hb => (hv.1.lt b hb).1))
  · rw [flatP_append]
    simpa [flatP] using h1
  · simp at e
end
/-- The pairs before (k, m). -/
def pairsTo (n : Nat) (p : Nat → Nat → Bool) (k m : Nat) : List (Nat × Nat) := ((List.range k).flatMap fun i => ((List.range n).filter (p i)).map fun j => (i, j)) ++ ((List.range m).filter (p k)).map fun j => (k, j)
theorem pairsTo_step (n : Nat) (p : Nat → Nat → Bool) (k m : Nat) : pairsTo n p k (m + 1) = pairsTo n p k m ++ (if p k m = true then [(k, m)] else []) := by
  unfold pairsTo
  rw [List.range_succ, List.filter_append, List.map_append, ← List.append_assoc]
  congr 1
  by_cases h : p k m = true
  · simp [h]
  · have : p k m = false := by simpa using h
    simp [this]
theorem pairsTo_row (n : Nat) (p : Nat → Nat → Bool) (k : Nat) : pairsTo n p k n = pairsTo n p (k + 1) 0 := by
  unfold pairsTo
  rw [List.range_succ, List.flatMap_append]
  simp
theorem pairsTo_all (n : Nat) (p : Nat → Nat → Bool) : pairsTo n p n 0 = pairsOf n p := by simp [pairsTo, pairsOf]
theorem and_cases (h : List Acc) (i j : Nat) : bitsOf h i j = 0 ∨ bitsOf h i j = 1 ∨ bitsOf h i j = 2 ∨ bitsOf h i j = 3 := by
  unfold bitsOf
  cases plainB h i j <;> cases antiB h i j <;> simp
theorem and_two (h : List Acc) (i j : Nat) : (bits BinOp.and IntKind.i64 (bitsOf h i j) 2 != 0) = antiB h i j := by
  unfold bitsOf
  cases plainB h i j <;> cases antiB h i j <;> decide
theorem and_three (h : List Acc) (i j : Nat) : (bits BinOp.and IntKind.i64 (bitsOf h i j) 3 != 0) = edgeB h i j := by
  rw [edge_split]
  unfold bitsOf
  cases plainB h i j <;> cases antiB h i j <;> decide
theorem and_two' (h : List Acc) (i j : Nat) : (bits BinOp.and IntKind.i64 (bitsOf h i j) 2 == 0) = !antiB h i j := by
  unfold bitsOf
  cases plainB h i j <;> cases antiB h i j <;> decide
theorem bits_edge (h : List Acc) (i j : Nat) : (bitsOf h i j != 0) = edgeB h i j := by
  rw [edge_split]
  unfold bitsOf
  cases plainB h i j <;> cases antiB h i j <;> decide
end Go.Proofs.Ytlfpkikmofgjfaa
