/- How lists of numbers and histories lie in memory. -/
import Derived.Test.YtlfpkikmofgjfaaProg
import Derived.Test.YtlfpkikmofgjfaaHeap
import Derived.Test.YtlfpkikmofgjfaaSets
import Derived.Test.YtlfpkikmofgjfaaIntMaps
import Derived.Test.YtlfpkikmofgjfaaBfs
import Derived.Deep.QuietTactic
import Derived.BigQuiet
import Derived.Lib.Hide
import Derived.LaidEql
import Derived.LaidEqlPtr
import Derived.Deep.LoopGhost
namespace Go.Proofs.Ytlfpkikmofgjfaa
open Go.RowKit

theorem ret_int {k : IntKind} {a b : Int} (h : a = b) : Ending.returned (.int k a) = .returned (.int k b) := by rw [h]
theorem ret_bool {a b : Bool} (h : a = b) : Ending.returned (.bool a) = .returned (.bool b) := by rw [h]
theorem ret_val {a b : Value} (h : a = b) : Ending.returned a = .returned b := by rw [h]
theorem wfI {n : Int} (h0 : -1000000000000000 ≤ n) (h1 : n ≤ 1000000000000000) : (Lit.int .i64 n).wf = true := by
  have e1 : IntKind.i64.min = -9223372036854775808 := by decide
  have e2 : IntKind.i64.max = 9223372036854775807 := by decide
  simp only [Lit.wf, e1, e2, Bool.and_eq_true, decide_eq_true_eq]
  omega
/-- A whole number of 64 bits. -/
def W64 (n : Int) : Prop := (Lit.int .i64 n).wf = true
theorem W64.bounds {n : Int} (h : W64 n) : -9223372036854775808 ≤ n ∧ n ≤ 9223372036854775807 := by
  have e1 : IntKind.i64.min = -9223372036854775808 := by decide
  have e2 : IntKind.i64.max = 9223372036854775807 := by decide
  simpa only [W64, Lit.wf, e1, e2, Bool.and_eq_true, decide_eq_true_eq] using h
/-- A slice value that reads as whole numbers, wherever it lies. -/
def Ints (w : World) (v : Value) (xs : List Int) : Prop :=
  (∀ x, x ∈ xs → W64 x) ∧ ∃ A c, v = .slice A xs.length c ∧ xs.length ≤ 9223372036854775807 ∧ xs.length ≤ c ∧ ∀ j, j < xs.length → ∃ b o, A = some ⟨b, o, none⟩ ∧ b < w.heap.size ∧ w.cell? ⟨b, o + j, none⟩ = some (.int .i64 (xs.getD j 0))
theorem Below.drewN' {B : Nat} {a w : World} (h : Below B a w) (n : Nat) : Below B a (w.drewN n) := ⟨h.os, h.tape, h.output, h.size, h.block⟩
theorem below_of_drewN (w : World) (n : Nat) : Below w.heap.size w (w.drewN n) := Below.drewN' (Below.refl _ _) n
/-- The same where every cell that is read is kept. -/
theorem Ints.carry {w w' : World} {v : Value} {xs : List Int} (h : Ints w v xs) (hs : w.heap.size ≤ w'.heap.size) (hk : ∀ b o, v = .slice (some ⟨b, o, none⟩) xs.length (match v with | .slice _ _ c => c | _ => 0) → 0 < xs.length → w'.heap[b]? = w.heap[b]?) : Ints w' v xs := by
  obtain ⟨hw, A, c, rfl, hm, hcap, hc⟩ := h
  refine ⟨hw, A, c, rfl, hm, hcap, fun j hj => ?_⟩
  obtain ⟨b, o, rfl, hlt, hcell⟩ := hc j hj
  refine ⟨b, o, rfl, by omega, ?_⟩
  rw [← hcell]
  simp [World.cell?, hk b o rfl (by omega)]
theorem Ints.below {w w' : World} {v : Value} {xs : List Int} (h : Ints w v xs) (hb : Below w.heap.size w w') : Ints w' v xs := by
  obtain ⟨hw, A, c, rfl, hm, hcap, hc⟩ := h
  refine ⟨hw, A, c, rfl, hm, hcap, fun j hj => ?_⟩
  obtain ⟨b, o, rfl, hlt, hcell⟩ := hc j hj
  refine ⟨b, o, rfl, by have := hb.size; omega, ?_⟩
  rw [← hcell]
  exact hb.cell (p := ⟨b, o + j, none⟩) hlt
theorem Ints.drewN {w : World} {v : Value} {xs : List Int} (h : Ints w v xs) (n : Nat) : Ints (w.drewN n) v xs := h
theorem Ints.alloc {w : World} {v : Value} {xs : List Int} (h : Ints w v xs) (o : Obj) : Ints (w.alloc o) v xs := h.below ((Below.refl _ _).alloc (Nat.le_refl _) _)
theorem Ints.nil (w : World) : Ints w (.slice none 0 0) [] := ⟨fun _ h => (by cases h), none, 0, rfl, by simp, by simp, fun j hj => (by simp at hj)⟩
theorem Ints.of_row {w : World} {base : Nat} {e : TypeId} {v : Value} {xs : List Int} (h : Row w base e v xs) (hw : ∀ x, x ∈ xs → W64 x) : Ints w v xs := by
  have hn := h.nums
  obtain ⟨⟨hl, h⟩, hnil⟩ := h
  rcases hn with ⟨rfl, rfl⟩ | ⟨g, c, rfl, h1, h2, h3, h4, h5⟩
  · exact Ints.nil w
  · rcases h with ⟨h, _⟩ | ⟨g', cap, cur, e1, _, _, _, _, hle, _⟩
    · cases h
    · injection e1 with e2 e3 e4
      exact ⟨hw, _, c, rfl, h2, by omega, fun j hj => ⟨g, 0, rfl, h4, by rw [Nat.zero_add]; exact h5 j hj⟩⟩
/-- The fields of a transaction whose lists are the values vr and vw. -/
def accCells (x : Acc) (vr vw : Value) : Array Value := #[.int .i64 x.mode, .int .i64 x.snap, .bool x.done, .int .i64 x.stamp, vr, vw]
/-- vr and vw read as the lists of a transaction, and its numbers are of 64 bits. -/
structure Reads (w : World) (x : Acc) (vr vw : Value) : Prop where
  r : Ints w vr x.reads
  w : Ints w vw x.writes
  mode : W64 x.mode
  snap : W64 x.snap
  stamp : W64 x.stamp
theorem Reads.below {w w' : World} {x : Acc} {vr vw : Value} (h : Reads w x vr vw) (hb : Below w.heap.size w w') : Reads w' x vr vw := ⟨h.r.below hb, h.w.below hb, h.mode, h.snap, h.stamp⟩
/-- A slice value that reads as a history. -/
def Hist (w : World) (v : Value) (h : List Acc) : Prop :=
  ∃ A c, v = .slice A h.length c ∧ h.length ≤ 9223372036854775807 ∧ h.length ≤ c ∧ ∀ j, j < h.length → ∃ b o vr vw, A = some ⟨b, o, none⟩ ∧ b < w.heap.size ∧ Reads w (tx h j) vr vw ∧
    w.cell? ⟨b, o + j * 6, none⟩ = some (.int .i64 (tx h j).mode) ∧ w.cell? ⟨b, o + j * 6 + 1, none⟩ = some (.int .i64 (tx h j).snap) ∧ w.cell? ⟨b, o + j * 6 + 2, none⟩ = some (.bool (tx h j).done) ∧
    w.cell? ⟨b, o + j * 6 + 3, none⟩ = some (.int .i64 (tx h j).stamp) ∧ w.cell? ⟨b, o + j * 6 + 4, none⟩ = some vr ∧ w.cell? ⟨b, o + j * 6 + 5, none⟩ = some vw
theorem Hist.below {w w' : World} {v : Value} {h : List Acc} (k : Hist w v h) (hb : Below w.heap.size w w') : Hist w' v h := by
  obtain ⟨A, c, rfl, hm, hcap, hc⟩ := k
  refine ⟨A, c, rfl, hm, hcap, fun j hj => ?_⟩
  obtain ⟨b, o, vr, vw, rfl, hlt, hr, c0, c1, c2, c3, c4, c5⟩ := hc j hj
  have hcell : ∀ i, w'.cell? ⟨b, i, none⟩ = w.cell? ⟨b, i, none⟩ := fun i => hb.cell (p := ⟨b, i, none⟩) hlt
  exact ⟨b, o, vr, vw, rfl, by have := hb.size; omega, hr.below hb, by rw [hcell]; exact c0, by rw [hcell]; exact c1, by rw [hcell]; exact c2, by rw [hcell]; exact c3, by rw [hcell]; exact c4, by rw [hcell]; exact c5⟩
theorem Hist.drewN {w : World} {v : Value} {h : List Acc} (k : Hist w v h) (n : Nat) : Hist (w.drewN n) v h := k.below (below_of_drewN w n)
theorem Hist.alloc {w : World} {v : Value} {h : List Acc} (k : Hist w v h) (o : Obj) : Hist (w.alloc o) v h := k.below ((Below.refl _ _).alloc (Nat.le_refl _) _)
/-- What holds of memory that was there holds behind a call that only makes memory. -/
theorem bcell {W w1 : World} (hb : Below W.heap.size W w1) : (∀ b o, b < W.heap.size → w1.cell? ⟨b, o, none⟩ = W.cell? ⟨b, o, none⟩) ∧ (∀ b o, b < W.heap.size → w1.frozen? ⟨b, o, none⟩ = W.frozen? ⟨b, o, none⟩) :=
  ⟨fun b o h => hb.cell (p := ⟨b, o, none⟩) h, fun b o h => hb.frozen (p := ⟨b, o, none⟩) h⟩
theorem getD_mem' {xs : List Int} {k : Nat} (h : k < xs.length) : xs.getD k 0 ∈ xs := by
  simp only [List.getD, List.getElem?_eq_getElem h, Option.getD_some]
  exact List.getElem_mem h
end Go.Proofs.Ytlfpkikmofgjfaa
