/- The walk of skew. -/
import Derived.Test.YtlfpkikmofgjfaaSkew
namespace Go.Proofs.Ytlfpkikmofgjfaa
open Go.RowKit

set_option maxHeartbeats 1000000 in
theorem skew_any (w : World) : Calls Try.prog 42 #[] w fun e w' => e = .returned (.slice (some ⟨w.heap.size + 4, 0, none⟩) 2 2) ∧ w' = ((((w.alloc (.cells #[.int .i64 1] 3)).alloc (.cells #[.int .i64 2] 3)).alloc (.cells #[.int .i64 2] 3)).alloc (.cells #[.int .i64 1] 3)).alloc (.cells #[.int .i64 1, .int .i64 0, .bool true, .int .i64 1, .slice (some ⟨w.heap.size, 0, none⟩) 1 1, .slice (some ⟨w.heap.size + 1, 0, none⟩) 1 1, .int .i64 1, .int .i64 0, .bool true, .int .i64 2, .slice (some ⟨w.heap.size + 2, 0, none⟩) 1 1, .slice (some ⟨w.heap.size + 3, 0, none⟩) 1 1] 29) := by
  go_enter Try.func42, Try.ntmps42
  go_wp2_with fail
  go_ret
  exact ⟨rfl, rfl⟩
/-- The cells of the example whose first list lies in block k. -/
def skC (k : Nat) (m : Int) (d : Bool) (s : Int) : Array Value := #[.int .i64 1, .int .i64 0, .bool true, .int .i64 1, .slice (some ⟨k, 0, none⟩) 1 1, .slice (some ⟨k + 1, 0, none⟩) 1 1, .int .i64 m, .int .i64 0, .bool d, .int .i64 s, .slice (some ⟨k + 2, 0, none⟩) 1 1, .slice (some ⟨k + 3, 0, none⟩) 1 1]
/-- The example in memory. -/
structure Sk (w : World) (k : Nat) (m : Int) (d : Bool) (s : Int) : Prop where
  cells : Cells w (k + 4) 29 (skC k m d s)
  l0 : Cells w k 3 #[.int .i64 1]
  l1 : Cells w (k + 1) 3 #[.int .i64 2]
  l2 : Cells w (k + 2) 3 #[.int .i64 2]
  l3 : Cells w (k + 3) 3 #[.int .i64 1]
theorem Sk.keep {w w' : World} {k : Nat} {m : Int} {d : Bool} {s : Int} (h : Sk w k m d s) (hb : Below w.heap.size w w') : Sk w' k m d s :=
  ⟨h.cells.kept (hb.block _ h.cells.lt), h.l0.kept (hb.block _ h.l0.lt), h.l1.kept (hb.block _ h.l1.lt), h.l2.kept (hb.block _ h.l2.lt), h.l3.kept (hb.block _ h.l3.lt)⟩
theorem Ints.one {w : World} {b : Nat} {x : Int} (h : Cells w b 3 #[.int .i64 x]) (hx : W64 x) : Ints w (.slice (some ⟨b, 0, none⟩) 1 1) [x] :=
  ⟨fun y hy => by simp only [List.mem_singleton] at hy; rw [hy]; exact hx, _, 1, rfl, by simp, by simp, fun j hj => ⟨b, 0, rfl, h.lt, by
    have : j = 0 := by simp at hj; omega
    subst this
    exact h.cell 0⟩⟩
theorem Sk.made (w : World) : Sk (((((w.alloc (.cells #[.int .i64 1] 3)).alloc (.cells #[.int .i64 2] 3)).alloc (.cells #[.int .i64 2] 3)).alloc (.cells #[.int .i64 1] 3)).alloc (.cells #[.int .i64 1, .int .i64 0, .bool true, .int .i64 1, .slice (some ⟨w.heap.size, 0, none⟩) 1 1, .slice (some ⟨w.heap.size + 1, 0, none⟩) 1 1, .int .i64 1, .int .i64 0, .bool true, .int .i64 2, .slice (some ⟨w.heap.size + 2, 0, none⟩) 1 1, .slice (some ⟨w.heap.size + 3, 0, none⟩) 1 1] 29)) w.heap.size 1 true 2 := by
  refine ⟨?_, ?_, ?_, ?_, ?_⟩
  · have := Cells.made ((((w.alloc (.cells #[.int .i64 1] 3)).alloc (.cells #[.int .i64 2] 3)).alloc (.cells #[.int .i64 2] 3)).alloc (.cells #[.int .i64 1] 3)) 29 (skC w.heap.size 1 true 2)
    simpa [skC] using this
  · refine (Cells.made w 3 #[.int .i64 1]).kept ?_
    rw [Below.heap_alloc _ _ _ (by (try simp only [World.size_alloc]); omega), Below.heap_alloc _ _ _ (by (try simp only [World.size_alloc]); omega), Below.heap_alloc _ _ _ (by (try simp only [World.size_alloc]); omega), Below.heap_alloc _ _ _ (by (try simp only [World.size_alloc]); omega)]
  · have := Cells.made (w.alloc (.cells #[.int .i64 1] 3)) 3 #[.int .i64 2]
    simp only [World.size_alloc] at this
    refine this.kept ?_
    rw [Below.heap_alloc _ _ _ (by (try simp only [World.size_alloc]); omega), Below.heap_alloc _ _ _ (by (try simp only [World.size_alloc]); omega), Below.heap_alloc _ _ _ (by (try simp only [World.size_alloc]); omega)]
  · have := Cells.made ((w.alloc (.cells #[.int .i64 1] 3)).alloc (.cells #[.int .i64 2] 3)) 3 #[.int .i64 2]
    simp only [World.size_alloc] at this
    refine this.kept ?_
    rw [Below.heap_alloc _ _ _ (by (try simp only [World.size_alloc]); omega), Below.heap_alloc _ _ _ (by (try simp only [World.size_alloc]); omega)]
  · have := Cells.made (((w.alloc (.cells #[.int .i64 1] 3)).alloc (.cells #[.int .i64 2] 3)).alloc (.cells #[.int .i64 2] 3)) 3 #[.int .i64 1]
    simp only [World.size_alloc] at this
    refine this.kept ?_
    rw [Below.heap_alloc _ _ _ (by (try simp only [World.size_alloc]); omega)]
theorem Sk.hist {w : World} {k : Nat} {m : Int} {d : Bool} {s : Int} (h : Sk w k m d s) (hm : W64 m) (hs : W64 s) : Hist w (.slice (some ⟨k + 4, 0, none⟩) 2 2) (skH m d s) :=
  ⟨_, 2, rfl, by simp [skH], by simp [skH], fun j hj => by
    have : j = 0 ∨ j = 1 := by simp [skH] at hj; omega
    rcases this with rfl | rfl
    · exact ⟨k + 4, 0, _, _, rfl, h.cells.lt, ⟨Ints.one h.l0 rfl, Ints.one h.l1 rfl, rfl, rfl, rfl⟩, h.cells.cell 0, h.cells.cell 1, h.cells.cell 2, h.cells.cell 3, h.cells.cell 4, h.cells.cell 5⟩
    · exact ⟨k + 4, 0, _, _, rfl, h.cells.lt, ⟨Ints.one h.l2 rfl, Ints.one h.l3 rfl, hm, rfl, hs⟩, h.cells.cell 6, h.cells.cell 7, h.cells.cell 8, h.cells.cell 9, h.cells.cell 10, h.cells.cell 11⟩⟩
theorem Sk.one {w : World} {k : Nat} {m : Int} {d : Bool} {s : Int} (h : Sk w k m d s) : Hist w (.slice (some ⟨k + 4, 0, none⟩) 1 2) skO :=
  ⟨_, 2, rfl, by simp [skO], by simp [skO], fun j hj => by
    have : j = 0 := by simp [skO] at hj; omega
    subst this
    exact ⟨k + 4, 0, _, _, rfl, h.cells.lt, ⟨Ints.one h.l0 rfl, Ints.one h.l1 rfl, rfl, rfl, rfl⟩, h.cells.cell 0, h.cells.cell 1, h.cells.cell 2, h.cells.cell 3, h.cells.cell 4, h.cells.cell 5⟩⟩
end Go.Proofs.Ytlfpkikmofgjfaa
