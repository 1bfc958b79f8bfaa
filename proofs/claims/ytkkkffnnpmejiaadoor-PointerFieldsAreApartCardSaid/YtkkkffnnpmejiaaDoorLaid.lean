/- What the condition on the listed package-level variables gives the walks: the cells of the two tables. -/
import Derived.Test.YtkkkffnnpmejiaaDoorRows
import Derived.Test.YtkkkffnnpmejiaaDoorWalkA
import Derived.ProofKit
import Derived.LaidMore
import Derived.OpenShut
import Derived.Stop.Joined
namespace Go.Proofs.YtkkkffnnpmejiaaDoor
open Go.ChangeShapes Go.WideShapes Go.ChangeAt Go.RowKit

theorem own : ownKnob Tryd.prog.godebug = none := by kernel_rfl
theorem gPointers : Tryd.prog.globalNamed "alum/pointer.pointers" = some 0 := by kernel_rfl
theorem gHeaders : Tryd.prog.globalNamed "alum/pointer.headers" = some 1 := by kernel_rfl
theorem tPointers : (Tryd.prog.globals[0]?).map (·.type) = some 46 := by kernel_rfl
theorem tHeaders : (Tryd.prog.globals[1]?).map (·.type) = some 48 := by kernel_rfl
theorem c45 : Tryd.prog.cellsOf 45 = 2 := by kernel_rfl
theorem c3 : Tryd.prog.cellsOf 3 = 1 := by kernel_rfl
theorem c46 : Tryd.prog.cellsOf 46 = 4 := by kernel_rfl
theorem c48 : Tryd.prog.cellsOf 48 = 6 := by kernel_rfl

/-- A part that reads as two numbers is these two cells. -/
theorem part_cells {H : Type} {enc : TypeId × Value → H} {w : World} {base : Nat} {sp : Nat → Bool} {held : Bool} {fuel : Nat} {cs : List Value} {x : DataW H × List MemPlace} {a b : Int}
    (h : DataW.trod enc Tryd.prog w base sp held fuel 45 cs = some x) (hx : x.1 = .agg [.lit (.int .i64 a), .lit (.int .i64 b)]) : cs = [.int .i64 a, .int .i64 b] := by
  obtain ⟨y0, y1, n, rfl, hl, h0, h1⟩ := trod_struct2 Tryd.underlying45 h
  rw [c45] at hl
  rw [c3] at h0 h1
  match cs, hl with
  | [c0, c1], _ =>
    obtain ⟨n0, e0, rfl, _⟩ := DataW.trod_int Tryd.underlying3 h0
    obtain ⟨n1, e1, rfl, _⟩ := DataW.trod_int Tryd.underlying3 h1
    simp at hx e0 e1
    obtain ⟨rfl, rfl⟩ := hx
    rw [e0, e1]
theorem at_of {W : World} {n : String} {g : Nat} {cs : Array Value} {l : List Value} (hg : Tryd.prog.globalNamed n = some g) (hv : W.var? Tryd.prog n = some cs) (hl : cs.toList = l) (i : Nat) : W.cell? ⟨g, i, none⟩ = l[i]? := by
  rw [World.var?_cell hg hv i, ← hl, Array.getElem?_toList]
theorem laid_of {W : World} (h : laidMetH Tryd.prog [("alum/pointer.pointers", Rows.laid_alum_pointer_pointers), ("alum/pointer.headers", Rows.laid_alum_pointer_headers)] W) : Laid W := by
  rw [MakeChecks.laidMetH_plain _ _ _ (by kernel_rfl)] at h
  obtain ⟨ps, ⟨g0, t0, cs0, f0, p0, q0, hg0, ht0, hv0, hd0, ⟨g1, t1, cs1, f1, p1, q1, hg1, ht1, hv1, hd1, _, _⟩, _⟩, _, _⟩ := h
  obtain rfl := Option.some.inj (gPointers.symm.trans hg0)
  obtain rfl := Option.some.inj (gHeaders.symm.trans hg1)
  obtain rfl := Option.some.inj (tPointers.symm.trans ht0)
  obtain rfl := Option.some.inj (tHeaders.symm.trans ht1)
  obtain ⟨xs0, m0, rfl, hx0, hl0, hn0, he0⟩ := DataW.trod_array Tryd.underlying46 hd0
  obtain ⟨xs1, m1, rfl, hx1, hl1, hn1, he1⟩ := DataW.trod_array Tryd.underlying48 hd1
  rw [c46] at hl0
  rw [c48] at hl1
  simp only [c45] at he0 he1
  have L0 : cs0.toList = [.int .i64 0, .int .i64 12, .int .i64 12, .int .i64 20] := by
    match xs0, hn0, hx0, he0 0 (by decide), he0 1 (by decide) with
    | [y0, y1], _, hx, e0, e1 =>
      simp only [Rows.laid_alum_pointer_pointers, List.map_cons, List.map_nil, Prod.mk.injEq, DataW.agg.injEq, List.cons.injEq] at hx
      have k0 := part_cells (show _ = some y0 from e0) hx.1.1.symm
      have k1 := part_cells (show _ = some y1 from e1) hx.1.2.1.symm
      match hc : cs0.toList, hl0 with
      | [a, b, c, d], _ =>
        rw [hc] at k0 k1
        simp at k0 k1
        simp [k0, k1]
  have L1 : cs1.toList = [.int .i64 0, .int .i64 4, .int .i64 4, .int .i64 3, .int .i64 7, .int .i64 20] := by
    match xs1, hn1, hx1, he1 0 (by decide), he1 1 (by decide), he1 2 (by decide) with
    | [y0, y1, y2], _, hx, e0, e1, e2 =>
      simp only [Rows.laid_alum_pointer_headers, List.map_cons, List.map_nil, Prod.mk.injEq, DataW.agg.injEq, List.cons.injEq] at hx
      have k0 := part_cells (show _ = some y0 from e0) hx.1.1.symm
      have k1 := part_cells (show _ = some y1 from e1) hx.1.2.1.symm
      have k2 := part_cells (show _ = some y2 from e2) hx.1.2.2.1.symm
      match hc : cs1.toList, hl1 with
      | [a, b, c, d, e, f], _ =>
        rw [hc] at k0 k1 k2
        simp at k0 k1 k2
        simp [k0, k1, k2]
  have P := at_of gPointers hv0 L0
  have Q := at_of gHeaders hv1 L1
  exact ⟨World.block_lt_of_cell? W ⟨1, 0, none⟩ (u := .int .i64 0) (Q 0), P 0, P 1, P 2, P 3, Q 0, Q 1, Q 2, Q 3, Q 4, Q 5⟩
/-- The door's own heap meets the condition. -/
theorem door_met (os : Os) (args : Array Value) : laidMetH Tryd.prog [("alum/pointer.pointers", Rows.laid_alum_pointer_pointers), ("alum/pointer.headers", Rows.laid_alum_pointer_headers)] ((World.doorLaid Tryd.prog 400 os).forCall (fun _ _ => 0) ⟨#[], args, []⟩).memory :=
  laidMetH_of_parts3 (fuel := 8) (laidMet_of_run' 8 (by kernel_rfl) (by kernel_rfl)) (by kernel_rfl) (by kernel_rfl)
end Go.Proofs.YtkkkffnnpmejiaaDoor
