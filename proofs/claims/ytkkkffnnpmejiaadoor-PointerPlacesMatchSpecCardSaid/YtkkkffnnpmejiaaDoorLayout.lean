/- A layout (a struct of eight integers, by value) as it comes in: opened, and shut again. -/
import Derived.Test.YtkkkffnnpmejiaaDoorLaid
import Derived.Lib.SmallJoins
import Derived.Deep.Strs
namespace Go.Proofs.YtkkkffnnpmejiaaDoor
open Go.ChangeShapes Go.WideShapes Go.ChangeAt Go.RowKit
theorem c35 : Tryd.prog.cellsOf 35 = 8 := by kernel_rfl
theorem cells8 {a : Array Value} (h : a.size = 8) : ∃ c0 c1 c2 c3 c4 c5 c6 c7, a = #[c0, c1, c2, c3, c4, c5, c6, c7] := by
  obtain ⟨l⟩ := a
  match l, h with
  | [c0, c1, c2, c3, c4, c5, c6, c7], _ => exact ⟨c0, c1, c2, c3, c4, c5, c6, c7, rfl⟩
theorem open_layout {H : Type} {enc : TypeId × Value → H} {W : World} {base b0 : Nat} {sp : Nat → Bool} {held : Bool} {v : Value} {d : DataW H} {p : List MemPlace} (hv : Value.okWide Tryd.prog W .any b0 35 v) (h : DataW.Trod enc Tryd.prog W base sp held 35 v d p) :
    ∃ l0 l1 l2 l3 l4 l5 l6 l7 : Int, v = .agg #[.int .i64 l0, .int .i64 l1, .int .i64 l2, .int .i64 l3, .int .i64 l4, .int .i64 l5, .int .i64 l6, .int .i64 l7] ∧ d = .agg [.lit (.int .i64 l0), .lit (.int .i64 l1), .lit (.int .i64 l2), .lit (.int .i64 l3), .lit (.int .i64 l4), .lit (.int .i64 l5), .lit (.int .i64 l6), .lit (.int .i64 l7)] ∧ p = [] ∧ (Lit.int .i64 l0).wf = true ∧ (Lit.int .i64 l1).wf = true ∧ (Lit.int .i64 l2).wf = true ∧ (Lit.int .i64 l3).wf = true ∧ (Lit.int .i64 l4).wf = true ∧ (Lit.int .i64 l5).wf = true ∧ (Lit.int .i64 l6).wf = true ∧ (Lit.int .i64 l7).wf = true := by
  obtain ⟨cs, rfl, hsz⟩ := okWide_struct Tryd.underlying35 hv
  obtain ⟨c0, c1, c2, c3, c4, c5, c6, c7, rfl⟩ := cells8 (hsz.trans c35)
  obtain ⟨fuel, hf⟩ := h
  obtain ⟨xs, n, _, hx, _, hlen, hget⟩ := DataW.trod_struct Tryd.underlying35 hf
  have g0 := hget 0 _ rfl
  have g1 := hget 1 _ rfl
  have g2 := hget 2 _ rfl
  have g3 := hget 3 _ rfl
  have g4 := hget 4 _ rfl
  have g5 := hget 5 _ rfl
  have g6 := hget 6 _ rfl
  have g7 := hget 7 _ rfl
  simp only [Value.cells] at g0 g1 g2 g3 g4 g5 g6 g7
  match xs, hlen with
  | [y0, y1, y2, y3, y4, y5, y6, y7], _ =>
    obtain ⟨n0, e0, r0, w0⟩ := DataW.trod_int Tryd.underlying3 (show _ = some y0 from g0)
    obtain ⟨n1, e1, r1, w1⟩ := DataW.trod_int Tryd.underlying3 (show _ = some y1 from g1)
    obtain ⟨n2, e2, r2, w2⟩ := DataW.trod_int Tryd.underlying3 (show _ = some y2 from g2)
    obtain ⟨n3, e3, r3, w3⟩ := DataW.trod_int Tryd.underlying3 (show _ = some y3 from g3)
    obtain ⟨n4, e4, r4, w4⟩ := DataW.trod_int Tryd.underlying3 (show _ = some y4 from g4)
    obtain ⟨n5, e5, r5, w5⟩ := DataW.trod_int Tryd.underlying3 (show _ = some y5 from g5)
    obtain ⟨n6, e6, r6, w6⟩ := DataW.trod_int Tryd.underlying3 (show _ = some y6 from g6)
    obtain ⟨n7, e7, r7, w7⟩ := DataW.trod_int Tryd.underlying3 (show _ = some y7 from g7)
    simp [Go.Proofs.YtkkkffnnpmejiaaDoor.c3] at e0 e1 e2 e3 e4 e5 e6 e7
    subst e0 e1 e2 e3 e4 e5 e6 e7 r0 r1 r2 r3 r4 r5 r6 r7
    simp only [Prod.mk.injEq] at hx
    exact ⟨n0, n1, n2, n3, n4, n5, n6, n7, rfl, by simpa using hx.1, by simpa using hx.2, w0, w1, w2, w3, w4, w5, w6, w7⟩
theorem shut_layout {H : Type} {enc : TypeId × Value → H} {W : World} {base : Nat} {sp : Nat → Bool} {held : Bool} {l0 l1 l2 l3 l4 l5 l6 l7 : Int} (w0 : (Lit.int .i64 l0).wf = true) (w1 : (Lit.int .i64 l1).wf = true) (w2 : (Lit.int .i64 l2).wf = true) (w3 : (Lit.int .i64 l3).wf = true) (w4 : (Lit.int .i64 l4).wf = true) (w5 : (Lit.int .i64 l5).wf = true) (w6 : (Lit.int .i64 l6).wf = true) (w7 : (Lit.int .i64 l7).wf = true) :
    DataW.Trod enc Tryd.prog W base sp held 35 (.agg #[.int .i64 l0, .int .i64 l1, .int .i64 l2, .int .i64 l3, .int .i64 l4, .int .i64 l5, .int .i64 l6, .int .i64 l7]) (.agg [.lit (.int .i64 l0), .lit (.int .i64 l1), .lit (.int .i64 l2), .lit (.int .i64 l3), .lit (.int .i64 l4), .lit (.int .i64 l5), .lit (.int .i64 l6), .lit (.int .i64 l7)]) [] := by
  refine ⟨2, ?_⟩
  simp [DataW.trod, Tryd.underlying35, Tryd.underlying3, c35, c3, Value.cells, w0, w1, w2, w3, w4, w5, w6, w7]
end Go.Proofs.YtkkkffnnpmejiaaDoor
