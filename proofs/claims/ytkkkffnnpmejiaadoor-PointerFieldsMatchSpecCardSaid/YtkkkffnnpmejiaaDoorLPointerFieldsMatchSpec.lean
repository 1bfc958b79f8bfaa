/- The walk of the law PointerFieldsMatchSpec. -/
import Derived.Test.YtkkkffnnpmejiaaDoorWalkF
namespace Go.Proofs.YtkkkffnnpmejiaaDoor.pointerFieldsMatchSpec
open Go.RowKit
set_option linter.unusedVariables false
set_option maxHeartbeats 400000 in
theorem walk (x a b v : Int) (w0 : (Lit.int .i64 x).wf = true) (w1 : (Lit.int .i64 a).wf = true) (w2 : (Lit.int .i64 b).wf = true) (w3 : (Lit.int .i64 v).wf = true) (w : World) (hl : Laid w) :
    Calls Tryd.prog 3 #[.int .i64 x, .int .i64 a, .int .i64 b, .int .i64 v] w fun e w' => e = .returned (.bool true) ∧ Below w.heap.size w w' := by
  clear w0 w1 w2 w3
  have hS := St.here hl
  clear hl
  go_enter Tryd.func3, Tryd.ntmps3
  go_wp2_with fail
  refine (sanity_any _ hS.l).mono ?_
  rintro e w1 ⟨rfl, hb⟩
  replace hS := hS.go hb
  clear hb
  go_wp2_with fail
  refine (field_any x a b _).mono ?_
  rintro e w2 ⟨rfl, hb⟩
  replace hS := hS.go hb
  clear hb
  go_wp2_with fail
  refine (rfield_any x a b _).mono ?_
  rintro e w3 ⟨rfl, n1, rfl⟩
  replace hS := hS.drewN n1
  go_wp2_with fail
  refine (with_any x a b v _).mono ?_
  rintro e w4 ⟨rfl, hb⟩
  replace hS := hS.go hb
  clear hb
  go_wp2_with fail
  refine (rwith_any x a b v _).mono ?_
  rintro e w5 ⟨rfl, n2, rfl⟩
  replace hS := hS.drewN n2
  go_wp2_with fail
  go_ret
  exact ⟨rfl, hS.b⟩
end Go.Proofs.YtkkkffnnpmejiaaDoor.pointerFieldsMatchSpec
