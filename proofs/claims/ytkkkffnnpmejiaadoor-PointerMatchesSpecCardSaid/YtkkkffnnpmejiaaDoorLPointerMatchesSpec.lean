/- The walk of the law PointerMatchesSpec. -/
import Derived.Test.YtkkkffnnpmejiaaDoorWalkF
import Derived.Test.YtkkkffnnpmejiaaDoorLaw
namespace Go.Proofs.YtkkkffnnpmejiaaDoor.pointerMatchesSpec
open Go.RowKit
set_option linter.unusedVariables false
set_option maxHeartbeats 1000000 in
theorem walk (a b c : Int) (w0 : (Lit.int .i64 a).wf = true) (w1 : (Lit.int .i64 b).wf = true) (w2 : (Lit.int .i64 c).wf = true) (w : World) (hl : Laid w) :
    Calls Tryd.prog 7 #[.int .i64 a, .int .i64 b, .int .i64 c] w fun e w' => e = .returned (.bool true) ∧ Below w.heap.size w w' := by
  clear w0 w1 w2
  have hS := St.here hl
  clear hl
  go_enter Tryd.func7, Tryd.ntmps7
  go_wp2_with fail
  refine (make_any a b _ hS.l).mono ?_
  rintro e w1 ⟨rfl, hb⟩
  replace hS := hS.go hb
  clear hb
  go_wp2_with fail
  refine (rmake_any a b _).mono ?_
  rintro e w2 ⟨rfl, rfl⟩
  go_wp2_with fail
  refine (right_any a _ hS.l).mono ?_
  rintro e w3 ⟨rfl, hb⟩
  replace hS := hS.go hb
  clear hb
  go_wp2_with fail
  refine (rright_any a _).mono ?_
  rintro e w4 ⟨rfl, rfl⟩
  go_wp2_with fail
  refine (line_any a _ hS.l).mono ?_
  rintro e w5 ⟨rfl, hb⟩
  replace hS := hS.go hb
  clear hb
  go_wp2_with fail
  refine (rline_any a _).mono ?_
  rintro e w6 ⟨rfl, rfl⟩
  go_wp2_with fail
  refine (gen_any a _ hS.l).mono ?_
  rintro e w7 ⟨rfl, hb⟩
  replace hS := hS.go hb
  clear hb
  go_wp2_with fail
  refine (rgen_any a _).mono ?_
  rintro e w8 ⟨rfl, rfl⟩
  go_wp2_with fail
  refine (pack_any a b c _ hS.l).mono ?_
  rintro e w9 ⟨rfl, hb⟩
  replace hS := hS.go hb
  clear hb
  go_wp2_with fail
  refine (rpack_any a b c _).mono ?_
  rintro e w10 ⟨rfl, rfl⟩
  go_wp2_with fail
  refine (formed_any a _ hS.l).mono ?_
  rintro e w11 ⟨rfl, hb⟩
  replace hS := hS.go hb
  clear hb
  go_wp2_with fail
  refine (rformed_any a _).mono ?_
  rintro e w12 ⟨rfl, rfl⟩
  go_wp2_with fail
  refine (kind_any a _ hS.l).mono ?_
  rintro e w13 ⟨rfl, hb⟩
  replace hS := hS.go hb
  clear hb
  go_wp2_with fail
  refine (rkind_any a _).mono ?_
  rintro e w14 ⟨rfl, rfl⟩
  go_wp2_with fail
  refine (class_any a _ hS.l).mono ?_
  rintro e w15 ⟨rfl, hb⟩
  replace hS := hS.go hb
  clear hb
  go_wp2_with fail
  refine (rclass_any a _).mono ?_
  rintro e w16 ⟨rfl, rfl⟩
  go_wp2_with fail
  refine (generation_any a _ hS.l).mono ?_
  rintro e w17 ⟨rfl, hb⟩
  replace hS := hS.go hb
  clear hb
  go_wp2_with fail
  refine (rgeneration_any a _).mono ?_
  rintro e w18 ⟨rfl, rfl⟩
  go_wp2_with fail
  refine (sanity_any _ hS.l).mono ?_
  rintro e w19 ⟨rfl, hb⟩
  replace hS := hS.go hb
  clear hb
  go_wp2_with fail
  refine (next_any a _).mono ?_
  rintro e w20 ⟨rfl, hb⟩
  replace hS := hS.go hb
  clear hb
  go_wp2_with fail
  refine (rnext_any a _).mono ?_
  rintro e w21 ⟨rfl, rfl⟩
  go_wp2_with fail
  refine (lines_any a _).mono ?_
  rintro e w22 ⟨rfl, hb⟩
  replace hS := hS.go hb
  clear hb
  go_wp2_with fail
  refine (rlines_any a _).mono ?_
  rintro e w23 ⟨rfl, rfl⟩
  go_wp2_with fail
  refine (check_any a b _ hS.l).mono ?_
  rintro e w24 ⟨rfl, hb⟩
  replace hS := hS.go hb
  clear hb
  go_wp2_with fail
  refine (rcheck_any a b _).mono ?_
  rintro e w25 ⟨rfl, rfl⟩
  go_wp2_with fail
  go_ret
  exact ⟨rfl, hS.b⟩
end Go.Proofs.YtkkkffnnpmejiaaDoor.pointerMatchesSpec
