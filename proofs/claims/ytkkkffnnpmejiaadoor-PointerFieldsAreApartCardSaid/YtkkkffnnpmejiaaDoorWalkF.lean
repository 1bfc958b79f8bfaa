/- The walks of Chunk and Within, of the program and of the specification; of Mapped; of the sanity example. -/
import Derived.Test.YtkkkffnnpmejiaaDoorWalkE
namespace Go.Proofs.YtkkkffnnpmejiaaDoor
open Go.RowKit

/-- A layout, as a value. -/
abbrev lay (l0 l1 l2 l3 l4 l5 l6 l7 : Int) : Value := .agg #[.int .i64 l0, .int .i64 l1, .int .i64 l2, .int .i64 l3, .int .i64 l4, .int .i64 l5, .int .i64 l6, .int .i64 l7]
set_option maxHeartbeats 400000 in
theorem chunk_any (l0 l1 l2 l3 l4 l5 l6 l7 ln : Int) (w : World) (h6 : 0 ≤ l6) (h6' : l6 ≤ 4096) (h7 : 0 ≤ l7) (h7' : l7 ≤ 4096) :
    Calls Tryd.prog 39 #[.agg #[.int .i64 l0, .int .i64 l1, .int .i64 l2, .int .i64 l3, .int .i64 l4, .int .i64 l5, .int .i64 l6, .int .i64 l7], .int .i64 ln] w fun e w' => e = .returned (.int .i64 (chunk l6 l7 ln)) ∧ Below w.heap.size w w' := by
  by_cases c : ln < l6 + 16 * l7
  all_goals
    go_enter Tryd.func39, Tryd.ntmps39
    go_wp2
    all_goals
      go_ret
      exact ⟨ret_int (by first | (rw [chunk, if_pos (by omega)]) | (rw [chunk, if_neg (by omega)])), (Below.refl _ _).alloc (Nat.le_refl _) _⟩
set_option maxHeartbeats 400000 in
theorem rchunk_any (l0 l1 l2 l3 l4 l5 l6 l7 ln : Int) (w : World) (h6 : 0 ≤ l6) (h6' : l6 ≤ 4096) (h7 : 0 ≤ l7) (h7' : l7 ≤ 4096) :
    Calls Tryd.prog 40 #[.agg #[.int .i64 l0, .int .i64 l1, .int .i64 l2, .int .i64 l3, .int .i64 l4, .int .i64 l5, .int .i64 l6, .int .i64 l7], .int .i64 ln] w fun e w' => e = .returned (.int .i64 (chunk l6 l7 ln)) ∧ Below w.heap.size w w' := by
  by_cases c : ln < l6 + 16 * l7
  all_goals
    go_enter Tryd.func40, Tryd.ntmps40
    go_wp2
    all_goals
      go_ret
      exact ⟨ret_int (by first | (rw [chunk, if_pos (by omega)]) | (rw [chunk, if_neg (by omega)])), (Below.refl _ _).alloc (Nat.le_refl _) _⟩
set_option maxHeartbeats 400000 in
theorem sanity_any (w : World) (hl : Laid w) : Calls Tryd.prog 9 #[] w fun e w' => e = .returned (.bool true) ∧ Below w.heap.size w w' := by
  have hS := St.here hl
  go_enter Tryd.func9, Tryd.ntmps9
  go_wp2_with fail
  refine (make_any 3 2 _ hS.l).mono ?_
  rw [show mk 3 2 = 8195 from rfl]
  rintro e w1 ⟨rfl, hb⟩
  replace hS := hS.go hb
  clear hb
  go_wp2_with fail
  refine (pack_any 1 2 5 _ hS.l).mono ?_
  rw [show pack 1 2 5 = 673 from rfl]
  rintro e w2 ⟨rfl, hb⟩
  replace hS := hS.go hb
  clear hb
  go_wp2_with fail
  refine (field_any 2748 4 4 _).mono ?_
  rw [show fld 2748 4 4 = 11 from rfl]
  rintro e w3 ⟨rfl, hb⟩
  replace hS := hS.go hb
  clear hb
  go_wp2_with fail
  refine (with_any 2748 4 4 5 _).mono ?_
  rw [show wth 2748 4 4 5 = 2652 from rfl]
  rintro e w4 ⟨rfl, hb⟩
  replace hS := hS.go hb
  clear hb
  go_wp2_with fail
  refine (line_any 8195 _ hS.l).mono ?_
  rw [show line 8195 = 3 from rfl]
  rintro e w5 ⟨rfl, hb⟩
  replace hS := hS.go hb
  clear hb
  go_wp2_with fail
  refine (gen_any 8195 _ hS.l).mono ?_
  rw [show gen 8195 = 2 from rfl]
  rintro e w6 ⟨rfl, hb⟩
  replace hS := hS.go hb
  clear hb
  go_wp2_with fail
  refine (make_any 3 5 _ hS.l).mono ?_
  rw [show mk 3 5 = 20483 from rfl]
  rintro e w7 ⟨rfl, hb⟩
  replace hS := hS.go hb
  clear hb
  go_wp2_with fail
  refine (check_any 20483 673 _ hS.l).mono ?_
  rw [show check 1 70 20483 673 = 0 from rfl]
  rintro e w8 ⟨rfl, hb⟩
  replace hS := hS.go hb
  clear hb
  go_wp2_with fail
  refine (make_any 3 4 _ hS.l).mono ?_
  rw [show mk 3 4 = 16387 from rfl]
  rintro e w9 ⟨rfl, hb⟩
  replace hS := hS.go hb
  clear hb
  go_wp2_with fail
  refine (check_any 16387 673 _ hS.l).mono ?_
  rw [show check 1 70 16387 673 = 70 from rfl]
  rintro e w10 ⟨rfl, hb⟩
  replace hS := hS.go hb
  clear hb
  go_wp2_with fail
  refine (next_any 0 _).mono ?_
  rw [show next 0 = 1 from rfl]
  rintro e w11 ⟨rfl, hb⟩
  replace hS := hS.go hb
  clear hb
  go_wp2_with fail
  refine (next_any 1048575 _).mono ?_
  rw [show next 1048575 = 1 from rfl]
  rintro e w12 ⟨rfl, hb⟩
  replace hS := hS.go hb
  clear hb
  go_wp2_with fail
  go_ret
  exact ⟨rfl, hS.b⟩
end Go.Proofs.YtkkkffnnpmejiaaDoor
