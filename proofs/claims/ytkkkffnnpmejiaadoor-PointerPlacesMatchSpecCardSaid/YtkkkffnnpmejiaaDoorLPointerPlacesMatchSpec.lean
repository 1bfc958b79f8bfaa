/- The walk of the law PointerPlacesMatchSpec. -/
import Derived.Test.YtkkkffnnpmejiaaDoorWalkG
import Derived.Test.YtkkkffnnpmejiaaDoorLaid
import Derived.Deep.Strs
namespace Go.Proofs.YtkkkffnnpmejiaaDoor.pointerPlacesMatchSpec
open Go.RowKit
set_option linter.unusedVariables false
set_option maxHeartbeats 2000000 in
theorem walk (l0 l1 l2 l3 l4 l5 l6 l7 ln p c : Int) (u0 : (Lit.int .i64 l0).wf = true) (u1 : (Lit.int .i64 l1).wf = true) (u2 : (Lit.int .i64 l2).wf = true) (u3 : (Lit.int .i64 l3).wf = true) (u4 : (Lit.int .i64 l4).wf = true) (u5 : (Lit.int .i64 l5).wf = true) (u6 : (Lit.int .i64 l6).wf = true) (u7 : (Lit.int .i64 l7).wf = true) (w0 : (Lit.int .i64 ln).wf = true) (w1 : (Lit.int .i64 p).wf = true) (w2 : (Lit.int .i64 c).wf = true) (w : World) (hl : Laid w) :
    Calls Tryd.prog 8 #[.agg #[.int .i64 l0, .int .i64 l1, .int .i64 l2, .int .i64 l3, .int .i64 l4, .int .i64 l5, .int .i64 l6, .int .i64 l7], .int .i64 ln, .int .i64 p, .int .i64 c] w fun e w' => e = .returned (.bool true) ∧ Below w.heap.size w w' := by
  clear u0 u1 u2 u3 u4 u5 u6 u7 w0 w1 w2
  have hS := (St.here hl).alloc (.cells #[.int .i64 l0, .int .i64 l1, .int .i64 l2, .int .i64 l3, .int .i64 l4, .int .i64 l5, .int .i64 l6, .int .i64 l7] 35)
  have hC : (w.alloc (.cells #[.int .i64 l0, .int .i64 l1, .int .i64 l2, .int .i64 l3, .int .i64 l4, .int .i64 l5, .int .i64 l6, .int .i64 l7] 35)).cell? ⟨w.heap.size, 0, none⟩ = some (.int .i64 l0) ∧ (w.alloc (.cells #[.int .i64 l0, .int .i64 l1, .int .i64 l2, .int .i64 l3, .int .i64 l4, .int .i64 l5, .int .i64 l6, .int .i64 l7] 35)).cell? ⟨w.heap.size, 1, none⟩ = some (.int .i64 l1) ∧ (w.alloc (.cells #[.int .i64 l0, .int .i64 l1, .int .i64 l2, .int .i64 l3, .int .i64 l4, .int .i64 l5, .int .i64 l6, .int .i64 l7] 35)).cell? ⟨w.heap.size, 2, none⟩ = some (.int .i64 l2) ∧ (w.alloc (.cells #[.int .i64 l0, .int .i64 l1, .int .i64 l2, .int .i64 l3, .int .i64 l4, .int .i64 l5, .int .i64 l6, .int .i64 l7] 35)).cell? ⟨w.heap.size, 3, none⟩ = some (.int .i64 l3) ∧ (w.alloc (.cells #[.int .i64 l0, .int .i64 l1, .int .i64 l2, .int .i64 l3, .int .i64 l4, .int .i64 l5, .int .i64 l6, .int .i64 l7] 35)).cell? ⟨w.heap.size, 4, none⟩ = some (.int .i64 l4) ∧ (w.alloc (.cells #[.int .i64 l0, .int .i64 l1, .int .i64 l2, .int .i64 l3, .int .i64 l4, .int .i64 l5, .int .i64 l6, .int .i64 l7] 35)).cell? ⟨w.heap.size, 5, none⟩ = some (.int .i64 l5) ∧ (w.alloc (.cells #[.int .i64 l0, .int .i64 l1, .int .i64 l2, .int .i64 l3, .int .i64 l4, .int .i64 l5, .int .i64 l6, .int .i64 l7] 35)).cell? ⟨w.heap.size, 6, none⟩ = some (.int .i64 l6) ∧ (w.alloc (.cells #[.int .i64 l0, .int .i64 l1, .int .i64 l2, .int .i64 l3, .int .i64 l4, .int .i64 l5, .int .i64 l6, .int .i64 l7] 35)).cell? ⟨w.heap.size, 7, none⟩ = some (.int .i64 l7) := by simp
  have HC := Lib.hid hC
  clear hC hl
  by_cases hm : isMapped [l0, l1, l2, l3, l4, l5, l6, l7] = true
  case neg =>
    have hM := Lib.hid ((Bool.not_eq_true _).mp hm)
    clear hm
    go_enter Tryd.func8, Tryd.ntmps8
    go_wp2_with fail
    refine (mapped_any l0 l1 l2 l3 l4 l5 l6 l7 _).mono ?_
    rw [hM.out]
    rintro e w1 ⟨rfl, hb⟩
    replace hS := hS.go hb
    clear hb
    go_wp2_with fail
    refine (sanity_any _ hS.l).mono ?_
    rintro e w2 ⟨rfl, hb⟩
    replace hS := hS.go hb
    clear hb
    go_wp2_with fail
    go_ret
    exact ⟨rfl, hS.b⟩
  obtain ⟨⟨h6, h6'⟩, h7, h7'⟩ := isMapped_of hm
  have hM := Lib.hid hm
  clear hm
  go_enter Tryd.func8, Tryd.ntmps8
  go_wp2_with fail
  refine (mapped_any l0 l1 l2 l3 l4 l5 l6 l7 _).mono ?_
  rw [hM.out]
  rintro e w1 ⟨rfl, hb⟩
  replace hS := hS.go hb
  have hS1 : St w w1.drew := hS.go (Below.refl _ _).drew
  obtain ⟨c0, c1, c2, c3, c4, c5, c6, c7⟩ := HC.out
  replace c0 := hand hb c0
  replace c1 := hand hb c1
  replace c2 := hand hb c2
  replace c3 := hand hb c3
  replace c4 := hand hb c4
  replace c5 := hand hb c5
  replace c6 := hand hb c6
  replace c7 := hand hb c7
  clear hb
  go_wp2_with fail
  go_region_held3 (fun w' => St w w' ∧ w'.cell? ⟨w.heap.size, 0, none⟩ = some (.int .i64 l0) ∧ w'.cell? ⟨w.heap.size, 1, none⟩ = some (.int .i64 l1) ∧ w'.cell? ⟨w.heap.size, 2, none⟩ = some (.int .i64 l2) ∧ w'.cell? ⟨w.heap.size, 3, none⟩ = some (.int .i64 l3) ∧ w'.cell? ⟨w.heap.size, 4, none⟩ = some (.int .i64 l4) ∧ w'.cell? ⟨w.heap.size, 5, none⟩ = some (.int .i64 l5) ∧ w'.cell? ⟨w.heap.size, 6, none⟩ = some (.int .i64 l6) ∧ w'.cell? ⟨w.heap.size, 7, none⟩ = some (.int .i64 l7)) (go_keep) (first | (go_at_call 9; have hT := St.l (w0 := w) (by assumption); refine (sanity_any _ hT).mono ?_; have hH := ‹St w _ ∧ (_ : World).cell? ⟨w.heap.size, 0, none⟩ = some (Value.int .i64 l0) ∧ _›; rintro e w3 ⟨rfl, hb3⟩; have k := hH.1.go hb3; have k0 := hand hb3 hH.2.1; have k1 := hand hb3 hH.2.2.1; have k2 := hand hb3 hH.2.2.2.1; have k3 := hand hb3 hH.2.2.2.2.1; have k4 := hand hb3 hH.2.2.2.2.2.1; have k5 := hand hb3 hH.2.2.2.2.2.2.1; have k6 := hand hb3 hH.2.2.2.2.2.2.2.1; have k7 := hand hb3 hH.2.2.2.2.2.2.2.2; clear hH) | (go_at_call 39; have hT := St.l (w0 := w) (by assumption); refine (chunk_any l0 l1 l2 l3 l4 l5 l6 l7 ln _ h6 h6' h7 h7').mono ?_; have hH := ‹St w _ ∧ (_ : World).cell? ⟨w.heap.size, 0, none⟩ = some (Value.int .i64 l0) ∧ _›; rintro e w3 ⟨rfl, hb3⟩; have k := hH.1.go hb3; have k0 := hand hb3 hH.2.1; have k1 := hand hb3 hH.2.2.1; have k2 := hand hb3 hH.2.2.2.1; have k3 := hand hb3 hH.2.2.2.2.1; have k4 := hand hb3 hH.2.2.2.2.2.1; have k5 := hand hb3 hH.2.2.2.2.2.2.1; have k6 := hand hb3 hH.2.2.2.2.2.2.2.1; have k7 := hand hb3 hH.2.2.2.2.2.2.2.2; clear hH) | (go_at_call 40; have hT := St.l (w0 := w) (by assumption); refine (rchunk_any l0 l1 l2 l3 l4 l5 l6 l7 ln _ h6 h6' h7 h7').mono ?_; have hH := ‹St w _ ∧ (_ : World).cell? ⟨w.heap.size, 0, none⟩ = some (Value.int .i64 l0) ∧ _›; rintro e w3 ⟨rfl, hb3⟩; have k := hH.1.go hb3; have k0 := hand hb3 hH.2.1; have k1 := hand hb3 hH.2.2.1; have k2 := hand hb3 hH.2.2.2.1; have k3 := hand hb3 hH.2.2.2.2.1; have k4 := hand hb3 hH.2.2.2.2.2.1; have k5 := hand hb3 hH.2.2.2.2.2.2.1; have k6 := hand hb3 hH.2.2.2.2.2.2.2.1; have k7 := hand hb3 hH.2.2.2.2.2.2.2.2; clear hH) | (go_at_call 41; have hT := St.l (w0 := w) (by assumption); refine (within_any l0 l1 l2 l3 l4 l5 l6 l7 p c _ hT h6 h6' h7 h7').mono ?_; have hH := ‹St w _ ∧ (_ : World).cell? ⟨w.heap.size, 0, none⟩ = some (Value.int .i64 l0) ∧ _›; rintro e w3 ⟨rfl, hb3⟩; have k := hH.1.go hb3; have k0 := hand hb3 hH.2.1; have k1 := hand hb3 hH.2.2.1; have k2 := hand hb3 hH.2.2.2.1; have k3 := hand hb3 hH.2.2.2.2.1; have k4 := hand hb3 hH.2.2.2.2.2.1; have k5 := hand hb3 hH.2.2.2.2.2.2.1; have k6 := hand hb3 hH.2.2.2.2.2.2.2.1; have k7 := hand hb3 hH.2.2.2.2.2.2.2.2; clear hH) | (go_at_call 42; have hT := St.l (w0 := w) (by assumption); refine (rwithin_any l0 l1 l2 l3 l4 l5 l6 l7 p c _ hT h6 h6' h7 h7').mono ?_; have hH := ‹St w _ ∧ (_ : World).cell? ⟨w.heap.size, 0, none⟩ = some (Value.int .i64 l0) ∧ _›; rintro e w3 ⟨rfl, hb3⟩; have k := hH.1.go hb3; have k0 := hand hb3 hH.2.1; have k1 := hand hb3 hH.2.2.1; have k2 := hand hb3 hH.2.2.2.1; have k3 := hand hb3 hH.2.2.2.2.1; have k4 := hand hb3 hH.2.2.2.2.2.1; have k5 := hand hb3 hH.2.2.2.2.2.2.1; have k6 := hand hb3 hH.2.2.2.2.2.2.2.1; have k7 := hand hb3 hH.2.2.2.2.2.2.2.2; clear hH))

  go_wp2_with fail
  go_ret
  exact ⟨rfl, St.b (by assumption)⟩
end Go.Proofs.YtkkkffnnpmejiaaDoor.pointerPlacesMatchSpec
