/- The walk of the law PointerIsRead. -/
import Derived.Test.YtkkkffnnpmejiaaDoorWalkF
import Derived.Test.YtkkkffnnpmejiaaDoorLaw
namespace Go.Proofs.YtkkkffnnpmejiaaDoor.pointerIsRead
open Go.RowKit
set_option linter.unusedVariables false
set_option maxHeartbeats 1000000 in
theorem walk (l g k c : Int) (w0 : (Lit.int .i64 l).wf = true) (w1 : (Lit.int .i64 g).wf = true) (w2 : (Lit.int .i64 k).wf = true) (w3 : (Lit.int .i64 c).wf = true) (w : World) (hl : Laid w) :
    Calls Tryd.prog 6 #[.int .i64 l, .int .i64 g, .int .i64 k, .int .i64 c] w fun e w' => e = .returned (.bool true) ∧ Below w.heap.size w w' := by
  clear w0 w1 w2 w3
  have hS := St.here hl
  clear hl
  by_cases h1 : 1 ≤ l ∧ l ≤ 4095 ∧ 1 ≤ g ∧ g ≤ 1048575
  all_goals by_cases h2 : 0 ≤ k ∧ k ≤ 15 ∧ 0 ≤ c ∧ c ≤ 4 ∧ 0 ≤ g ∧ g ≤ 1048575
  · obtain ⟨l0, l1, g0, g1⟩ := h1
    have HP := Lib.hid (mk_ne (l := l) (g := g) (by rw [mk, if_pos ⟨l0, l1, g0, g1⟩]; omega)).2.2.2.2
    obtain ⟨R1, R2, R3⟩ := right_mk ⟨l0, l1, g0, g1⟩
    have HR1 := Lib.hid R1
    have HR2 := Lib.hid R2
    have HR3 := Lib.hid R3
    have p0 : (l + g * 4096 != 0) = true := by simp; omega
    have p1 : 0 ≤ l + g * 4096 := by omega
    have p2 : l + g * 4096 ≤ 1099511627775 := by omega
    clear R1 R2 R3
    obtain ⟨k0, k1, c0, c1, gg0, gg1⟩ := h2
    obtain ⟨F0, F1, F2, F3, F4⟩ := pack_of ⟨k0, k1, c0, c1, gg0, gg1⟩
    have HH := Lib.hid F0
    have HF1 := Lib.hid F1
    have HF2 := Lib.hid F2
    have HF3 := Lib.hid F3
    have HF4 := Lib.hid F4
    have q1 : 0 ≤ k + c * 16 + g * 128 := by omega
    have q2 : k + c * 16 + g * 128 ≤ 1099511627775 := by omega
    clear F0 F1 F2 F3 F4
    go_enter Tryd.func6, Tryd.ntmps6
    go_wp2_with fail
    refine (make_any l g _ hS.l).mono ?_
    rw [HP.out]
    rintro e w1 ⟨rfl, hb⟩
    replace hS := hS.go hb
    clear hb
    go_wp2_with fail
    refine (pack_any k c g _ hS.l).mono ?_
    rw [HH.out]
    rintro e w2 ⟨rfl, hb⟩
    replace hS := hS.go hb
    clear hb
    go_wp2_with fail
    refine (line_any _ _ hS.l).mono ?_
    rw [HR2.out]
    rintro e w3 ⟨rfl, hb⟩
    replace hS := hS.go hb
    clear hb
    go_wp2_with fail
    refine (gen_any _ _ hS.l).mono ?_
    rw [HR3.out]
    rintro e w4 ⟨rfl, hb⟩
    replace hS := hS.go hb
    clear hb
    go_wp2_with fail
    refine (right_any _ _ hS.l).mono ?_
    rw [HR1.out]
    rintro e w5 ⟨rfl, hb⟩
    replace hS := hS.go hb
    clear hb
    go_wp2_with fail
    refine (sanity_any _ hS.l).mono ?_
    rintro e w6 ⟨rfl, hb⟩
    replace hS := hS.go hb
    clear hb
    go_wp2_with fail
    refine (kind_any _ _ hS.l).mono ?_
    rw [HF2.out]
    rintro e w7 ⟨rfl, hb⟩
    replace hS := hS.go hb
    clear hb
    go_wp2_with fail
    refine (class_any _ _ hS.l).mono ?_
    rw [HF3.out]
    rintro e w8 ⟨rfl, hb⟩
    replace hS := hS.go hb
    clear hb
    go_wp2_with fail
    refine (generation_any _ _ hS.l).mono ?_
    rw [HF4.out]
    rintro e w9 ⟨rfl, hb⟩
    replace hS := hS.go hb
    clear hb
    go_wp2_with fail
    refine (formed_any _ _ hS.l).mono ?_
    rw [HF1.out]
    rintro e w10 ⟨rfl, hb⟩
    replace hS := hS.go hb
    clear hb
    go_wp2_with fail
    go_ret
    exact ⟨rfl, hS.b⟩
  · obtain ⟨l0, l1, g0, g1⟩ := h1
    have HP := Lib.hid (mk_ne (l := l) (g := g) (by rw [mk, if_pos ⟨l0, l1, g0, g1⟩]; omega)).2.2.2.2
    obtain ⟨R1, R2, R3⟩ := right_mk ⟨l0, l1, g0, g1⟩
    have HR1 := Lib.hid R1
    have HR2 := Lib.hid R2
    have HR3 := Lib.hid R3
    have p0 : (l + g * 4096 != 0) = true := by simp; omega
    have p1 : 0 ≤ l + g * 4096 := by omega
    have p2 : l + g * 4096 ≤ 1099511627775 := by omega
    clear R1 R2 R3
    have HH := Lib.hid (show pack k c g = 0 by rw [pack, if_neg h2])
    go_enter Tryd.func6, Tryd.ntmps6
    go_wp2_with fail
    refine (make_any l g _ hS.l).mono ?_
    rw [HP.out]
    rintro e w11 ⟨rfl, hb⟩
    replace hS := hS.go hb
    clear hb
    go_wp2_with fail
    refine (pack_any k c g _ hS.l).mono ?_
    rw [HH.out]
    rintro e w12 ⟨rfl, hb⟩
    replace hS := hS.go hb
    clear hb
    go_wp2_with fail
    refine (line_any _ _ hS.l).mono ?_
    rw [HR2.out]
    rintro e w13 ⟨rfl, hb⟩
    replace hS := hS.go hb
    clear hb
    go_wp2_with fail
    refine (gen_any _ _ hS.l).mono ?_
    rw [HR3.out]
    rintro e w14 ⟨rfl, hb⟩
    replace hS := hS.go hb
    clear hb
    go_wp2_with fail
    refine (right_any _ _ hS.l).mono ?_
    rw [HR1.out]
    rintro e w15 ⟨rfl, hb⟩
    replace hS := hS.go hb
    clear hb
    go_wp2_with (go_at_call 9; refine (sanity_any _ (St.l (w0 := w) (by assumption))).mono ?_; rintro e w1 ⟨rfl, hb⟩; have hS1 : St w w1 := St.go (by assumption) hb)
    all_goals
      go_ret
      exact ⟨rfl, St.b (by assumption)⟩
  · have HP := Lib.hid (mk_zero h1)
    obtain ⟨k0, k1, c0, c1, gg0, gg1⟩ := h2
    obtain ⟨F0, F1, F2, F3, F4⟩ := pack_of ⟨k0, k1, c0, c1, gg0, gg1⟩
    have HH := Lib.hid F0
    have HF1 := Lib.hid F1
    have HF2 := Lib.hid F2
    have HF3 := Lib.hid F3
    have HF4 := Lib.hid F4
    have q1 : 0 ≤ k + c * 16 + g * 128 := by omega
    have q2 : k + c * 16 + g * 128 ≤ 1099511627775 := by omega
    clear F0 F1 F2 F3 F4
    by_cases hg : g < 1048576
    all_goals
      go_enter Tryd.func6, Tryd.ntmps6
      go_wp2_with fail
      refine (make_any l g _ hS.l).mono ?_
      rw [HP.out]
      rintro e w16 ⟨rfl, hb⟩
      replace hS := hS.go hb
      clear hb
      go_wp2_with fail
      refine (pack_any k c g _ hS.l).mono ?_
      rw [HH.out]
      rintro e w17 ⟨rfl, hb⟩
      replace hS := hS.go hb
      clear hb
      go_wp2_with fail
      all_goals
        refine (sanity_any _ hS.l).mono ?_
        rintro e w18 ⟨rfl, hb⟩
        replace hS := hS.go hb
        clear hb
        go_wp2_with fail
        refine (kind_any _ _ hS.l).mono ?_
        rw [HF2.out]
        rintro e w19 ⟨rfl, hb⟩
        replace hS := hS.go hb
        clear hb
        go_wp2_with fail
        refine (class_any _ _ hS.l).mono ?_
        rw [HF3.out]
        rintro e w20 ⟨rfl, hb⟩
        replace hS := hS.go hb
        clear hb
        go_wp2_with fail
        refine (generation_any _ _ hS.l).mono ?_
        rw [HF4.out]
        rintro e w21 ⟨rfl, hb⟩
        replace hS := hS.go hb
        clear hb
        go_wp2_with fail
        refine (formed_any _ _ hS.l).mono ?_
        rw [HF1.out]
        rintro e w22 ⟨rfl, hb⟩
        replace hS := hS.go hb
        clear hb
        go_wp2_with fail
        go_ret
        exact ⟨rfl, hS.b⟩
  · have HP := Lib.hid (mk_zero h1)
    have HH := Lib.hid (show pack k c g = 0 by rw [pack, if_neg h2])
    by_cases hg : g < 1048576
    all_goals
      go_enter Tryd.func6, Tryd.ntmps6
      go_wp2_with fail
      refine (make_any l g _ hS.l).mono ?_
      rw [HP.out]
      rintro e w23 ⟨rfl, hb⟩
      replace hS := hS.go hb
      clear hb
      go_wp2_with fail
      refine (pack_any k c g _ hS.l).mono ?_
      rw [HH.out]
      rintro e w24 ⟨rfl, hb⟩
      replace hS := hS.go hb
      clear hb
      go_wp2_with (go_at_call 9; refine (sanity_any _ (St.l (w0 := w) (by assumption))).mono ?_; rintro e w1 ⟨rfl, hb⟩; have hS1 : St w w1 := St.go (by assumption) hb)
      all_goals first | (exfalso; have hx := ‹(!decide (g < 1048576)) = false›; simp at hx; omega; done) | (go_ret; exact ⟨rfl, St.b (by assumption)⟩)
end Go.Proofs.YtkkkffnnpmejiaaDoor.pointerIsRead
