/- The walk of the law PointerGetsStale. -/
import Derived.Test.YtkkkffnnpmejiaaDoorWalkF
import Derived.Test.YtkkkffnnpmejiaaDoorLaw
namespace Go.Proofs.YtkkkffnnpmejiaaDoor.pointerGetsStale
open Go.RowKit
set_option linter.unusedVariables false
set_option maxHeartbeats 1000000 in
theorem walk (l c k g o : Int) (w0 : (Lit.int .i64 l).wf = true) (w1 : (Lit.int .i64 c).wf = true) (w2 : (Lit.int .i64 k).wf = true) (w3 : (Lit.int .i64 g).wf = true) (w4 : (Lit.int .i64 o).wf = true) (w : World) (hl : Laid w) :
    Calls Tryd.prog 5 #[.int .i64 l, .int .i64 c, .int .i64 k, .int .i64 g, .int .i64 o] w fun e w' => e = .returned (.bool true) ∧ Below w.heap.size w w' := by
  clear w0 w1 w2 w3 w4
  have hS := St.here hl
  clear hl
  by_cases hp : mk l g = 0
  · have HP := Lib.hid hp
    clear hp
    go_enter Tryd.func5, Tryd.ntmps5
    go_wp2_with fail
    refine (make_any l g _ hS.l).mono ?_
    rw [HP.out]
    rintro e w1 ⟨rfl, hb⟩
    replace hS := hS.go hb
    clear hb
    go_wp2_with fail
    refine (sanity_any _ hS.l).mono ?_
    rintro e w2 ⟨rfl, hb⟩
    replace hS := hS.go hb
    clear hb
    go_wp2_with fail
    go_ret
    exact ⟨rfl, hS.b⟩
  obtain ⟨l0, l1, g0, g1, ep⟩ := mk_ne hp
  have HP := Lib.hid ep
  have hp0 : (l + g * 4096 == 0) = false := by simp; omega
  clear hp ep
  by_cases hc : 0 ≤ c ∧ c ≤ 4 ∧ 1 ≤ k ∧ k ≤ 15
  case neg =>
    by_cases hk : k ≤ 15
    all_goals
      go_enter Tryd.func5, Tryd.ntmps5
      go_wp2_with fail
      refine (make_any l g _ hS.l).mono ?_
      rw [HP.out]
      rintro e w3 ⟨rfl, hb⟩
      replace hS := hS.go hb
      clear hb
      go_wp2_with (go_at_call 9; refine (sanity_any _ (St.l (w0 := w) (by assumption))).mono ?_; rintro e w1 ⟨rfl, hb⟩; have hS1 : St w w1 := St.go (by assumption) hb)
      all_goals
        go_ret
        exact ⟨rfl, St.b (by assumption)⟩
  obtain ⟨c0, c1, k0, k1⟩ := hc
  obtain ⟨n0, n1, n2⟩ := next_of ⟨g0, g1⟩
  have n0b : (next g == g) = false := by simp [n0]
  have C1 : check 1 70 (l + g * 4096) (pack k c g) = 0 := by rw [check_pack ⟨l0, l1, g0, g1⟩ ⟨by omega, k1, c0, c1, by omega, g1⟩, if_neg (by omega)]
  have C2 : check 1 70 (l + g * 4096) (pack k c (next g)) = 70 := by rw [check_pack ⟨l0, l1, g0, g1⟩ ⟨by omega, k1, c0, c1, by omega, n2⟩, if_pos (.inr n0)]
  have C3 : check 1 70 (l + g * 4096) (pack 0 c g) = 70 := by rw [check_pack ⟨l0, l1, g0, g1⟩ ⟨by omega, by omega, c0, c1, by omega, g1⟩, if_pos (.inl rfl)]
  have HC1 := Lib.hid C1
  have HC2 := Lib.hid C2
  have HC3 := Lib.hid C3
  clear C1 C2 C3 n0
  by_cases ho : 1 ≤ o ∧ o ≤ 1048575 ∧ o ≠ g
  · obtain ⟨o0, o1, o2⟩ := ho
    have o2b : (o == g) = false := by simp [o2]
    have C4 : check 1 70 (l + g * 4096) (pack k c o) = 70 := by rw [check_pack ⟨l0, l1, g0, g1⟩ ⟨by omega, k1, c0, c1, by omega, o1⟩, if_pos (.inr o2)]
    have n4 : (next o != next g) = true := by simp [next_one ⟨g0, g1⟩ ⟨o0, o1⟩ o2]
    have HC4 := Lib.hid C4
    clear C4 o2
    go_enter Tryd.func5, Tryd.ntmps5
    go_wp2_with fail
    refine (make_any l g _ hS.l).mono ?_
    rw [HP.out]
    rintro e w4 ⟨rfl, hb⟩
    replace hS := hS.go hb
    clear hb
    go_wp2_with fail
    refine (pack_any k c g _ hS.l).mono ?_
    rintro e w5 ⟨rfl, hb⟩
    replace hS := hS.go hb
    clear hb
    go_wp2_with fail
    refine (next_any g _).mono ?_
    rintro e w6 ⟨rfl, hb⟩
    replace hS := hS.go hb
    clear hb
    go_wp2_with fail
    refine (check_any _ _ _ hS.l).mono ?_
    rw [HC1.out]
    rintro e w7 ⟨rfl, hb⟩
    replace hS := hS.go hb
    clear hb
    go_wp2_with fail
    refine (pack_any k c (next g) _ hS.l).mono ?_
    rintro e w8 ⟨rfl, hb⟩
    replace hS := hS.go hb
    clear hb
    go_wp2_with fail
    refine (check_any _ _ _ hS.l).mono ?_
    rw [HC2.out]
    rintro e w9 ⟨rfl, hb⟩
    replace hS := hS.go hb
    clear hb
    go_wp2_with fail
    refine (pack_any 0 c g _ hS.l).mono ?_
    rintro e w10 ⟨rfl, hb⟩
    replace hS := hS.go hb
    clear hb
    go_wp2_with fail
    refine (check_any _ _ _ hS.l).mono ?_
    rw [HC3.out]
    rintro e w11 ⟨rfl, hb⟩
    replace hS := hS.go hb
    clear hb
    go_wp2_with fail
    refine (sanity_any _ hS.l).mono ?_
    rintro e w12 ⟨rfl, hb⟩
    replace hS := hS.go hb
    clear hb
    go_wp2_with fail
    refine (pack_any k c o _ hS.l).mono ?_
    rintro e w13 ⟨rfl, hb⟩
    replace hS := hS.go hb
    clear hb
    go_wp2_with fail
    refine (check_any _ _ _ hS.l).mono ?_
    rw [HC4.out]
    rintro e w14 ⟨rfl, hb⟩
    replace hS := hS.go hb
    clear hb
    go_wp2_with fail
    refine (next_any o _).mono ?_
    rintro e w15 ⟨rfl, hb⟩
    replace hS := hS.go hb
    clear hb
    go_wp2_with fail
    go_ret
    exact ⟨rfl, hS.b⟩
  · by_cases ho' : o = g
    all_goals
      first | (have o2b : (o == g) = true := by simp [ho']) | (have o2b : (o == g) = false := by simp [ho'])
      have H3 := Lib.hid ho'
      clear ho'
      go_enter Tryd.func5, Tryd.ntmps5
      go_wp2_with fail
      refine (make_any l g _ hS.l).mono ?_
      rw [HP.out]
      rintro e w16 ⟨rfl, hb⟩
      replace hS := hS.go hb
      clear hb
      go_wp2_with fail
      refine (pack_any k c g _ hS.l).mono ?_
      rintro e w17 ⟨rfl, hb⟩
      replace hS := hS.go hb
      clear hb
      go_wp2_with fail
      refine (next_any g _).mono ?_
      rintro e w18 ⟨rfl, hb⟩
      replace hS := hS.go hb
      clear hb
      go_wp2_with fail
      refine (check_any _ _ _ hS.l).mono ?_
      rw [HC1.out]
      rintro e w19 ⟨rfl, hb⟩
      replace hS := hS.go hb
      clear hb
      go_wp2_with fail
      refine (pack_any k c (next g) _ hS.l).mono ?_
      rintro e w20 ⟨rfl, hb⟩
      replace hS := hS.go hb
      clear hb
      go_wp2_with fail
      refine (check_any _ _ _ hS.l).mono ?_
      rw [HC2.out]
      rintro e w21 ⟨rfl, hb⟩
      replace hS := hS.go hb
      clear hb
      go_wp2_with fail
      refine (pack_any 0 c g _ hS.l).mono ?_
      rintro e w22 ⟨rfl, hb⟩
      replace hS := hS.go hb
      clear hb
      go_wp2_with fail
      refine (check_any _ _ _ hS.l).mono ?_
      rw [HC3.out]
      rintro e w23 ⟨rfl, hb⟩
      replace hS := hS.go hb
      clear hb
      go_wp2_with (go_at_call 9; refine (sanity_any _ (St.l (w0 := w) (by assumption))).mono ?_; rintro e w1 ⟨rfl, hb⟩; have hS1 : St w w1 := St.go (by assumption) hb)
      all_goals
        first
        | (exfalso; have := H3.out; omega; done)
        | (go_ret; exact ⟨rfl, St.b (by assumption)⟩)
end Go.Proofs.YtkkkffnnpmejiaaDoor.pointerGetsStale
