/- The walk of the law PointerFieldsAreApart. -/
import Derived.Test.YtkkkffnnpmejiaaDoorWalkF
import Derived.Test.YtkkkffnnpmejiaaDoorLaw
import Derived.Test.YtkkkffnnpmejiaaDoorApart
namespace Go.Proofs.YtkkkffnnpmejiaaDoor.pointerFieldsAreApart
open Go.RowKit
set_option linter.unusedVariables false
set_option maxRecDepth 100000 in
set_option maxHeartbeats 4000000 in
theorem walk (x a b v n m o : Int) (w0 : (Lit.int .i64 x).wf = true) (w1 : (Lit.int .i64 a).wf = true) (w2 : (Lit.int .i64 b).wf = true) (w3 : (Lit.int .i64 v).wf = true) (w4 : (Lit.int .i64 n).wf = true) (w5 : (Lit.int .i64 m).wf = true) (w6 : (Lit.int .i64 o).wf = true) (w : World) (hl : Laid w) :
    Calls Tryd.prog 4 #[.int .i64 x, .int .i64 a, .int .i64 b, .int .i64 v, .int .i64 n, .int .i64 m, .int .i64 o] w fun e w' => e = .returned (.bool true) ∧ Below w.heap.size w w' := by
  clear w0 w1 w2 w3 w4 w5 w6
  have hS := St.here hl
  clear hl
  by_cases hg : (0 ≤ x ∧ x ≤ 1099511627775) ∧ 0 ≤ a ∧ 0 ≤ b ∧ a + b ≤ n ∧ 0 ≤ m ∧ n + m ≤ 40
  case neg =>
    by_cases hl : m ≤ 40 - n
    all_goals
      go_enter Tryd.func4, Tryd.ntmps4
      go_wp2_with (go_at_call 9; refine (sanity_any _ (St.l (w0 := w) (by assumption))).mono ?_; rintro e w1 ⟨rfl, hb⟩; have hS1 : St w w1 := St.go (by assumption) hb)
      all_goals first | (exfalso; omega; done) | (go_ret; exact ⟨rfl, St.b (by assumption)⟩)
  obtain ⟨⟨x0, x1⟩, a0, b0, n0, m0, nm⟩ := hg
  have n40 : n ≤ 40 := by omega
  have a40 : a ≤ 40 := by omega
  have b40 : b ≤ 40 - a := by omega
  have m40 : m ≤ 40 - n := by omega
  have eb := pow_wrap b.toNat (by omega)
  have em := pow_wrap m.toNat (by omega)
  have HEb := Lib.hid eb
  have HEm := Lib.hid em
  clear eb em
  by_cases hv : 0 ≤ v ∧ v < wrap64 (2 ^ b.toNat) ∧ 0 ≤ o ∧ o < wrap64 (2 ^ m.toNat)
  case neg =>
    by_cases hl : o < wrap64 (2 ^ m.toNat)
    all_goals
      go_enter Tryd.func4, Tryd.ntmps4
      go_wp2_with (go_at_call 9; refine (sanity_any _ (St.l (w0 := w) (by assumption))).mono ?_; rintro e w1 ⟨rfl, hb⟩; have hS1 : St w w1 := St.go (by assumption) hb)
      all_goals first | (exfalso; omega; done) | (go_ret; exact ⟨rfl, St.b (by assumption)⟩)
  obtain ⟨v0, v1, o0, o1⟩ := hv
  obtain ⟨A1, A2, A3, A4, A5, A6⟩ := apart x a b v n m o ⟨x0, x1⟩ a0 b0 n0 m0 nm ⟨v0, by rw [← HEb.out]; exact v1⟩ ⟨o0, by rw [← HEm.out]; exact o1⟩
  generalize hA : wth (wth x a b v) n m o = A at *
  have HA := Lib.hid hA
  have HA1 := Lib.hid A1
  have HA4 := Lib.hid A4
  have HA5 := Lib.hid A5
  have hbit : ∀ k : Nat, k < 40 → ¬ ((a ≤ k ∧ (k : Int) < a + b) ∨ (n ≤ k ∧ (k : Int) < n + m)) → Go.bits .and .i64 (A / 2 ^ k) 1 = Go.bits .and .i64 (x / 2 ^ k) 1 := fun k hk hn => by
    have q1 := Int.ediv_le_self (2 ^ k) A2
    have q2 := Int.ediv_le_self (2 ^ k) x0
    have q3 := Int.ediv_nonneg A2 (Int.le_of_lt (pow_pos k))
    have q4 := Int.ediv_nonneg x0 (Int.le_of_lt (pow_pos k))
    rw [bit_one _ q3 (by omega), bit_one _ q4 (by omega)]
    exact A6 k hk hn
  have HB := Lib.hid hbit
  clear hA A1 A4 A5 A6 hbit
  go_enter Tryd.func4, Tryd.ntmps4
  go_wp2_with fail
  refine (with_any x a b v _).mono ?_
  rintro e w1 ⟨rfl, hb⟩
  replace hS := hS.go hb
  clear hb
  go_wp2_with fail
  refine (with_any (wth x a b v) n m o _).mono ?_
  rw [HA.out]
  rintro e w2 ⟨rfl, hb⟩
  replace hS := hS.go hb
  clear hb
  go_wp2_with fail
  refine (with_any x n m o _).mono ?_
  rintro e w3 ⟨rfl, hb⟩
  replace hS := hS.go hb
  clear hb
  go_wp2_with fail
  refine (with_any (wth x n m o) a b v _).mono ?_
  rw [HA1.out]
  rintro e w4 ⟨rfl, hb⟩
  replace hS := hS.go hb
  clear hb
  go_wp2_with fail
  refine (field_any A a b _).mono ?_
  rw [HA4.out]
  rintro e w5 ⟨rfl, hb⟩
  replace hS := hS.go hb
  clear hb
  go_wp2_with fail
  refine (field_any A n m _).mono ?_
  rw [HA5.out]
  rintro e w6 ⟨rfl, hb⟩
  replace hS := hS.go hb
  clear hb
  go_wp2_with fail
  go_loopw [17] (fun i wr => St w wr ∧ ∃ k : Nat, k ≤ 40 ∧ i = .int .i64 k) (fun i _ => 40 - (intOf i).toNat)
  case atStart => exact ⟨hS, 0, by omega, rfl⟩
  case round =>
    obtain ⟨hS, k, hk, rfl⟩ := hrel
    by_cases hlt : k < 40
    · by_cases h1 : a ≤ (k : Int) ∧ (k : Int) < a + b
      · obtain ⟨h1, h2⟩ := h1
        go_wp2
        go_quiet (fail)
        go_wp2
        go_roundw
        case rel => exact ⟨hS.drewN _, k + 1, by omega, by go_num⟩
        case measure => simp [intOf]; omega
      · by_cases h2 : n ≤ (k : Int) ∧ (k : Int) < n + m
        · obtain ⟨h2, h3⟩ := h2
          have h4 : ¬ (k : Int) < a + b := by omega
          go_wp2
          go_quiet (fail)
          go_wp2
          go_roundw
          case rel => exact ⟨hS.drewN _, k + 1, by omega, by go_num⟩
          case measure => simp [intOf]; omega
        · have hb := HB.out k hlt (by omega)
          rcases (show (k : Int) < a ∨ (a + b ≤ k ∧ (k : Int) < n) ∨ (a + b ≤ k ∧ n + m ≤ k) by omega) with h3 | ⟨h3, h4⟩ | ⟨h3, h4⟩
          all_goals
            go_wp2
            go_quiet (fail)
            go_wp2
            go_roundw
            case rel => exact ⟨hS.drewN _, k + 1, by omega, by go_num⟩
            case measure => simp [intOf]; omega
    · have : k = 40 := by omega
      subst this
      go_wp2_with fail
      refine (sanity_any _ hS.l).mono ?_
      rintro e w9 ⟨rfl, hb⟩
      replace hS := hS.go hb
      clear hb
      go_wp2_with fail
      go_ret
      exact ⟨rfl, hS.b⟩
end Go.Proofs.YtkkkffnnpmejiaaDoor.pointerFieldsAreApart
