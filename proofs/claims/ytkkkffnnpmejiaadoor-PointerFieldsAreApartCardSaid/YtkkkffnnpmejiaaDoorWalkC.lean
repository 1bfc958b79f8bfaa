/- The walks of the specification's functions (package alumref07). -/
import Derived.Test.YtkkkffnnpmejiaaDoorWalkB
namespace Go.Proofs.YtkkkffnnpmejiaaDoor
open Go.RowKit

set_option maxHeartbeats 400000 in
theorem power_any (n : Int) (w : World) (h0 : 0 ≤ n) (h1 : n ≤ 40) :
    Calls Tryd.prog 48 #[.int .i64 n] w fun e w' => e = .returned (.int .i64 (2 ^ n.toNat)) ∧ w' = w := by
  obtain ⟨m, rfl⟩ := Int.eq_ofNat_of_zero_le h0
  rw [Int.toNat_natCast]
  go_enter Tryd.func48, Tryd.ntmps48
  go_wp2
  go_loop [3, 4] (fun o i => ∃ k : Nat, k ≤ m ∧ i = .int .i64 k ∧ o = .int .i64 (2 ^ k)) (fun _ i => m - (intOf i).toNat)
  case atStart => exact ⟨0, Nat.zero_le _, rfl, rfl⟩
  case round =>
    obtain ⟨k, hk, rfl, rfl⟩ := hrel
    have hp := pow_le40 k (by omega)
    have hq := pow_pos k
    by_cases hlt : k < m
    · go_wp2
      go_round
      case rel => exact ⟨k + 1, by omega, by go_num, by rw [Int.pow_succ]⟩
      case measure => simp [intOf]; omega
    · have : k = m := by omega
      subst this
      go_wp2
      go_ret
      exact ⟨rfl, rfl⟩
theorem rvalid_any (a b : Int) (w : World) :
    Calls Tryd.prog 46 #[.int .i64 a, .int .i64 b] w fun e w' => e = .returned (.bool (okF a b)) ∧ w' = w := by
  go_enter Tryd.func46, Tryd.ntmps46
  go_wp2
  all_goals
    go_ret
    exact ⟨ret_bool (by rw [Bool.eq_iff_iff]; simp [okF]; try omega), rfl⟩
theorem rword_any (x : Int) (w : World) :
    Calls Tryd.prog 47 #[.int .i64 x] w fun e w' => e = .returned (.bool (isW x)) ∧ w' = w := by
  go_enter Tryd.func47, Tryd.ntmps47
  go_wp2
  all_goals
    go_ret
    exact ⟨ret_bool (by rw [Bool.eq_iff_iff]; simp [isW]; try omega), rfl⟩
theorem rmake_any (l g : Int) (w : World) :
    Calls Tryd.prog 25 #[.int .i64 l, .int .i64 g] w fun e w' => e = .returned (.int .i64 (mk l g)) ∧ w' = w := by
  by_cases hg : g ≤ 1048575
  all_goals
    go_enter Tryd.func25, Tryd.ntmps25
    go_wp2
    all_goals
      go_ret
      exact ⟨ret_int (by simp [mk]; omega), rfl⟩
theorem rright_any (p : Int) (w : World) :
    Calls Tryd.prog 26 #[.int .i64 p] w fun e w' => e = .returned (.bool (right p)) ∧ w' = w := by
  by_cases c0 : p = 0
  · subst c0
    go_enter Tryd.func26, Tryd.ntmps26
    go_wp2
    go_ret
    exact ⟨rfl, rfl⟩
  · have e0 : (p == 0) = false := by simp [c0]
    by_cases c1 : p ≤ 1099511627775
    all_goals
      go_enter Tryd.func26, Tryd.ntmps26
      go_wp2
      all_goals
        go_ret
        exact ⟨ret_bool (by unfold right; first | (rw [decide_eq_decide]; omega) | exact (decide_eq_true (by omega)).symm | exact (decide_eq_false (by omega)).symm), rfl⟩
theorem rline_any (p : Int) (w : World) :
    Calls Tryd.prog 27 #[.int .i64 p] w fun e w' => e = .returned (.int .i64 (line p)) ∧ w' = w := by
  by_cases c : right p = true
  · have hp := right_lt c
    have er : line p = p % 4096 := by simp [line, c]
    rw [er]
    have hC := Lib.hid c
    clear c er
    go_enter Tryd.func27, Tryd.ntmps27
    go_wp2_with (go_at_call 26; refine (rright_any p _).mono ?_; rw [hC.out]; rintro e w1 ⟨rfl, rfl⟩)
    go_ret
    exact ⟨rfl, rfl⟩
  · have er : line p = 0 := by simp [line, c]
    rw [er]
    have hC := Lib.hid ((Bool.not_eq_true _).mp c)
    clear c er
    go_enter Tryd.func27, Tryd.ntmps27
    go_wp2_with (go_at_call 26; refine (rright_any p _).mono ?_; rw [hC.out]; rintro e w1 ⟨rfl, rfl⟩)
    go_ret
    exact ⟨rfl, rfl⟩
theorem rgen_any (p : Int) (w : World) :
    Calls Tryd.prog 28 #[.int .i64 p] w fun e w' => e = .returned (.int .i64 (gen p)) ∧ w' = w := by
  by_cases c : right p = true
  · have hp := right_lt c
    have er : gen p = p / 4096 := by simp [gen, c]
    rw [er]
    have hC := Lib.hid c
    clear c er
    go_enter Tryd.func28, Tryd.ntmps28
    go_wp2_with (go_at_call 26; refine (rright_any p _).mono ?_; rw [hC.out]; rintro e w1 ⟨rfl, rfl⟩)
    go_ret
    exact ⟨rfl, rfl⟩
  · have er : gen p = 0 := by simp [gen, c]
    rw [er]
    have hC := Lib.hid ((Bool.not_eq_true _).mp c)
    clear c er
    go_enter Tryd.func28, Tryd.ntmps28
    go_wp2_with (go_at_call 26; refine (rright_any p _).mono ?_; rw [hC.out]; rintro e w1 ⟨rfl, rfl⟩)
    go_ret
    exact ⟨rfl, rfl⟩
theorem rpack_any (k c g : Int) (w : World) :
    Calls Tryd.prog 29 #[.int .i64 k, .int .i64 c, .int .i64 g] w fun e w' => e = .returned (.int .i64 (pack k c g)) ∧ w' = w := by
  by_cases hg : g ≤ 1048575
  all_goals
    go_enter Tryd.func29, Tryd.ntmps29
    go_wp2
    all_goals
      go_ret
      exact ⟨ret_int (by simp [pack]; omega), rfl⟩
theorem rformed_any (p : Int) (w : World) :
    Calls Tryd.prog 30 #[.int .i64 p] w fun e w' => e = .returned (.bool (formed p)) ∧ w' = w := by
  by_cases c1 : p ≤ 1099511627775
  all_goals
    go_enter Tryd.func30, Tryd.ntmps30
    go_wp2
    all_goals
      go_ret
      exact ⟨ret_bool (by rw [Bool.eq_iff_iff]; simp [formed]; try omega), rfl⟩
theorem rkind_any (p : Int) (w : World) :
    Calls Tryd.prog 31 #[.int .i64 p] w fun e w' => e = .returned (.int .i64 (kind p)) ∧ w' = w := by
  by_cases c : formed p = true
  · have hp := formed_lt c
    have er : kind p = p % 16 := by simp [kind, c]
    rw [er]
    have hC := Lib.hid c
    clear c er
    go_enter Tryd.func31, Tryd.ntmps31
    go_wp2_with (go_at_call 30; refine (rformed_any p _).mono ?_; rw [hC.out]; rintro e w1 ⟨rfl, rfl⟩)
    go_ret
    exact ⟨rfl, rfl⟩
  · have er : kind p = 0 := by simp [kind, c]
    rw [er]
    have hC := Lib.hid ((Bool.not_eq_true _).mp c)
    clear c er
    go_enter Tryd.func31, Tryd.ntmps31
    go_wp2_with (go_at_call 30; refine (rformed_any p _).mono ?_; rw [hC.out]; rintro e w1 ⟨rfl, rfl⟩)
    go_ret
    exact ⟨rfl, rfl⟩
theorem rclass_any (p : Int) (w : World) :
    Calls Tryd.prog 32 #[.int .i64 p] w fun e w' => e = .returned (.int .i64 (class_ p)) ∧ w' = w := by
  by_cases c : formed p = true
  · have hp := formed_lt c
    have er : class_ p = p / 16 % 8 := by simp [class_, c]
    rw [er]
    have hC := Lib.hid c
    clear c er
    go_enter Tryd.func32, Tryd.ntmps32
    go_wp2_with (go_at_call 30; refine (rformed_any p _).mono ?_; rw [hC.out]; rintro e w1 ⟨rfl, rfl⟩)
    go_ret
    exact ⟨rfl, rfl⟩
  · have er : class_ p = 0 := by simp [class_, c]
    rw [er]
    have hC := Lib.hid ((Bool.not_eq_true _).mp c)
    clear c er
    go_enter Tryd.func32, Tryd.ntmps32
    go_wp2_with (go_at_call 30; refine (rformed_any p _).mono ?_; rw [hC.out]; rintro e w1 ⟨rfl, rfl⟩)
    go_ret
    exact ⟨rfl, rfl⟩
theorem rgeneration_any (p : Int) (w : World) :
    Calls Tryd.prog 33 #[.int .i64 p] w fun e w' => e = .returned (.int .i64 (generation p)) ∧ w' = w := by
  by_cases c : formed p = true
  · have hp := formed_lt c
    have er : generation p = p / 128 := by simp [generation, c]
    rw [er]
    have hC := Lib.hid c
    clear c er
    go_enter Tryd.func33, Tryd.ntmps33
    go_wp2_with (go_at_call 30; refine (rformed_any p _).mono ?_; rw [hC.out]; rintro e w1 ⟨rfl, rfl⟩)
    go_ret
    exact ⟨rfl, rfl⟩
  · have er : generation p = 0 := by simp [generation, c]
    rw [er]
    have hC := Lib.hid ((Bool.not_eq_true _).mp c)
    clear c er
    go_enter Tryd.func33, Tryd.ntmps33
    go_wp2_with (go_at_call 30; refine (rformed_any p _).mono ?_; rw [hC.out]; rintro e w1 ⟨rfl, rfl⟩)
    go_ret
    exact ⟨rfl, rfl⟩
theorem rnext_any (g : Int) (w : World) :
    Calls Tryd.prog 34 #[.int .i64 g] w fun e w' => e = .returned (.int .i64 (next g)) ∧ w' = w := by
  by_cases hg : g < 1048575
  all_goals
    go_enter Tryd.func34, Tryd.ntmps34
    go_wp2
    all_goals
      go_ret
      exact ⟨ret_int (by simp [next]; omega), rfl⟩
theorem rlines_any (c : Int) (w : World) :
    Calls Tryd.prog 36 #[.int .i64 c] w fun e w' => e = .returned (.int .i64 (lines c)) ∧ w' = w := by
  by_cases hg : c ≤ 4
  all_goals
    go_enter Tryd.func36, Tryd.ntmps36
    go_wp2_with (go_at_call 48; refine (power_any _ _ (by omega) (by omega)).mono ?_; rintro e w1 ⟨rfl, rfl⟩)
    all_goals
      go_ret
      exact ⟨ret_int (by first | (rw [lines, if_neg (by omega)]) | (rw [lines, if_pos (by omega)])), rfl⟩
theorem rcheck_any (p h : Int) (w : World) :
    Calls Tryd.prog 37 #[.int .i64 p, .int .i64 h] w fun e w' => e = .returned (.int .i64 (check 1 70 p h)) ∧ w' = w := by
  by_cases c : right p = true
  case neg =>
    have er : check 1 70 p h = 1 := by simp [check, c]
    rw [er]
    have hC := Lib.hid ((Bool.not_eq_true _).mp c)
    clear c er
    go_enter Tryd.func37, Tryd.ntmps37
    go_wp2_with (go_at_call 26; refine (rright_any p _).mono ?_; rw [hC.out]; rintro e w1 ⟨rfl, rfl⟩)
    go_ret
    exact ⟨rfl, rfl⟩
  by_cases c0 : p = 0
  · subst c0
    have er : check 1 70 0 h = 1 := by simp [check]
    rw [er]
    have hC := Lib.hid c
    clear c er
    go_enter Tryd.func37, Tryd.ntmps37
    go_wp2_with (go_at_call 26; refine (rright_any _ _).mono ?_; rw [hC.out]; rintro e w1 ⟨rfl, rfl⟩)
    go_ret
    exact ⟨rfl, rfl⟩
  have hC := Lib.hid c
  have e0 : (p != 0) = true := by simp [c0]
  by_cases d : formed h = true
  case neg =>
    have er : check 1 70 p h = 1 := by simp [check, d]
    rw [er]
    have hD := Lib.hid ((Bool.not_eq_true _).mp d)
    clear c d er
    go_enter Tryd.func37, Tryd.ntmps37
    go_wp2_with (first | (go_at_call 26; refine (rright_any p _).mono ?_; rw [hC.out]; rintro e w1 ⟨rfl, rfl⟩) | (go_at_call 30; refine (rformed_any h _).mono ?_; rw [hD.out]; rintro e w1 ⟨rfl, rfl⟩))
    go_ret
    exact ⟨rfl, rfl⟩
  have hD := Lib.hid d
  have er : check 1 70 p h = if kind h = 0 ∨ generation h ≠ gen p then 70 else 0 := by simp [check, c, d, c0]
  rw [er]
  clear er c d
  by_cases k0 : kind h = 0
  · rw [if_pos (.inl k0)]
    have hK := Lib.hid k0
    clear k0
    go_enter Tryd.func37, Tryd.ntmps37
    go_wp2_with (first | (go_at_call 26; refine (rright_any p _).mono ?_; rw [hC.out]; rintro e w1 ⟨rfl, rfl⟩) | (go_at_call 30; refine (rformed_any h _).mono ?_; rw [hD.out]; rintro e w1 ⟨rfl, rfl⟩) | (go_at_call 31; refine (rkind_any h _).mono ?_; rw [hK.out]; rintro e w1 ⟨rfl, rfl⟩))
    go_ret
    exact ⟨rfl, rfl⟩
  have ek : (kind h == 0) = false := by simp [k0]
  by_cases kg : generation h = gen p
  · rw [if_neg (by rintro (h | h); exact k0 h; exact h kg)]
    have hK := Lib.hid kg
    clear kg
    go_enter Tryd.func37, Tryd.ntmps37
    go_wp2_with (first | (go_at_call 26; refine (rright_any p _).mono ?_; rw [hC.out]; rintro e w1 ⟨rfl, rfl⟩) | (go_at_call 30; refine (rformed_any h _).mono ?_; rw [hD.out]; rintro e w1 ⟨rfl, rfl⟩) | (go_at_call 31; refine (rkind_any h _).mono ?_; rintro e w1 ⟨rfl, rfl⟩) | (go_at_call 33; refine (rgeneration_any h _).mono ?_; rw [hK.out]; rintro e w1 ⟨rfl, rfl⟩) | (go_at_call 28; refine (rgen_any p _).mono ?_; rintro e w1 ⟨rfl, rfl⟩))
    go_ret
    exact ⟨rfl, rfl⟩
  · rw [if_pos (.inr kg)]
    have ekg : (generation h != gen p) = true := by simp [kg]
    go_enter Tryd.func37, Tryd.ntmps37
    go_wp2_with (first | (go_at_call 26; refine (rright_any p _).mono ?_; rw [hC.out]; rintro e w1 ⟨rfl, rfl⟩) | (go_at_call 30; refine (rformed_any h _).mono ?_; rw [hD.out]; rintro e w1 ⟨rfl, rfl⟩) | (go_at_call 31; refine (rkind_any h _).mono ?_; rintro e w1 ⟨rfl, rfl⟩) | (go_at_call 33; refine (rgeneration_any h _).mono ?_; rintro e w1 ⟨rfl, rfl⟩) | (go_at_call 28; refine (rgen_any p _).mono ?_; rintro e w1 ⟨rfl, rfl⟩))
    go_ret
    exact ⟨rfl, rfl⟩
end Go.Proofs.YtkkkffnnpmejiaaDoor
