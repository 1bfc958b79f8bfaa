/- The walks of the specification's Field and With, and of the pointers' Pack, Next, Lines, Check. -/
import Derived.Test.YtkkkffnnpmejiaaDoorWalkC
namespace Go.Proofs.YtkkkffnnpmejiaaDoor
open Go.RowKit

theorem okF_of {a b : Int} (h : okF a b = true) : 0 ≤ a ∧ a ≤ 40 ∧ 0 ≤ b ∧ a + b ≤ 40 := by simp [okF] at h; omega
theorem isW_of {x : Int} (h : isW x = true) : 0 ≤ x ∧ x ≤ 1099511627775 := by simp [isW] at h; omega
theorem fld_bd (x a b : Int) : 0 ≤ fld x a b ∧ (isW x = true → okF a b = true → fld x a b = x / 2 ^ a.toNat % 2 ^ b.toNat ∧ fld x a b < 2 ^ b.toNat) := by
  have hq := pow_pos b.toNat
  unfold fld
  split
  · exact ⟨Int.emod_nonneg _ (by omega), fun _ _ => ⟨rfl, Int.emod_lt_of_pos _ hq⟩⟩
  · rename_i h
    exact ⟨Int.le_refl _, fun h1 h2 => absurd ⟨h1, h2⟩ h⟩
set_option maxHeartbeats 400000 in
theorem rfield_any (x a b : Int) (w : World) :
    Calls Tryd.prog 11 #[.int .i64 x, .int .i64 a, .int .i64 b] w fun e w' => e = .returned (.int .i64 (fld x a b)) ∧ ∃ n, w' = w.drewN n := by
  by_cases cf : okF a b = true
  case neg =>
    have er : fld x a b = 0 := by simp [fld, cf]
    rw [er]
    have hC := Lib.hid ((Bool.not_eq_true _).mp cf)
    clear cf er
    by_cases cw : isW x = true
    all_goals
      first | have hW := Lib.hid cw | skip
      go_enter Tryd.func11, Tryd.ntmps11
      go_wp2_with (first | (go_at_call 46; refine (rvalid_any a b _).mono ?_; rw [hC.out]; rintro e w1 ⟨rfl, rfl⟩) | (go_at_call 47; refine (rword_any x _).mono ?_; rintro e w1 ⟨rfl, rfl⟩))
      go_ret
      exact ⟨rfl, 0, rfl⟩
  by_cases cw : isW x = true
  case neg =>
    have er : fld x a b = 0 := by simp [fld, cw]
    rw [er]
    have hC := Lib.hid cf
    have hW := Lib.hid ((Bool.not_eq_true _).mp cw)
    clear cf er cw
    go_enter Tryd.func11, Tryd.ntmps11
    go_wp2_with (first | (go_at_call 46; refine (rvalid_any a b _).mono ?_; rw [hC.out]; rintro e w1 ⟨rfl, rfl⟩) | (go_at_call 47; refine (rword_any x _).mono ?_; rw [hW.out]; rintro e w1 ⟨rfl, rfl⟩))
    go_ret
    exact ⟨rfl, 0, rfl⟩
  obtain ⟨a0, a1, b0, ab⟩ := okF_of cf
  obtain ⟨x0, x1⟩ := isW_of cw
  have er : fld x a b = x / 2 ^ a.toNat % 2 ^ b.toNat := by simp [fld, cw, cf]
  rw [er]
  have hC := Lib.hid cf
  have hW := Lib.hid cw
  clear cf er cw
  have hpa := pow_pos a.toNat
  have hpb := pow_pos b.toNat
  have hna : ¬ (2 : Int) ^ a.toNat = 0 := by omega
  have hnb : ¬ (2 : Int) ^ b.toNat = 0 := by omega
  have hxd : 0 ≤ x / 2 ^ a.toNat := Int.ediv_nonneg x0 (by omega)
  have hxe : x / 2 ^ a.toNat ≤ x := Int.ediv_le_self _ x0
  go_enter Tryd.func11, Tryd.ntmps11
  go_wp2_with (first | (go_at_call 46; refine (rvalid_any a b _).mono ?_; rw [hC.out]; rintro e w1 ⟨rfl, rfl⟩) | (go_at_call 47; refine (rword_any x _).mono ?_; rw [hW.out]; rintro e w1 ⟨rfl, rfl⟩))
  go_quiet ((first | (go_at_call_of 48 (Value.int .i64 a); exact Calls.quiet_of_same (power_any a _ a0 a1)) | (go_at_call_of 48 (Value.int .i64 b); exact Calls.quiet_of_same (power_any b _ b0 (by omega)))))
  go_wp2
  go_ret
  exact ⟨rfl, _, rfl⟩
set_option maxHeartbeats 400000 in
theorem rwith_any (x a b v : Int) (w : World) :
    Calls Tryd.prog 13 #[.int .i64 x, .int .i64 a, .int .i64 b, .int .i64 v] w fun e w' => e = .returned (.int .i64 (wth x a b v)) ∧ ∃ n, w' = w.drewN n := by
  by_cases cf : okF a b = true
  case neg =>
    have er : wth x a b v = x := by simp [wth, cf]
    rw [er]
    have hC := Lib.hid ((Bool.not_eq_true _).mp cf)
    clear cf er
    by_cases cw : isW x = true
    all_goals
      go_enter Tryd.func13, Tryd.ntmps13
      go_wp2_with (first | (go_at_call 46; refine (rvalid_any a b _).mono ?_; rw [hC.out]; rintro e w1 ⟨rfl, rfl⟩) | (go_at_call 47; refine (rword_any x _).mono ?_; rintro e w1 ⟨rfl, rfl⟩))
      go_ret
      exact ⟨rfl, 0, rfl⟩
  by_cases cw : isW x = true
  case neg =>
    have er : wth x a b v = x := by simp [wth, cw]
    rw [er]
    have hC := Lib.hid cf
    have hW := Lib.hid ((Bool.not_eq_true _).mp cw)
    clear cf er cw
    go_enter Tryd.func13, Tryd.ntmps13
    go_wp2_with (first | (go_at_call 46; refine (rvalid_any a b _).mono ?_; rw [hC.out]; rintro e w1 ⟨rfl, rfl⟩) | (go_at_call 47; refine (rword_any x _).mono ?_; rw [hW.out]; rintro e w1 ⟨rfl, rfl⟩))
    go_ret
    exact ⟨rfl, 0, rfl⟩
  obtain ⟨a0, a1, b0, ab⟩ := okF_of cf
  obtain ⟨x0, x1⟩ := isW_of cw
  obtain ⟨f0, f1⟩ := fld_bd x a b
  obtain ⟨f1, f2⟩ := f1 cw cf
  have hC := Lib.hid cf
  have hW := Lib.hid cw
  have hF := Lib.hid f1
  have hpb := pow_le40 b.toNat (by omega)
  clear f1
  by_cases cv : 0 ≤ v ∧ v < 2 ^ b.toNat
  · obtain ⟨v0, v1⟩ := cv
    have er : wth x a b v = x + (v - fld x a b) * 2 ^ a.toNat := by rw [wth, if_pos ⟨cw, cf, v0, v1⟩, hF.out]
    rw [er]
    clear cf er cw
    have hp : (2 : Int) ^ b.toNat * 2 ^ a.toNat ≤ 1099511627776 := by
      rw [← Int.pow_add]; exact pow_le40 _ (by omega)
    have h2 : v * 2 ^ a.toNat ≤ 2 ^ b.toNat * 2 ^ a.toNat := Int.mul_le_mul_of_nonneg_right (by omega) (Int.le_of_lt (pow_pos _))
    have h3 : 0 ≤ v * 2 ^ a.toNat := Int.mul_nonneg v0 (Int.le_of_lt (pow_pos _))
    have h4 : fld x a b * 2 ^ a.toNat ≤ 2 ^ b.toNat * 2 ^ a.toNat := Int.mul_le_mul_of_nonneg_right (by omega) (Int.le_of_lt (pow_pos _))
    have h5 : 0 ≤ fld x a b * 2 ^ a.toNat := Int.mul_nonneg f0 (Int.le_of_lt (pow_pos _))
    have h6 : (v - fld x a b) * 2 ^ a.toNat ≤ 1099511627776 ∧ -1099511627776 ≤ (v - fld x a b) * 2 ^ a.toNat := by rw [Int.sub_mul]; omega
    clear h2 h3 h4 h5 hp
    clear hF
    generalize hg : fld x a b = f at *
    have HG := Lib.hid hg
    clear hg
    have h7 := h6.1
    have h8 := h6.2
    clear h6
    have hfin : wrap64 (x + wrap64 ((v - f) * 2 ^ a.toNat)) = x + (v - f) * 2 ^ a.toNat := by
      have i1 := wrap_i ((v - f) * 2 ^ a.toNat) (by omega) (by omega)
      rw [i1]
      exact wrap_i _ (by omega) (by omega)
    have hFin := Lib.hid hfin
    clear hfin
    go_enter Tryd.func13, Tryd.ntmps13
    go_wp2_with (first | (go_at_call 46; refine (rvalid_any a b _).mono ?_; rw [hC.out]; rintro e w1 ⟨rfl, rfl⟩) | (go_at_call 47; refine (rword_any x _).mono ?_; rw [hW.out]; rintro e w1 ⟨rfl, rfl⟩) | (go_at_call_of 48 (Value.int .i64 b); refine (power_any b _ b0 (by omega)).mono ?_; rintro e w1 ⟨rfl, rfl⟩) | (go_at_call_of 48 (Value.int .i64 a); refine (power_any a _ a0 a1).mono ?_; rintro e w1 ⟨rfl, rfl⟩) | (go_at_call 11; refine (rfield_any x a b _).mono ?_; rw [HG.out]; rintro e w1 ⟨rfl, nn, rfl⟩))
    go_ret
    exact ⟨ret_int (by first | exact hFin.out | (rw [← hFin.out]; done)), _, rfl⟩
  · have er : wth x a b v = x := by rw [wth, if_neg]; rintro ⟨_, _, h⟩; exact cv h
    rw [er]
    clear cf er cw
    by_cases v0 : 0 ≤ v
    all_goals
      go_enter Tryd.func13, Tryd.ntmps13
      go_wp2_with (first | (go_at_call 46; refine (rvalid_any a b _).mono ?_; rw [hC.out]; rintro e w1 ⟨rfl, rfl⟩) | (go_at_call 47; refine (rword_any x _).mono ?_; rw [hW.out]; rintro e w1 ⟨rfl, rfl⟩) | (go_at_call_of 48 (Value.int .i64 b); refine (power_any b _ b0 (by omega)).mono ?_; rintro e w1 ⟨rfl, rfl⟩))
      go_ret
      exact ⟨rfl, 0, rfl⟩
/-! ### the program's own -/
set_option maxHeartbeats 400000 in
theorem next_any (g : Int) (w : World) :
    Calls Tryd.prog 16 #[.int .i64 g] w fun e w' => e = .returned (.int .i64 (next g)) ∧ Below w.heap.size w w' := by
  by_cases hg : g < 1048575
  all_goals
    go_enter Tryd.func16, Tryd.ntmps16
    go_wp2
    all_goals
      go_ret
      exact ⟨ret_int (by simp [next]; omega), Below.refl _ _⟩
theorem lines_any (c : Int) (w : World) :
    Calls Tryd.prog 35 #[.int .i64 c] w fun e w' => e = .returned (.int .i64 (lines c)) ∧ Below w.heap.size w w' := by
  by_cases hg : c ≤ 4
  all_goals
    go_enter Tryd.func35, Tryd.ntmps35
    go_wp2
    all_goals
      go_ret
      exact ⟨ret_int (by first | (rw [lines, if_pos (by omega)]) | (rw [lines, if_neg (by omega)]; exact pow_wrap _ (by omega))), Below.refl _ _⟩
set_option maxHeartbeats 400000 in
theorem pack_any (k c g : Int) (w : World) (hl : Laid w) :
    Calls Tryd.prog 15 #[.int .i64 k, .int .i64 c, .int .i64 g] w fun e w' => e = .returned (.int .i64 (pack k c g)) ∧ Below w.heap.size w w' := by
  obtain ⟨y1, q0, q1, q2, q3, g0, g1, g2, g3, g4, g5⟩ := hl
  have y0 : 0 < w.heap.size := by omega
  have i0 : ∀ w, (Instr.index 47 (.agg #[.int .i64 k, .int .i64 c, .int .i64 g]) (.int .i64 0)).run Tryd.prog w = .ok (.int .i64 k) w := fun _ => by kernel_rfl
  have i1 : ∀ w, (Instr.index 47 (.agg #[.int .i64 k, .int .i64 c, .int .i64 g]) (.int .i64 1)).run Tryd.prog w = .ok (.int .i64 c) w := fun _ => by kernel_rfl
  have i2 : ∀ w, (Instr.index 47 (.agg #[.int .i64 k, .int .i64 c, .int .i64 g]) (.int .i64 2)).run Tryd.prog w = .ok (.int .i64 g) w := fun _ => by kernel_rfl
  have jc : ∀ c : Int, 0 ≤ c → c < 8 → 0 ≤ k → k < 16 → Go.bits .or .i64 k (c * 16) = k + c * 16 := fun c h0 h1 h2 h3 => by
    rw [bits_or_comm, i64_join 4 (c * 16) k (by omega) (by omega) (by omega) h2 (by omega) (by omega)]; omega
  have jg : ∀ c g : Int, 0 ≤ c → c < 8 → 0 ≤ k → k < 16 → 0 ≤ g → g < 1048576 → Go.bits .or .i64 (k + c * 16) (g * 128) = k + c * 16 + g * 128 := fun c g h0 h1 h2 h3 h4 h5 => by
    rw [bits_or_comm, i64_join 7 (g * 128) (k + c * 16) (by omega) (by omega) (by omega) (by omega) (by omega) (by omega)]; omega
  have HC := Lib.hid jc
  have HG := Lib.hid jg
  clear jc jg
  go_enter Tryd.func15, Tryd.ntmps15
  go_wp2
  go_loop [7, 14] (fun o i => (i = .int .i64 0 ∧ o = .int .i64 0) ∨ (i = .int .i64 1 ∧ o = .int .i64 k ∧ 0 ≤ k ∧ k < 16) ∨ (i = .int .i64 2 ∧ o = .int .i64 (k + c * 16) ∧ 0 ≤ k ∧ k < 16 ∧ 0 ≤ c ∧ c < 8) ∨
      (i = .int .i64 3 ∧ o = .int .i64 (k + c * 16 + g * 128) ∧ 0 ≤ k ∧ k < 16 ∧ 0 ≤ c ∧ c < 8 ∧ 0 ≤ g ∧ g < 1048576)) (fun _ i => 3 - (intOf i).toNat)
  case atStart => exact .inl ⟨rfl, rfl⟩
  case round =>
    rcases hrel with ⟨rfl, rfl⟩ | ⟨rfl, rfl, k0, k1⟩ | ⟨rfl, rfl, k0, k1, c0, c1⟩ | ⟨rfl, rfl, k0, k1, c0, c1, gg0, gg1⟩
    · by_cases hk : 0 ≤ k ∧ k < 16
      · obtain ⟨k0, k1⟩ := hk
        have e1 : Go.bits .or .i64 0 k = k := by rw [i64_join 4 0 k (by omega) (by omega) (by omega) (by omega) (by omega) (by omega)]; omega
        go_wp2
        go_round
        case rel => exact .inr (.inl ⟨rfl, rfl, by omega, by omega⟩)
        case measure => simp [intOf]
      · by_cases hz : k < 0
        all_goals
          go_wp2
          all_goals
            go_ret
            exact ⟨ret_int (by rw [pack, if_neg (by omega)]), Below.refl _ _⟩
    · by_cases hk : 0 ≤ c ∧ c < 8
      · obtain ⟨c0, c1⟩ := hk
        have e1 := HC.out c c0 c1 k0 k1
        go_wp2
        go_round
        case rel => exact .inr (.inr (.inl ⟨rfl, rfl, by omega, by omega, by omega, by omega⟩))
        case measure => simp [intOf]
      · by_cases hz : c < 0
        all_goals
          go_wp2
          all_goals
            go_ret
            exact ⟨ret_int (by rw [pack, if_neg (by omega)]), Below.refl _ _⟩
    · by_cases hk : 0 ≤ g ∧ g < 1048576
      · obtain ⟨gg0, gg1⟩ := hk
        have e1 := HG.out c g c0 c1 k0 k1 gg0 gg1
        go_wp2
        go_round
        case rel => exact .inr (.inr (.inr ⟨rfl, rfl, by omega, by omega, by omega, by omega, by omega, by omega⟩))
        case measure => simp [intOf]
      · by_cases hz : g < 0
        all_goals
          go_wp2
          all_goals
            go_ret
            exact ⟨ret_int (by rw [pack, if_neg (by omega)]), Below.refl _ _⟩
    · by_cases hk : c ≤ 4
      all_goals
        go_wp2
        go_ret
        exact ⟨ret_int (by first | (rw [pack, if_pos (by omega)]) | (rw [pack, if_neg (by omega)])), Below.refl _ _⟩
end Go.Proofs.YtkkkffnnpmejiaaDoor
