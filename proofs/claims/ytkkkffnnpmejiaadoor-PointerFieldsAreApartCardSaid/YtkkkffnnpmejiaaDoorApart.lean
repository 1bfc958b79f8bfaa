/- Plain laws on fields that do not overlap: bit by bit. No program in sight. -/
import Derived.Test.YtkkkffnnpmejiaaDoorFn
namespace Go.Proofs.YtkkkffnnpmejiaaDoor
open Go.RowKit

/-- A word with a field set: what it is, and its bits. -/
theorem wth_nat (W A B V : Nat) (hW : W < 2 ^ 40) (hAB : A + B ≤ 40) (hV : V < 2 ^ B) :
    ∃ W' : Nat, wth (W : Int) (A : Int) (B : Int) (V : Int) = (W' : Int) ∧ W' < 2 ^ 40 ∧ ∀ i, W'.testBit i = if A ≤ i ∧ i < A + B then V.testBit (i - A) else W.testBit i := by
  have hVi : (V : Int) < 2 ^ B := by exact_mod_cast hV
  have hWi : (W : Int) ≤ 1099511627775 := by omega
  have ew : wth (W : Int) (A : Int) (B : Int) (V : Int) = (W : Int) + ((V : Int) - (W : Int) / 2 ^ A % 2 ^ B) * 2 ^ A := by
    have := wth (W : Int) (A : Int) (B : Int) (V : Int)
    rw [wth, if_pos ⟨by simp [isW]; omega, by simp [okF]; omega, by omega, by simpa using hVi⟩]
    simp
  have hb := (wth_bits (W : Int) (A : Int) (B : Int) (V : Int) (by omega) hWi (by omega) (by omega) (by omega) (by omega) (by simpa using hVi)).2
  simp only [Int.toNat_natCast] at hb
  have p1 : W = 2 ^ A * (W / 2 ^ A) + W % 2 ^ A := (Nat.div_add_mod W (2 ^ A)).symm
  have p2 : W / 2 ^ A = 2 ^ B * (W / 2 ^ A / 2 ^ B) + W / 2 ^ A % 2 ^ B := (Nat.div_add_mod (W / 2 ^ A) (2 ^ B)).symm
  have hlo : W % 2 ^ A < 2 ^ A := Nat.mod_lt _ (Nat.two_pow_pos _)
  have hf : W / 2 ^ A % 2 ^ B < 2 ^ B := Nat.mod_lt _ (Nat.two_pow_pos _)
  have hfi : (W : Int) / 2 ^ A % 2 ^ B = ((W / 2 ^ A % 2 ^ B : Nat) : Int) := by simp
  generalize ehi : W / 2 ^ A / 2 ^ B = hi at p2
  generalize ef : W / 2 ^ A % 2 ^ B = f at p2 hf hfi
  generalize elo : W % 2 ^ A = lo at p1 hlo
  rw [p2] at p1
  have hval : (W : Int) + ((V : Int) - (W : Int) / 2 ^ A % 2 ^ B) * 2 ^ A = ((2 ^ A * (2 ^ B * hi + V) + lo : Nat) : Int) := by
    rw [hfi, p1]
    simp only [Int.natCast_add, Int.natCast_mul, Int.natCast_pow, Int.mul_add, Int.sub_mul]
    simp only [show ((2 : Nat) : Int) = 2 from rfl]
    rw [Int.mul_comm (V : Int), Int.mul_comm (f : Int)]
    omega
  rw [hval] at hb
  refine ⟨2 ^ A * (2 ^ B * hi + V) + lo, by rw [ew, hval], by omega, fun i => ?_⟩
  rw [Nat.testBit_two_pow_mul_add _ hlo, Nat.testBit_two_pow_mul_add _ hV]
  conv => rhs; rw [p1]
  rw [Nat.testBit_two_pow_mul_add _ hlo, Nat.testBit_two_pow_mul_add _ hf]
  by_cases h1 : i < A
  · rw [if_pos h1, if_neg (by omega), if_pos h1]
  · rw [if_neg h1]
    by_cases h2 : i - A < B
    · rw [if_pos h2, if_pos (by omega)]
    · rw [if_neg h2, if_neg (by omega), if_neg h1, if_neg h2]
theorem fld_nat (W A B : Nat) (hW : W < 2 ^ 40) (hAB : A + B ≤ 40) : fld (W : Int) (A : Int) (B : Int) = ((W / 2 ^ A % 2 ^ B : Nat) : Int) := by
  rw [fld, if_pos ⟨by simp [isW]; omega, by simp [okF]; omega⟩]
  simp
theorem fld_testBit (W A B V : Nat) (hV : V < 2 ^ B) (h : ∀ i, i < B → W.testBit (A + i) = V.testBit i) : W / 2 ^ A % 2 ^ B = V := by
  apply Nat.eq_of_testBit_eq
  intro i
  rw [Nat.testBit_mod_two_pow, Nat.testBit_div_two_pow]
  by_cases hi : i < B
  · simp [hi, h i hi, Nat.add_comm i A ▸ h i hi]
  · have : V.testBit i = false := Nat.testBit_lt_two_pow (Nat.lt_of_lt_of_le hV (Nat.pow_le_pow_right (by decide) (by omega)))
    simp [hi, this]
theorem bit_one (x : Int) (h0 : 0 ≤ x) (h1 : x < 2 ^ 63) : Go.bits .and .i64 x 1 = x % 2 := i64_mask 1 (by decide) x h0 h1
/-- Two words set in either order: all that the law asks. -/
theorem apart (w a b v n m o : Int) (hw : 0 ≤ w ∧ w ≤ 1099511627775) (ha : 0 ≤ a) (hb : 0 ≤ b) (hn : a + b ≤ n) (hm : 0 ≤ m) (hnm : n + m ≤ 40) (hv : 0 ≤ v ∧ v < 2 ^ b.toNat) (ho : 0 ≤ o ∧ o < 2 ^ m.toNat) :
    wth (wth w n m o) a b v = wth (wth w a b v) n m o ∧ 0 ≤ wth (wth w a b v) n m o ∧ wth (wth w a b v) n m o ≤ 1099511627775 ∧
    fld (wth (wth w a b v) n m o) a b = v ∧ fld (wth (wth w a b v) n m o) n m = o ∧
    ∀ k : Nat, k < 40 → ¬ ((a ≤ k ∧ (k : Int) < a + b) ∨ (n ≤ k ∧ (k : Int) < n + m)) → wth (wth w a b v) n m o / 2 ^ k % 2 = w / 2 ^ k % 2 := by
  obtain ⟨W, rfl⟩ := Int.eq_ofNat_of_zero_le hw.1
  obtain ⟨A, rfl⟩ := Int.eq_ofNat_of_zero_le ha
  obtain ⟨B, rfl⟩ := Int.eq_ofNat_of_zero_le hb
  obtain ⟨V, rfl⟩ := Int.eq_ofNat_of_zero_le hv.1
  obtain ⟨N, rfl⟩ := Int.eq_ofNat_of_zero_le (show 0 ≤ n by omega)
  obtain ⟨M, rfl⟩ := Int.eq_ofNat_of_zero_le hm
  obtain ⟨O, rfl⟩ := Int.eq_ofNat_of_zero_le ho.1
  simp only [Int.toNat_natCast] at hv ho
  have hV : V < 2 ^ B := by exact_mod_cast hv.2
  have hO : O < 2 ^ M := by exact_mod_cast ho.2
  obtain ⟨X, eX, bX, tX⟩ := wth_nat W A B V (by omega) (by omega) hV
  obtain ⟨Y, eY, bY, tY⟩ := wth_nat X N M O bX (by omega) hO
  obtain ⟨Z, eZ, bZ, tZ⟩ := wth_nat W N M O (by omega) (by omega) hO
  obtain ⟨U, eU, bU, tU⟩ := wth_nat Z A B V bZ (by omega) hV
  rw [eX, eY, eZ, eU]
  refine ⟨?_, by omega, by omega, ?_, ?_, ?_⟩
  · congr 1
    apply Nat.eq_of_testBit_eq
    intro i
    rw [tU, tY, tZ, tX]
    by_cases h1 : A ≤ i ∧ i < A + B
    · rw [if_pos h1, if_neg (by omega), if_pos h1]
    · rw [if_neg h1, if_neg h1]
  · rw [fld_nat Y A B bY (by omega), fld_testBit Y A B V hV]
    intro i hi
    rw [tY, if_neg (by omega), tX, if_pos (by omega)]
    congr 1
    omega
  · rw [fld_nat Y N M bY (by omega), fld_testBit Y N M O hO]
    intro i hi
    rw [tY, if_pos (by omega)]
    congr 1
    omega
  · intro k _ hk
    have h : Y.testBit k = W.testBit k := by rw [tY, if_neg (by omega), tX, if_neg (by omega)]
    rw [Nat.testBit_eq_decide_div_mod_eq, Nat.testBit_eq_decide_div_mod_eq] at h
    have h2 : Y / 2 ^ k % 2 = W / 2 ^ k % 2 := by
      have h3 := decide_eq_decide.1 h
      omega
    exact_mod_cast h2
end Go.Proofs.YtkkkffnnpmejiaaDoor
