/- What the functions of the layer 'pointer' compute, as plain functions on integers, and the laws of the bit operations that their Go text uses. No program in sight. -/
import Derived.WalkKit
import Derived.Laws.BitsLemmas
namespace Go.Proofs.YtkkkffnnpmejiaaDoor
open Go.RowKit

def isW (w : Int) : Bool := decide (0 ≤ w) && decide (w ≤ 1099511627775)
def okF (a b : Int) : Bool := decide (0 ≤ a) && (decide (a ≤ 40) && (decide (0 ≤ b) && decide (a + b ≤ 40)))
def fld (w a b : Int) : Int := if isW w = true ∧ okF a b = true then w / 2 ^ a.toNat % 2 ^ b.toNat else 0
def wth (w a b v : Int) : Int := if isW w = true ∧ okF a b = true ∧ 0 ≤ v ∧ v < 2 ^ b.toNat then w + (v - w / 2 ^ a.toNat % 2 ^ b.toNat) * 2 ^ a.toNat else w
def mk (l g : Int) : Int := if 1 ≤ l ∧ l ≤ 4095 ∧ 1 ≤ g ∧ g ≤ 1048575 then l + g * 4096 else 0
def right (p : Int) : Bool := decide (p = 0 ∨ (0 ≤ p ∧ p < 4294967296 ∧ 0 < p % 4096 ∧ 0 < p / 4096))
def line (p : Int) : Int := if right p = true then p % 4096 else 0
def gen (p : Int) : Int := if right p = true then p / 4096 else 0
def pack (k c g : Int) : Int := if 0 ≤ k ∧ k ≤ 15 ∧ 0 ≤ c ∧ c ≤ 4 ∧ 0 ≤ g ∧ g ≤ 1048575 then k + c * 16 + g * 128 else 0
def formed (h : Int) : Bool := decide (0 ≤ h ∧ h < 134217728 ∧ h / 16 % 8 ≤ 4)
def kind (h : Int) : Int := if formed h = true then h % 16 else 0
def class_ (h : Int) : Int := if formed h = true then h / 16 % 8 else 0
def generation (h : Int) : Int := if formed h = true then h / 128 else 0
def next (g : Int) : Int := if g < 0 ∨ 1048575 ≤ g then 1 else g + 1
def lines (c : Int) : Int := if c < 0 ∨ 4 < c then 0 else 2 ^ c.toNat
/- Errno: 0 is OK; the two errors by their numbers. -/
def check (ea es : Int) (p h : Int) : Int := if right p = true ∧ p ≠ 0 ∧ formed h = true then (if kind h = 0 ∨ generation h ≠ gen p then es else 0) else ea
def chunk (heap chunks ln : Int) : Int := if ln < heap ∨ heap + 16 * chunks ≤ ln then -1 else (ln - heap) / 16
def within (heap chunks p c : Int) : Bool := decide (lines c ≠ 0 ∧ line p ≠ 0 ∧ 0 ≤ chunk heap chunks (line p) ∧ (line p - heap) % lines c = 0)

/-! ### bits -/
theorem pow_le40 (n : Nat) (h : n ≤ 40) : (2 : Int) ^ n ≤ 1099511627776 := by
  have h1 : (2 : Nat) ^ n ≤ 2 ^ 40 := Nat.pow_le_pow_right (by decide) h
  have h2 : ((2 ^ n : Nat) : Int) ≤ ((2 ^ 40 : Nat) : Int) := by exact_mod_cast h1
  simpa using h2
theorem pow_pos (n : Nat) : (0 : Int) < 2 ^ n := by
  have h1 : 0 < (2 : Nat) ^ n := Nat.two_pow_pos n
  have h2 : ((0 : Nat) : Int) < ((2 ^ n : Nat) : Int) := by exact_mod_cast h1
  simpa using h2
theorem wrap_i (n : Int) (h0 : -9223372036854775808 ≤ n) (h1 : n ≤ 9223372036854775807) : wrap64 n = n := by unfold wrap64; omega
theorem pow_wrap (n : Nat) (h : n ≤ 40) : wrap64 (2 ^ n) = 2 ^ n := wrap_i _ (by have := pow_pos n; omega) (by have := pow_le40 n h; omega)
theorem pow_wrap1 (n : Nat) (h : n ≤ 40) : wrap64 (2 ^ n - 1) = 2 ^ n - 1 := wrap_i _ (by have := pow_pos n; omega) (by have := pow_le40 n h; omega)
theorem wraps_i64 (n : Int) (h₀ : 0 ≤ n) (h₁ : n < 2 ^ 63) : IntKind.i64.wrap n = n := by rw [IntKind.wrap_i64]; omega
theorem i64_mask (i : Nat) (hi : i ≤ 63) (x : Int) (h₀ : 0 ≤ x) (h₁ : x < 2 ^ 63) : Go.bits .and .i64 x (2 ^ i - 1) = x % 2 ^ i := bits_mask .i64 63 (by decide) wraps_i64 i hi x h₀ h₁
theorem i64_join (i : Nat) (x y : Int) (hx₀ : 0 ≤ x) (hx : x % 2 ^ i = 0) (hx₁ : x < 2 ^ 63) (hy₀ : 0 ≤ y) (hy : y < 2 ^ i) (hy₁ : y < 2 ^ 63) : Go.bits .or .i64 x y = x + y :=
  bits_join .i64 63 (by decide) wraps_i64 i x y hx₀ hx hx₁ hy₀ hy hy₁
theorem bits_or_comm (x y : Int) : Go.bits .or .i64 x y = Go.bits .or .i64 y x := by
  simp only [Go.bits, BitVec.or_comm]
/-- A reader's mask. -/
theorem fld_bits (x a b : Int) (h0 : 0 ≤ x) (h1 : x ≤ 1099511627775) (hb : b.toNat ≤ 40) :
    Go.bits .and .i64 (x / 2 ^ a.toNat) (wrap64 (wrap64 (2 ^ b.toNat) - 1)) = x / 2 ^ a.toNat % 2 ^ b.toNat := by
  rw [pow_wrap _ hb, pow_wrap1 _ hb]
  refine i64_mask _ (by omega) _ (Int.ediv_nonneg h0 (Int.le_of_lt (pow_pos _))) ?_
  have := Int.ediv_le_self (2 ^ a.toNat) h0
  omega

/-- 'w &^ (m << a) | v << a', of natural numbers: w in three parts. -/
theorem nat_put (a b hi f lo v : Nat) (hf : f < 2 ^ b) (hlo : lo < 2 ^ a) (hv : v < 2 ^ b) (hw : 2 ^ a * (2 ^ b * hi + f) + lo < 2 ^ 64) (hm : 2 ^ a * (2 ^ b - 1) < 2 ^ 64) (hv' : 2 ^ a * v < 2 ^ 64) (hr : 2 ^ a * (2 ^ b * hi + v) + lo < 2 ^ 64) :
    (BitVec.ofNat 64 (2 ^ a * (2 ^ b * hi + f) + lo) &&& ~~~(BitVec.ofNat 64 (2 ^ a * (2 ^ b - 1)))) ||| BitVec.ofNat 64 (2 ^ a * v) = BitVec.ofNat 64 (2 ^ a * (2 ^ b * hi + v) + lo) := by
  apply BitVec.eq_of_getLsbD_eq
  intro i hi64
  simp only [BitVec.getLsbD_or, BitVec.getLsbD_and, BitVec.getLsbD_not, BitVec.getLsbD_ofNat, hi64, decide_true, Bool.true_and]
  rw [Nat.testBit_two_pow_mul_add _ hlo, Nat.testBit_two_pow_mul_add _ hlo, Nat.testBit_two_pow_mul, Nat.testBit_two_pow_mul]
  by_cases h1 : i < a
  · have h1' : ¬ a ≤ i := by omega
    simp [h1, h1']
  · have h1' : a ≤ i := by omega
    simp only [h1, if_false, h1', decide_true, Bool.true_and]
    rw [Nat.testBit_two_pow_mul_add _ hf, Nat.testBit_two_pow_mul_add _ hv, Nat.testBit_two_pow_sub_one]
    by_cases h2 : i - a < b
    · simp [h2]
    · have h2v : v.testBit (i - a) = false := Nat.testBit_lt_two_pow (Nat.lt_of_lt_of_le hv (Nat.pow_le_pow_right (by decide) (by omega)))
      simp [h2, h2v]
theorem bits_two (w m v r : Nat) (hr : r < 2 ^ 63) (h : (BitVec.ofNat 64 w &&& ~~~(BitVec.ofNat 64 m)) ||| BitVec.ofNat 64 v = BitVec.ofNat 64 r) :
    Go.bits .or .i64 (Go.bits .andNot .i64 (w : Int) (m : Int)) (v : Int) = (r : Int) := by
  have e64 : IntKind.i64.bits = 64 := rfl
  have e1 : BitVec.ofInt 64 (IntKind.i64.wrap ((BitVec.ofInt 64 (w : Int) &&& ~~~(BitVec.ofInt 64 (m : Int))).toNat : Int)) = BitVec.ofNat 64 w &&& ~~~(BitVec.ofNat 64 m) := by
    rw [BitVec.ofInt_natCast, BitVec.ofInt_natCast]
    generalize BitVec.ofNat 64 w &&& ~~~(BitVec.ofNat 64 m) = z
    apply BitVec.eq_of_toNat_eq
    have hz := z.isLt
    rw [IntKind.wrap_i64]
    rw [BitVec.toNat_ofInt]
    omega
  show IntKind.i64.wrap ((BitVec.ofInt 64 (IntKind.i64.wrap ((BitVec.ofInt 64 (w : Int) &&& ~~~(BitVec.ofInt 64 (m : Int))).toNat : Int)) ||| BitVec.ofInt 64 (v : Int)).toNat : Int) = (r : Int)
  rw [e1, BitVec.ofInt_natCast, h, BitVec.toNat_ofNat, Nat.mod_eq_of_lt (by omega)]
  exact wraps_i64 _ (by omega) (by exact_mod_cast hr)
theorem wth_bits (w a b v : Int) (h0 : 0 ≤ w) (h1 : w ≤ 1099511627775) (ha : 0 ≤ a) (hb : 0 ≤ b) (hab : a + b ≤ 40) (hv : 0 ≤ v) (hv1 : v < 2 ^ b.toNat) :
    Go.bits .or .i64 (Go.bits .andNot .i64 w ((2 ^ b.toNat - 1) * 2 ^ a.toNat)) (v * 2 ^ a.toNat) = w + (v - w / 2 ^ a.toNat % 2 ^ b.toNat) * 2 ^ a.toNat ∧
    (0 ≤ w + (v - w / 2 ^ a.toNat % 2 ^ b.toNat) * 2 ^ a.toNat ∧ w + (v - w / 2 ^ a.toNat % 2 ^ b.toNat) * 2 ^ a.toNat ≤ 1099511627775) := by
  obtain ⟨W, rfl⟩ := Int.eq_ofNat_of_zero_le h0
  obtain ⟨A, rfl⟩ := Int.eq_ofNat_of_zero_le ha
  obtain ⟨B, rfl⟩ := Int.eq_ofNat_of_zero_le hb
  obtain ⟨V, rfl⟩ := Int.eq_ofNat_of_zero_le hv
  simp only [Int.toNat_natCast] at *
  have hV : V < 2 ^ B := by exact_mod_cast hv1
  have hAB : A + B ≤ 40 := by omega
  have hW : W < 2 ^ 40 := by omega
  -- the three parts
  have p1 : W = 2 ^ A * (W / 2 ^ A) + W % 2 ^ A := (Nat.div_add_mod W (2 ^ A)).symm
  have p2 : W / 2 ^ A = 2 ^ B * (W / 2 ^ A / 2 ^ B) + W / 2 ^ A % 2 ^ B := (Nat.div_add_mod (W / 2 ^ A) (2 ^ B)).symm
  have hlo : W % 2 ^ A < 2 ^ A := Nat.mod_lt _ (Nat.two_pow_pos _)
  have hf : W / 2 ^ A % 2 ^ B < 2 ^ B := Nat.mod_lt _ (Nat.two_pow_pos _)
  generalize ehi : W / 2 ^ A / 2 ^ B = hi at p2
  generalize ef : W / 2 ^ A % 2 ^ B = f at p2 hf
  generalize elo : W % 2 ^ A = lo at p1 hlo
  rw [p2] at p1
  have hAB2 : 2 ^ A * 2 ^ B ≤ 2 ^ 40 := by rw [← Nat.pow_add]; exact Nat.pow_le_pow_right (by decide) hAB
  -- the new word is a word: its parts below 2^(40)
  have hhi : hi < 2 ^ (40 - A - B) := by
    rw [← ehi, Nat.div_div_eq_div_mul, ← Nat.pow_add]
    apply Nat.div_lt_of_lt_mul
    rw [← Nat.pow_add, show A + B + (40 - A - B) = 40 by omega]
    exact hW
  have hnew : ∀ g, g < 2 ^ B → 2 ^ A * (2 ^ B * hi + g) + lo < 2 ^ 40 := by
    intro g hg
    have h3 : 2 ^ B * hi + g < 2 ^ (40 - A) := by
      have : 2 ^ B * (hi + 1) ≤ 2 ^ B * 2 ^ (40 - A - B) := Nat.mul_le_mul_left _ hhi
      rw [← Nat.pow_add, show B + (40 - A - B) = 40 - A by omega] at this
      rw [Nat.mul_add] at this
      omega
    have : 2 ^ A * (2 ^ B * hi + g + 1) ≤ 2 ^ A * 2 ^ (40 - A) := Nat.mul_le_mul_left _ h3
    rw [← Nat.pow_add, show A + (40 - A) = 40 by omega] at this
    rw [Nat.mul_add] at this
    omega
  have hR := hnew V hV
  have hval : (W : Int) + ((V : Int) - (W : Int) / 2 ^ A % 2 ^ B) * 2 ^ A = ((2 ^ A * (2 ^ B * hi + V) + lo : Nat) : Int) := by
    have e1 : (W : Int) / 2 ^ A % 2 ^ B = (f : Int) := by rw [← ef]; simp
    rw [e1, p1]
    simp only [Int.natCast_add, Int.natCast_mul, Int.natCast_pow, Int.mul_add, Int.sub_mul]
    simp only [show ((2 : Nat) : Int) = 2 from rfl]
    rw [Int.mul_comm (V : Int), Int.mul_comm (f : Int)]
    omega
  rw [hval]
  refine ⟨?_, by omega, by omega⟩
  have em : ((2 : Int) ^ B - 1) * 2 ^ A = ((2 ^ A * (2 ^ B - 1) : Nat) : Int) := by
    rw [Int.natCast_mul, Int.natCast_sub (Nat.two_pow_pos B)]
    simp [Int.mul_comm]
  have ev : (V : Int) * 2 ^ A = ((2 ^ A * V : Nat) : Int) := by
    rw [Int.natCast_mul]; simp [Int.mul_comm]
  rw [em, ev]
  have hV2 : 2 ^ A * V < 2 ^ 64 := by
    have : 2 ^ A * V ≤ 2 ^ A * 2 ^ B := Nat.mul_le_mul_left _ (Nat.le_of_lt hV)
    omega
  have hm2 : 2 ^ A * (2 ^ B - 1) < 2 ^ 64 := by
    have : 2 ^ A * (2 ^ B - 1) ≤ 2 ^ A * 2 ^ B := Nat.mul_le_mul_left _ (by omega)
    omega
  refine bits_two _ _ _ _ (by omega) ?_
  conv => lhs; rw [p1]
  exact nat_put A B hi f lo V hf hlo hV (by rw [← p1]; omega) hm2 hV2 (by omega)
/-- The same, as the walk spells it. -/
theorem wth_walk (w a b v : Int) (h0 : 0 ≤ w) (h1 : w ≤ 1099511627775) (ha : 0 ≤ a) (hb : 0 ≤ b) (hab : a + b ≤ 40) (hv : 0 ≤ v) (hv1 : v < 2 ^ b.toNat) :
    Go.bits .or .i64 (Go.bits .andNot .i64 w (wrap64 (wrap64 (wrap64 (2 ^ b.toNat) - 1) * 2 ^ a.toNat))) (wrap64 (v * 2 ^ a.toNat)) = w + (v - w / 2 ^ a.toNat % 2 ^ b.toNat) * 2 ^ a.toNat := by
  have hp : (2 : Int) ^ b.toNat * 2 ^ a.toNat ≤ 1099511627776 := by
    rw [← Int.pow_add]; exact pow_le40 _ (by omega)
  have h2 : v * 2 ^ a.toNat ≤ 2 ^ b.toNat * 2 ^ a.toNat := Int.mul_le_mul_of_nonneg_right (by omega) (Int.le_of_lt (pow_pos _))
  have h3 : 0 ≤ v * 2 ^ a.toNat := Int.mul_nonneg hv (Int.le_of_lt (pow_pos _))
  have h4 : (2 ^ b.toNat - 1 : Int) * 2 ^ a.toNat ≤ 2 ^ b.toNat * 2 ^ a.toNat := Int.mul_le_mul_of_nonneg_right (by omega) (Int.le_of_lt (pow_pos _))
  have h5 : 0 ≤ (2 ^ b.toNat - 1 : Int) * 2 ^ a.toNat := Int.mul_nonneg (by have := pow_pos b.toNat; omega) (Int.le_of_lt (pow_pos _))
  rw [pow_wrap _ (by omega), pow_wrap1 _ (by omega), wrap_i _ (by omega) (by omega), wrap_i _ (by omega) (by omega)]
  exact (wth_bits w a b v h0 h1 ha hb hab hv hv1).1
end Go.Proofs.YtkkkffnnpmejiaaDoor
