/- The walk of begun. -/
import Derived.Test.YtoecffmhnpnaaaaWalkO
namespace Go.Proofs.Ytoecffmhnpnaaaa
open Go.RowKit

/-- The last k bits of a word, k at most 62. -/
theorem low_bits (n : Int) (k : Nat) (m : Int) (hm : m = 2 ^ k - 1) (hk : k ≤ 62) (ht : (BitVec.ofInt 64 m).toNat = 2 ^ k - 1) : 0 ≤ bits BinOp.and IntKind.i64 n m ∧ bits BinOp.and IntKind.i64 n m ≤ m := by
  have key : (BitVec.ofInt 64 n &&& BitVec.ofInt 64 m).toNat = (n % ((2 ^ 64 : Nat) : Int)).toNat % 2 ^ k := by
    rw [BitVec.toNat_and, BitVec.toNat_ofInt, ht, Nat.and_two_pow_sub_one_eq_mod]
  show 0 ≤ IntKind.i64.wrap ((BitVec.ofInt 64 n &&& BitVec.ofInt 64 m).toNat : Nat) ∧ IntKind.i64.wrap ((BitVec.ofInt 64 n &&& BitVec.ofInt 64 m).toNat : Nat) ≤ m
  have hpos : 0 < 2 ^ k := Nat.two_pow_pos k
  have hlt : (BitVec.ofInt 64 n &&& BitVec.ofInt 64 m).toNat < 2 ^ k := by rw [key]; exact Nat.mod_lt _ hpos
  have hle : 2 ^ k ≤ 2 ^ 62 := Nat.pow_le_pow_right (by decide) hk
  have hc : ((2 ^ k : Nat) : Int) = 2 ^ k := by simp
  rw [IntWalk.i64_in _ (by omega)]
  omega
theorem low4 (n : Int) : 0 ≤ bits BinOp.and IntKind.i64 n 15 ∧ bits BinOp.and IntKind.i64 n 15 ≤ 15 := low_bits n 4 15 (by decide) (by decide) (by decide)
theorem low8 (n : Int) : 0 ≤ bits BinOp.and IntKind.i64 n 255 ∧ bits BinOp.and IntKind.i64 n 255 ≤ 255 := low_bits n 8 255 (by decide) (by decide) (by decide)
theorem low5 (n : Int) : 0 ≤ bits BinOp.and IntKind.i64 n 31 ∧ bits BinOp.and IntKind.i64 n 31 ≤ 31 := low_bits n 5 31 (by decide) (by decide) (by decide)
theorem low3 (n : Int) : 0 ≤ bits BinOp.and IntKind.i64 n 7 ∧ bits BinOp.and IntKind.i64 n 7 ≤ 7 := low_bits n 3 7 (by decide) (by decide) (by decide)
set_option maxHeartbeats 1000000 in
theorem begun_any (most room delay : Int) (w : World) :
    Calls Try.prog 7 #[.int .i64 most, .int .i64 room, .int .i64 delay] w fun e w' => ∃ (g : Nat) (m r d : Int), e = .returned (.tuple #[.pointer (some ⟨g, 0, none⟩), .int .i64 m, .int .i64 r, .int .i64 d]) ∧ (1 ≤ m ∧ m ≤ 16) ∧ (1 ≤ r ∧ r ≤ 256) ∧ (0 ≤ d ∧ d ≤ 31) ∧
      (∃ F, Grp w' F g (newGr m r d 1) ∧ ∀ b, F b → w.heap.size ≤ b) ∧ Below w.heap.size w w' := by
  obtain ⟨a0, a1⟩ := low4 most
  obtain ⟨b0, b1⟩ := low8 room
  obtain ⟨c0, c1⟩ := low5 delay
  have e1 : wrap64 (1 + bits BinOp.and IntKind.i64 most 15) = 1 + bits BinOp.and IntKind.i64 most 15 := by unfold wrap64; omega
  have e2 : wrap64 (1 + bits BinOp.and IntKind.i64 room 255) = 1 + bits BinOp.and IntKind.i64 room 255 := by unfold wrap64; omega
  have HN := Lib.hid (g_new (1 + bits BinOp.and IntKind.i64 most 15) (1 + bits BinOp.and IntKind.i64 room 255) (bits BinOp.and IntKind.i64 delay 31) 1 w (by unfold okNew; omega))
  go_enter Try.func7, Try.ntmps7
  go_wp2_with (go_at_call 8; refine HN.out.mono ?_; rintro e w1 ⟨g, rfl, hg, hb⟩)
  refine bodyPost_ret (v := .tuple #[.pointer (some ⟨g, 0, none⟩), .int .i64 (1 + bits BinOp.and IntKind.i64 most 15), .int .i64 (1 + bits BinOp.and IntKind.i64 room 255), .int .i64 (bits BinOp.and IntKind.i64 delay 31)]) (by simp [results, Try.results7, go_sem]) rfl ⟨g, _, _, _, rfl, by omega, by omega, by omega, hg, hb⟩
end Go.Proofs.Ytoecffmhnpnaaaa
