/- The walks of sameInts and same. -/
import Derived.Test.YtlfpkikmofgjfaaWalkR
import Derived.ChangeKeysEq
namespace Go.Proofs.Ytlfpkikmofgjfaa
open Go.RowKit

theorem ints_ext {xs ys : List Int} (hl : xs.length = ys.length) (h : ∀ j, j < xs.length → xs.getD j 0 = ys.getD j 0) : xs = ys := by
  apply List.ext_getElem hl
  intro i h1 h2
  have := h i h1
  simpa [List.getD, List.getElem?_eq_getElem h1, List.getElem?_eq_getElem h2] using this
set_option maxHeartbeats 1000000 in
theorem sameInts_any {w : World} {u v : Value} {xs ys : List Int} (hx : Ints w u xs) (hy : Ints w v ys) :
    Calls Try.prog 34 #[u, v] w fun e w' => e = .returned (.bool (decide (xs = ys))) ∧ Below w.heap.size w w' := by
  obtain ⟨_, A, c, rfl, hm, hcap, hc⟩ := hx
  obtain ⟨_, B, d, rfl, hn, hdap, hd⟩ := hy
  have HX := Lib.hid hc
  have HY := Lib.hid hd
  clear hc hd
  by_cases hl : xs.length = ys.length
  · have HL := Lib.hid hl
    have hlb : ((xs.length : Int) != (ys.length : Int)) = false := by simp [hl]
    have hly : ys.length = xs.length := hl.symm
    rw [hly] at hlb ⊢
    clear hl hly hlb
    go_enter Try.func34, Try.ntmps34
    go_wp2_with fail
    go_loopw [5] (fun i wr => ∃ k n : Nat, i = .int .i64 k ∧ k ≤ xs.length ∧ wr = w.drewN n ∧ Hid (∀ j, j < k → xs.getD j 0 = ys.getD j 0)) (fun i _ => xs.length - (intOf i).toNat)
    case atStart => exact ⟨0, 0, rfl, by omega, rfl, Lib.hid (fun j hj => by omega)⟩
    case round =>
      obtain ⟨k, n, rfl, hk, rfl, HE⟩ := hrel
      by_cases hlk : k < xs.length
      · obtain ⟨b, o, rfl, h1, h2⟩ := HX.out k hlk
        obtain ⟨b', o', rfl, h3, h4⟩ := HY.out k (by rw [← HL.out]; exact hlk)
        have HEx := Lib.hid (ints_ext HL.out)
        obtain ⟨x, hx⟩ : ∃ x, x = xs.getD k 0 := ⟨_, rfl⟩
        obtain ⟨y, hy⟩ : ∃ y, y = ys.getD k 0 := ⟨_, rfl⟩
        rw [← hx] at h2
        rw [← hy] at h4
        have HXk := Lib.hid hx
        have HYk := Lib.hid hy
        clear hx hy
        by_cases he : x = y
        · have HE2 : Hid (∀ j, j < k + 1 → xs.getD j 0 = ys.getD j 0) := Lib.hid (fun j hj => by
            by_cases e : j = k
            · rw [e, ← HXk.out, ← HYk.out]; exact he
            · exact HE.out j (by omega))
          have hb : (x != y) = false := by simp [he]
          clear he
          go_wp2_with fail
          go_quiet (fail)
          go_wp2_with fail
          go_roundw
          case rel => exact ⟨k + 1, _, by go_num, by omega, rfl, HE2⟩
          case measure => simp [intOf]; omega
        · have HR := Lib.hid (show decide (xs = ys) = false from decide_eq_false (fun e => he (by rw [HXk.out, HYk.out, e])))
          have hb : (x != y) = true := by simp [he]
          clear he
          go_wp2_with fail
          go_quiet (fail)
          go_wp2_with fail
          go_ret
          exact ⟨ret_bool HR.out.symm, Below.drewN' (Below.drewN' (Below.refl _ _) _) _⟩
      · obtain rfl : k = xs.length := by omega
        have HR := Lib.hid (decide_eq_true (ints_ext HL.out HE.out))
        go_wp2_with fail
        go_ret
        exact ⟨ret_bool HR.out.symm, Below.drewN' (Below.refl _ _) _⟩
  · have HR := Lib.hid (show decide (xs = ys) = false from decide_eq_false (fun e => hl (by rw [e])))
    have hlb : ((xs.length : Int) != (ys.length : Int)) = true := by simp; omega
    clear hl
    go_enter Try.func34, Try.ntmps34
    go_wp2_with fail
    go_ret
    exact ⟨ret_bool HR.out.symm, Below.refl _ _⟩
theorem plain3 : Try.prog.plainKey 3 = true := by kernel_rfl
theorem eq55 (w : World) (d : Nat) (a b c e : Int) : (Op.equalIn (d + 2) 55 (.agg #[.int .i64 a, .int .i64 b]) (.agg #[.int .i64 c, .int .i64 e])).run Try.prog w = .ok (a == c && b == e) w := by
  have p0 : ∀ (x y : Int) (w : World), (part 3 #[.int .i64 x, .int .i64 y] 0).run Try.prog w = .ok (.int .i64 x) w := fun x y w => run_part_plain w plain3 rfl
  have p1 : ∀ (x y : Int) (w : World), (part 3 #[.int .i64 x, .int .i64 y] 1).run Try.prog w = .ok (.int .i64 y) w := fun x y w => run_part_plain w plain3 rfl
  unfold Op.equalIn
  simp [run_underlying Try.underlying55, List.range', p0, p1, run_equalIn_int _ _ _ _ _ _ _ Try.underlying3]
  by_cases h1 : a = c
  · by_cases h2 : b = e
    · simp [h1, h2]
    · simp [h1, h2]
  · simp [h1]
theorem neq55 (w : World) (a b c e : Int) : (binOp .neq 55 (.agg #[.int .i64 a, .int .i64 b]) (.agg #[.int .i64 c, .int .i64 e])).run Try.prog w = .ok (.bool (!(a == c && b == e))) w := by
  rw [run_neq_struct, eq55 w 9998]
  rfl
theorem eql55 (w : World) (a b c e : Int) : (binOp .eql 55 (.agg #[.int .i64 a, .int .i64 b]) (.agg #[.int .i64 c, .int .i64 e])).run Try.prog w = .ok (.bool (a == c && b == e)) w := by
  rw [run_eql_struct, eq55 w 9998]
  rfl
theorem pairs_ext {xs ys : List (Nat × Nat)} (hl : xs.length = ys.length) (h : ∀ j, j < xs.length → xs.getD j (0, 0) = ys.getD j (0, 0)) : xs = ys := by
  apply List.ext_getElem hl
  intro i h1 h2
  have := h i h1
  simpa [List.getD, List.getElem?_eq_getElem h1, List.getElem?_eq_getElem h2] using this
set_option maxHeartbeats 1000000 in
theorem same_any {w : World} {u v : Value} {xs ys : List (Nat × Nat)} (hx : PNums w u xs) (hy : PNums w v ys) :
    Calls Try.prog 26 #[u, v] w fun e w' => e = .returned (.bool (decide (xs = ys))) ∧ Below w.heap.size w w' := by
  obtain ⟨A, c, rfl, hm, hc⟩ := hx
  obtain ⟨B, d, rfl, hn, hd⟩ := hy
  have HX := Lib.hid hc
  have HY := Lib.hid hd
  clear hc hd
  by_cases hl : xs.length = ys.length
  · have HL := Lib.hid hl
    have hly : ys.length = xs.length := hl.symm
    rw [hly]
    clear hl hly
    go_enter Try.func26, Try.ntmps26
    go_wp2_with fail
    go_loopw [5] (fun i wr => ∃ k n : Nat, i = .int .i64 k ∧ k ≤ xs.length ∧ wr = w.drewN n ∧ Hid (∀ j, j < k → xs.getD j (0, 0) = ys.getD j (0, 0))) (fun i _ => xs.length - (intOf i).toNat)
    case atStart => exact ⟨0, 0, rfl, by omega, rfl, Lib.hid (fun j hj => by omega)⟩
    case round =>
      obtain ⟨k, n, rfl, hk, rfl, HE⟩ := hrel
      by_cases hlk : k < xs.length
      · obtain ⟨b, rfl, h1, h2, h2'⟩ := HX.out k hlk
        obtain ⟨b', rfl, h3, h4, h4'⟩ := HY.out k (by rw [← HL.out]; exact hlk)
        have HEx := Lib.hid (pairs_ext HL.out)
        obtain ⟨x, hx⟩ : ∃ x, x = xs.getD k (0, 0) := ⟨_, rfl⟩
        obtain ⟨y, hy⟩ : ∃ y, y = ys.getD k (0, 0) := ⟨_, rfl⟩
        rw [← hx] at h2 h2'
        rw [← hy] at h4 h4'
        have HXk := Lib.hid hx
        have HYk := Lib.hid hy
        clear hx hy
        obtain ⟨x1, x2⟩ := x
        obtain ⟨y1, y2⟩ := y
        have h2 : w.cell? ⟨b, k * 2, none⟩ = some (.int .i64 (x1 : Nat)) := h2
        have h2' : w.cell? ⟨b, k * 2 + 1, none⟩ = some (.int .i64 (x2 : Nat)) := h2'
        have h4 : w.cell? ⟨b', k * 2, none⟩ = some (.int .i64 (y1 : Nat)) := h4
        have h4' : w.cell? ⟨b', k * 2 + 1, none⟩ = some (.int .i64 (y2 : Nat)) := h4'
        by_cases he : x1 = y1 ∧ x2 = y2
        · have HE2 : Hid (∀ j, j < k + 1 → xs.getD j (0, 0) = ys.getD j (0, 0)) := Lib.hid (fun j hj => by
            by_cases e : j = k
            · rw [e, ← HXk.out, ← HYk.out, he.1, he.2]
            · exact HE.out j (by omega))
          have hq : ∀ w : World, (binOp .neq 55 (.agg #[.int .i64 (x1 : Int), .int .i64 (x2 : Int)]) (.agg #[.int .i64 (y1 : Int), .int .i64 (y2 : Int)])).run Try.prog w = .ok (.bool false) w := fun w => by
            rw [neq55, he.1, he.2]; simp
          clear he
          go_wp2_with fail
          go_quiet (fail)
          go_wp2_with fail
          go_roundw
          case rel => exact ⟨k + 1, _, by go_num, by omega, rfl, HE2⟩
          case measure => simp [intOf]; omega
        · have HR := Lib.hid (show decide (xs = ys) = false from decide_eq_false (fun e => he (by
            have h := HXk.out.trans ((by rw [e] : xs.getD k (0, 0) = ys.getD k (0, 0)).trans HYk.out.symm)
            injection h with h1 h2
            exact ⟨h1, h2⟩)))
          have hq : ∀ w : World, (binOp .neq 55 (.agg #[.int .i64 (x1 : Int), .int .i64 (x2 : Int)]) (.agg #[.int .i64 (y1 : Int), .int .i64 (y2 : Int)])).run Try.prog w = .ok (.bool true) w := fun w => by
            rw [neq55]
            have : ((x1 : Int) == y1 && (x2 : Int) == y2) = false := by
              rw [Bool.eq_false_iff]
              intro h
              simp only [Bool.and_eq_true, beq_iff_eq] at h
              exact he ⟨by omega, by omega⟩
            rw [this]
            rfl
          clear he
          go_wp2_with fail
          go_quiet (fail)
          go_wp2_with fail
          go_ret
          exact ⟨ret_bool HR.out.symm, Below.drewN' (Below.drewN' (Below.refl _ _) _) _⟩
      · obtain rfl : k = xs.length := by omega
        have HR := Lib.hid (decide_eq_true (pairs_ext HL.out HE.out))
        go_wp2_with fail
        go_ret
        exact ⟨ret_bool HR.out.symm, Below.drewN' (Below.refl _ _) _⟩
  · have HR := Lib.hid (show decide (xs = ys) = false from decide_eq_false (fun e => hl (by rw [e])))
    have hlb : ((xs.length : Int) != (ys.length : Int)) = true := by simp; omega
    clear hl
    go_enter Try.func26, Try.ntmps26
    go_wp2_with fail
    go_ret
    exact ⟨ret_bool HR.out.symm, Below.refl _ _⟩
end Go.Proofs.Ytlfpkikmofgjfaa
