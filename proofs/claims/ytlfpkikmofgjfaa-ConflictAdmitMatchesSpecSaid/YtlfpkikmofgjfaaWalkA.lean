/- The walks of has, meet, rising, ascending. -/
import Derived.Test.YtlfpkikmofgjfaaMem
namespace Go.Proofs.Ytlfpkikmofgjfaa
open Go.RowKit

theorem mem_take_succ {xs : List Int} {k : Nat} (hk : k < xs.length) (x : Int) : x ∈ xs.take (k + 1) ↔ x ∈ xs.take k ∨ x = xs.getD k 0 := by
  rw [List.take_add_one, List.mem_append, List.getD, List.getElem?_eq_getElem hk]
  simp
set_option maxHeartbeats 1000000 in
theorem has_any {w : World} {v : Value} {xs : List Int} (x : Int) (h : Ints w v xs) :
    Calls Try.prog 83 #[v, .int .i64 x] w fun e w' => e = .returned (.bool (decide (x ∈ xs))) ∧ ∃ n, w' = w.drewN n := by
  obtain ⟨hw, A, c, rfl, hm, hcap, hc⟩ := h
  have HC := Lib.hid hc
  clear hc hw
  go_enter Try.func83, Try.ntmps83
  go_wp2
  go_loopw [5] (fun i wr => ∃ k n : Nat, i = .int .i64 k ∧ k ≤ xs.length ∧ wr = w.drewN n ∧ Hid (x ∉ xs.take k)) (fun i _ => xs.length - (intOf i).toNat)
  case atStart => exact ⟨0, 0, rfl, by omega, rfl, Lib.hid (by simp)⟩
  case round =>
    obtain ⟨k, n, rfl, hk, rfl, HN⟩ := hrel
    by_cases hlk : k < xs.length
    · obtain ⟨b, o, rfl, hlt, hcell⟩ := HC.out k hlk
      obtain ⟨y, hy⟩ : ∃ y, y = xs.getD k 0 := ⟨_, rfl⟩
      rw [← hy] at hcell
      have HY := Lib.hid hy
      clear hy
      by_cases he : y = x
      · have HR := Lib.hid (show decide (x ∈ xs) = true from decide_eq_true (by rw [← he, HY.out]; exact getD_mem' hlk))
        go_wp2
        go_ret
        exact ⟨ret_bool HR.out.symm, _, rfl⟩
      · have HR := Lib.hid (show x ∉ xs.take (k + 1) from fun h => by
          rcases (mem_take_succ hlk x).1 h with h | h
          · exact HN.out h
          · exact he (HY.out.trans h.symm))
        go_wp2
        go_roundw
        case rel => exact ⟨k + 1, _, by go_num, by omega, rfl, HR⟩
        case measure => simp [intOf]; omega
    · obtain rfl : k = xs.length := by omega
      have HR := Lib.hid (show decide (x ∈ xs) = false from decide_eq_false (by have := HN.out; rwa [List.take_length] at this))
      go_wp2
      go_ret
      exact ⟨ret_bool HR.out.symm, _, rfl⟩
theorem meet_false_step {a b : List Int} {k : Nat} (hk : k < a.length) (h1 : meet (a.take k) b = false) (h2 : a.getD k 0 ∉ b) : meet (a.take (k + 1)) b = false := by
  rw [← Bool.not_eq_true, meet_iff] at h1 ⊢
  rintro ⟨x, hx, hb⟩
  rcases (mem_take_succ hk x).1 hx with h | h
  · exact h1 ⟨x, h, hb⟩
  · rw [h] at hb; exact h2 hb
set_option maxHeartbeats 1000000 in
theorem meet_any {w : World} {v u : Value} {xs ys : List Int} (h : Ints w v xs) (h' : Ints w u ys) :
    Calls Try.prog 60 #[v, u] w fun e w' => e = .returned (.bool (meet xs ys)) ∧ ∃ n, w' = w.drewN n := by
  have HH := Lib.hid h'
  obtain ⟨hw, A, c, rfl, hm, hcap, hc⟩ := h
  have HC := Lib.hid hc
  clear hc hw h'
  go_enter Try.func60, Try.ntmps60
  go_wp2
  go_loopw [5] (fun i wr => ∃ k n : Nat, i = .int .i64 k ∧ k ≤ xs.length ∧ wr = w.drewN n ∧ Hid (meet (xs.take k) ys = false)) (fun i _ => xs.length - (intOf i).toNat)
  case atStart => exact ⟨0, 0, rfl, by omega, rfl, Lib.hid (by simp [meet])⟩
  case round =>
    obtain ⟨k, n, rfl, hk, rfl, HN⟩ := hrel
    by_cases hlk : k < xs.length
    · obtain ⟨b, o, rfl, hlt, hcell⟩ := HC.out k hlk
      obtain ⟨y, hy⟩ : ∃ y, y = xs.getD k 0 := ⟨_, rfl⟩
      rw [← hy] at hcell
      have HY := Lib.hid hy
      clear hy
      go_wp2_with fail
      refine (has_any y (HH.out.drewN n)).mono ?_
      by_cases he : y ∈ ys
      · rw [decide_eq_true he]
        rintro e w1 ⟨rfl, n1, rfl⟩
        have HR := Lib.hid (show meet xs ys = true from meet_iff.2 ⟨y, by rw [HY.out]; exact getD_mem' hlk, he⟩)
        go_wp2
        go_ret
        exact ⟨ret_bool HR.out.symm, _, rfl⟩
      · rw [decide_eq_false he]
        rintro e w1 ⟨rfl, n1, rfl⟩
        have HR := Lib.hid (meet_false_step hlk HN.out (by rw [← HY.out]; exact he))
        go_wp2
        go_roundw
        case rel => exact ⟨k + 1, _, by go_num, by omega, rfl, HR⟩
        case measure => simp [intOf]; omega
    · obtain rfl : k = xs.length := by omega
      have HR := Lib.hid (show meet xs ys = false by have := HN.out; rwa [List.take_length] at this)
      go_wp2
      go_ret
      exact ⟨ret_bool HR.out.symm, _, rfl⟩
/-- Strictly ascending, by index. -/
theorem rising_iff {xs : List Int} : rising xs = true ↔ ∀ k, k + 1 < xs.length → xs.getD k 0 < xs.getD (k + 1) 0 := by
  induction xs with
  | nil => simp [rising]
  | cons a l ih =>
    rw [rising_cons, ih]
    constructor
    · rintro ⟨h1, h2⟩ k hk
      cases k with
      | zero =>
        cases l with
        | nil => simp at hk
        | cons b l => simpa using h1 b rfl
      | succ k => simpa using h2 k (by simpa using hk)
    · intro h
      refine ⟨fun b hb => ?_, fun k hk => by simpa using h (k + 1) (by simpa using hk)⟩
      cases l with
      | nil => simp at hb
      | cons c l => simp at hb; subst hb; simpa using h 0 (by simp)
set_option maxHeartbeats 1000000 in
theorem rising_any {w : World} {v : Value} {xs : List Int} (h : Ints w v xs) :
    Calls Try.prog 82 #[v] w fun e w' => e = .returned (.bool (rising xs)) ∧ ∃ n, w' = w.drewN n := by
  obtain ⟨hw, A, c, rfl, hm, hcap, hc⟩ := h
  have HC := Lib.hid hc
  clear hc hw
  go_enter Try.func82, Try.ntmps82
  go_wp2
  go_loopw [3] (fun i wr => ∃ k n : Nat, i = .int .i64 (k + 1) ∧ wr = w.drewN n ∧ (k = 0 ∨ k + 1 ≤ xs.length) ∧ Hid (∀ j, j < k → xs.getD j 0 < xs.getD (j + 1) 0)) (fun i _ => xs.length + 1 - (intOf i).toNat)
  case atStart => exact ⟨0, 0, rfl, rfl, .inl rfl, Lib.hid (fun j hj => by omega)⟩
  case round =>
    obtain ⟨k, n, rfl, rfl, hk, HN⟩ := hrel
    by_cases hlk : k + 1 < xs.length
    · obtain ⟨b, o, rfl, hlt, hcell⟩ := HC.out k (by omega)
      obtain ⟨b', o', e', _, hcell'⟩ := HC.out (k + 1) hlk
      injection e' with e1
      injection e1 with e2 e3
      subst e2 e3
      obtain ⟨y, hy⟩ : ∃ y, y = xs.getD k 0 := ⟨_, rfl⟩
      obtain ⟨z, hz⟩ : ∃ z, z = xs.getD (k + 1) 0 := ⟨_, rfl⟩
      rw [← hy] at hcell
      rw [← hz] at hcell'
      have HY := Lib.hid hy
      have HZ := Lib.hid hz
      have hcell'' : w.cell? ⟨b, o + (k + 1), none⟩ = some (.int .i64 z) := hcell'
      clear hy hz hk hcell'
      by_cases he : y < z
      · have HR := Lib.hid (show ∀ j, j < k + 1 → xs.getD j 0 < xs.getD (j + 1) 0 from fun j hj => by
          by_cases e : j = k
          · subst e; rw [← HY.out, ← HZ.out]; exact he
          · exact HN.out j (by omega))
        go_wp2
        go_quiet (fail)
        go_wp2
        go_roundw
        case rel => exact ⟨k + 1, _, by go_num, rfl, .inr (by omega), HR⟩
        case measure => simp [intOf]; omega
      · have HR := Lib.hid (show rising xs = false by
          rw [← Bool.not_eq_true, rising_iff]
          intro h
          have := h k hlk
          rw [← HY.out, ← HZ.out] at this
          exact he this)
        go_wp2
        go_quiet (fail)
        go_wp2
        go_ret
        exact ⟨ret_bool HR.out.symm, _, World.drewN_drewN _ _ _⟩
    · have HR := Lib.hid (show rising xs = true by
        rw [rising_iff]
        exact fun j hj => HN.out j (by omega))
      go_wp2
      go_ret
      exact ⟨ret_bool HR.out.symm, _, rfl⟩
set_option maxHeartbeats 1000000 in
theorem ascending_any {w : World} {v : Value} {xs : List Int} (h : Ints w v xs) :
    Calls Try.prog 77 #[v] w fun e w' => e = .returned (.bool (rising xs)) ∧ ∃ n, w' = w.drewN n := by
  obtain ⟨hw, A, c, rfl, hm, hcap, hc⟩ := h
  have HC := Lib.hid hc
  clear hc hw
  go_enter Try.func77, Try.ntmps77
  go_wp2
  go_loopw [3] (fun i wr => ∃ k n : Nat, i = .int .i64 (k + 1) ∧ wr = w.drewN n ∧ (k = 0 ∨ k + 1 ≤ xs.length) ∧ Hid (∀ j, j < k → xs.getD j 0 < xs.getD (j + 1) 0)) (fun i _ => xs.length + 1 - (intOf i).toNat)
  case atStart => exact ⟨0, 0, rfl, rfl, .inl rfl, Lib.hid (fun j hj => by omega)⟩
  case round =>
    obtain ⟨k, n, rfl, rfl, hk, HN⟩ := hrel
    by_cases hlk : k + 1 < xs.length
    · obtain ⟨b, o, rfl, hlt, hcell⟩ := HC.out k (by omega)
      obtain ⟨b', o', e', _, hcell'⟩ := HC.out (k + 1) hlk
      injection e' with e1
      injection e1 with e2 e3
      subst e2 e3
      obtain ⟨y, hy⟩ : ∃ y, y = xs.getD k 0 := ⟨_, rfl⟩
      obtain ⟨z, hz⟩ : ∃ z, z = xs.getD (k + 1) 0 := ⟨_, rfl⟩
      rw [← hy] at hcell
      rw [← hz] at hcell'
      have HY := Lib.hid hy
      have HZ := Lib.hid hz
      have hcell'' : w.cell? ⟨b, o + (k + 1), none⟩ = some (.int .i64 z) := hcell'
      clear hy hz hk hcell'
      by_cases he : y < z
      · have HR := Lib.hid (show ∀ j, j < k + 1 → xs.getD j 0 < xs.getD (j + 1) 0 from fun j hj => by
          by_cases e : j = k
          · subst e; rw [← HY.out, ← HZ.out]; exact he
          · exact HN.out j (by omega))
        go_wp2
        go_quiet (fail)
        go_wp2
        go_roundw
        case rel => exact ⟨k + 1, _, by go_num, rfl, .inr (by omega), HR⟩
        case measure => simp [intOf]; omega
      · have HR := Lib.hid (show rising xs = false by
          rw [← Bool.not_eq_true, rising_iff]
          intro h
          have := h k hlk
          rw [← HY.out, ← HZ.out] at this
          exact he this)
        go_wp2
        go_quiet (fail)
        go_wp2
        go_ret
        exact ⟨ret_bool HR.out.symm, _, World.drewN_drewN _ _ _⟩
    · have HR := Lib.hid (show rising xs = true by
        rw [rising_iff]
        exact fun j hj => HN.out j (by omega))
      go_wp2
      go_ret
      exact ⟨ret_bool HR.out.symm, _, rfl⟩
end Go.Proofs.Ytlfpkikmofgjfaa
