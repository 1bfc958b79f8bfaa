/- The walks that compare: SameInts, SameBatch. -/
import Derived.Test.YtoecffmhnpnaaaaWalkL
namespace Go.Proofs.Ytoecffmhnpnaaaa
open Go.RowKit

theorem Nums.len {w : World} {v : Value} {xs : List Int} {F : Nat → Prop} (h : Nums w v xs F) : ∃ A c, v = .slice A xs.length c ∧ xs.length ≤ 9223372036854775807 := by
  rcases h with ⟨rfl, rfl⟩ | ⟨g, c, rfl, h1, h2, _⟩
  · exact ⟨none, 0, rfl, by simp⟩
  · exact ⟨_, c, rfl, h2⟩
theorem list_ext_getD {xs ys : List Int} (hl : xs.length = ys.length) (h : ∀ j, j < xs.length → xs.getD j 0 = ys.getD j 0) : xs = ys := by
  apply List.ext_getElem hl
  intro j h1 h2
  have := h j h1
  simpa [List.getD, List.getElem?_eq_getElem h1, List.getElem?_eq_getElem h2] using this
set_option maxHeartbeats 1000000 in
theorem same_ints {w : World} {v u : Value} {xs ys : List Int} {F G : Nat → Prop} (hx : Nums w v xs F) (hy : Nums w u ys G) :
    Calls Try.prog 26 #[v, u] w fun e w' => e = .returned (.bool (decide (xs = ys))) ∧ ∃ n, w' = w.drewN n := by
  by_cases hl : xs.length = ys.length
  · rcases hx with ⟨rfl, rfl⟩ | ⟨g, c, rfl, h1, h2, h3, h4, h5⟩
    · have hy0 : ys = [] := List.length_eq_zero_iff.1 (by simpa using hl.symm)
      subst hy0
      rcases hy with ⟨_, rfl⟩ | ⟨g, c, rfl, h1, _⟩
      · go_enter Try.func26, Try.ntmps26
        go_wp2
        go_loopw [5] (fun i wr => i = .int .i64 0 ∧ wr = w) (fun _ _ => 0)
        case atStart => exact ⟨rfl, rfl⟩
        case round =>
          obtain ⟨rfl, rfl⟩ := hrel
          go_wp2
          go_ret
          exact ⟨by simp, 0, rfl⟩
      · simp at h1
    · rcases hy with ⟨rfl, rfl⟩ | ⟨g', c', rfl, h1', h2', h3', h4', h5'⟩
      · simp at hl; rw [hl] at h1; simp at h1
      · rw [← hl]
        have HL := Lib.hid hl
        have HX := Lib.hid h5
        have HY := Lib.hid h5'
        obtain ⟨n0, hn0⟩ : ∃ n0, n0 = xs.length := ⟨_, rfl⟩
        rw [← hn0] at h1 h2 ⊢
        have HN := Lib.hid hn0
        clear hl h5 h5' h1' h2' hn0 h3 h3'
        go_enter Try.func26, Try.ntmps26
        go_wp2
        go_loopw [5] (fun i wr => ∃ k m : Nat, i = .int .i64 k ∧ k ≤ n0 ∧ wr = w.drewN m ∧ Hid (∀ j, j < k → xs.getD j 0 = ys.getD j 0)) (fun i _ => n0 - (intOf i).toNat)
        case atStart => exact ⟨0, 0, rfl, by omega, rfl, Lib.hid (fun j h => by omega)⟩
        case round =>
          obtain ⟨k, m, rfl, hk, rfl, HP⟩ := hrel
          by_cases hlk : k < n0
          · obtain ⟨x, hx⟩ : ∃ x, x = xs.getD k 0 := ⟨_, rfl⟩
            obtain ⟨y, hy⟩ : ∃ y, y = ys.getD k 0 := ⟨_, rfl⟩
            have d1 : w.cell? ⟨g, k, none⟩ = some (.int .i64 x) := by rw [hx]; exact HX.out k (by rw [← HN.out]; exact hlk)
            have d2 : w.cell? ⟨g', k, none⟩ = some (.int .i64 y) := by rw [hy]; exact HY.out k (by rw [← HL.out, ← HN.out]; exact hlk)
            have HXk := Lib.hid hx
            have HYk := Lib.hid hy
            clear hx hy
            by_cases he : x = y
            · go_wp2
              go_quiet (fail)
              go_wp2
              go_roundw
              case rel => exact ⟨k + 1, _, by go_num, by omega, rfl, Lib.hid (fun j hj => by
                by_cases e : j = k
                · subst e; rw [← HXk.out, ← HYk.out]; exact he
                · exact HP.out j (by omega))⟩
              case measure => simp [intOf]; omega
            · have hf : ¬ xs = ys := fun e => he (by rw [HXk.out, HYk.out, e])
              have HF := Lib.hid hf
              clear hf
              go_wp2
              go_quiet (fail)
              go_wp2
              go_ret
              exact ⟨ret_bool (decide_eq_false HF.out).symm, _, World.drewN_drewN _ _ _⟩
          · obtain rfl : k = n0 := by omega
            go_wp2
            go_ret
            exact ⟨ret_bool (decide_eq_true (list_ext_getD HL.out (fun j hj => HP.out j (by rw [HN.out]; exact hj)))).symm, _, rfl⟩
  · obtain ⟨A, c, rfl, l1⟩ := hx.len
    obtain ⟨B, d, rfl, l2⟩ := hy.len
    have hf : ¬ xs = ys := fun e => hl (by rw [e])
    have HF := Lib.hid hf
    have hne : ¬ ((xs.length : Int) = ys.length) := by omega
    clear hf hl hx hy
    go_enter Try.func26, Try.ntmps26
    go_wp2
    go_ret
    exact ⟨ret_bool (decide_eq_false HF.out).symm, 0, rfl⟩
end Go.Proofs.Ytoecffmhnpnaaaa
