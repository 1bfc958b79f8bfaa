/- The walk of SameBatch. -/
import Derived.Test.YtoecffmhnpnaaaaWalkM
namespace Go.Proofs.Ytoecffmhnpnaaaa
open Go.RowKit

/-- The world in which both batches lie in blocks of their own. -/
def twoW (w : World) (a b : Int) (v u : Value) : World := (w.alloc (.cells #[.int .i64 a, v] 32)).alloc (.cells #[.int .i64 b, u] 32)
theorem twoW_below (w : World) (a b : Int) (v u : Value) (n : Nat) : Below w.heap.size w ((twoW w a b v u).drewN n) :=
  below_drewN (((Below.refl w.heap.size w).alloc (Nat.le_refl _) _).alloc (by simp) _) n
theorem twoW_cells (w : World) (a b : Int) (v u : Value) : Cells (twoW w a b v u) w.heap.size 32 #[.int .i64 a, v] ∧ Cells (twoW w a b v u) (w.heap.size + 1) 32 #[.int .i64 b, u] := by
  refine ⟨(Cells.made w 32 _).kept (Below.heap_alloc _ _ _ (by simp)), ?_⟩
  have := Cells.made (w.alloc (.cells #[.int .i64 a, v] 32)) 32 #[.int .i64 b, u]
  simpa [twoW] using this
set_option maxHeartbeats 1000000 in
theorem same_batch {w : World} {v u : Value} {xs ys : List Int} {F G : Nat → Prop} (a b : Int) (hx : Nums w v xs F) (hy : Nums w u ys G) :
    Calls Try.prog 20 #[.agg #[.int .i64 a, v], .agg #[.int .i64 b, u]] w fun e w' => e = .returned (.bool (decide (a = b ∧ xs = ys))) ∧ Below w.heap.size w w' := by
  by_cases hl : a = b ∧ xs.length = ys.length
  · obtain ⟨rfl, hl⟩ := hl
    rcases hx with ⟨rfl, rfl⟩ | ⟨g, c, rfl, h1, h2, h3, h4, h5⟩
    · have hy0 : ys = [] := List.length_eq_zero_iff.1 (by simpa using hl.symm)
      subst hy0
      rcases hy with ⟨_, rfl⟩ | ⟨g, c, rfl, h1, _⟩
      · have hB := twoW_below w a a (.slice none 0 0) (.slice none 0 0) 0
        go_enter Try.func20, Try.ntmps20
        go_wp2
        go_loopw [5] (fun i wr => i = .int .i64 0 ∧ wr = twoW w a a (.slice none 0 0) (.slice none 0 0)) (fun _ _ => 0)
        case atStart => exact ⟨rfl, rfl⟩
        case round =>
          obtain ⟨rfl, rfl⟩ := hrel
          obtain ⟨k1, k2⟩ := twoW_cells w a a (.slice none 0 0) (.slice none 0 0)
          have d1 : (twoW w a a (.slice none 0 0) (.slice none 0 0)).cell? ⟨w.heap.size, 1, none⟩ = some (.slice none 0 0) := k1.cell 1
          go_wp2
          go_ret
          exact ⟨ret_bool (by simp), hB⟩
      · simp at h1
    · rcases hy with ⟨rfl, rfl⟩ | ⟨g', c', rfl, h1', h2', h3', h4', h5'⟩
      · simp at hl; rw [hl] at h1; simp at h1
      · rw [← hl]
        have HL := Lib.hid hl
        have HX := Lib.hid h5
        have HY := Lib.hid h5'
        obtain ⟨n0, hn0⟩ : ∃ n0, n0 = xs.length := ⟨_, rfl⟩
        rw [← hn0] at h1 h2 ⊢
        have HN := Lib.hid hn0
        clear hl h5 h5' h1' h2' hn0 h3 h3'
        go_enter Try.func20, Try.ntmps20
        go_wp2
        go_loopw [5] (fun i wr => ∃ k m : Nat, i = .int .i64 k ∧ k ≤ n0 ∧ wr = (twoW w a a (.slice (some ⟨g, 0, none⟩) n0 c) (.slice (some ⟨g', 0, none⟩) n0 c')).drewN m ∧ Hid (∀ j, j < k → xs.getD j 0 = ys.getD j 0)) (fun i _ => n0 - (intOf i).toNat)
        case atStart => exact ⟨0, 0, rfl, by omega, rfl, Lib.hid (fun j h => by omega)⟩
        case round =>
          obtain ⟨k, m, rfl, hk, hwr, HP⟩ := hrel
          have hB : Below w.heap.size w wr := by rw [hwr]; exact twoW_below w a a _ _ m
          obtain ⟨k1, k2⟩ := twoW_cells w a a (.slice (some ⟨g, 0, none⟩) n0 c) (.slice (some ⟨g', 0, none⟩) n0 c')
          have e1 : wr.cell? ⟨w.heap.size, 1, none⟩ = some (.slice (some ⟨g, 0, none⟩) n0 c) := by rw [hwr]; exact k1.cell 1
          have e2 : wr.cell? ⟨w.heap.size + 1, 1, none⟩ = some (.slice (some ⟨g', 0, none⟩) n0 c') := by rw [hwr]; exact k2.cell 1
          have HW := Lib.hid hwr
          have HB := Lib.hid hB
          clear k1 k2 hwr
          by_cases hlk : k < n0
          · obtain ⟨x, hx⟩ : ∃ x, x = xs.getD k 0 := ⟨_, rfl⟩
            obtain ⟨y, hy⟩ : ∃ y, y = ys.getD k 0 := ⟨_, rfl⟩
            have d1 : wr.cell? ⟨g, k, none⟩ = some (.int .i64 x) := by rw [hx, ← HX.out k (by rw [← HN.out]; exact hlk)]; exact hB.cell (p := ⟨g, k, none⟩) h4
            have d2 : wr.cell? ⟨g', k, none⟩ = some (.int .i64 y) := by rw [hy, ← HY.out k (by rw [← HL.out, ← HN.out]; exact hlk)]; exact hB.cell (p := ⟨g', k, none⟩) h4'
            have HXk := Lib.hid hx
            have HYk := Lib.hid hy
            clear hx hy hB
            by_cases he : x = y
            · go_wp2
              go_quiet (fail)
              go_wp2
              go_roundw
              case rel => exact ⟨k + 1, _, by go_num, by omega, by rw [HW.out]; exact World.drewN_drewN _ _ _, Lib.hid (fun j hj => by
                by_cases e : j = k
                · subst e; rw [← HXk.out, ← HYk.out]; exact he
                · exact HP.out j (by omega))⟩
              case measure => simp [intOf]; omega
            · have hf : ¬ (a = a ∧ xs = ys) := fun e => he (by rw [HXk.out, HYk.out, e.2])
              have HF := Lib.hid hf
              clear hf
              go_wp2
              go_quiet (fail)
              go_wp2
              go_ret
              exact ⟨ret_bool (decide_eq_false HF.out).symm, below_drewN HB.out _⟩
          · obtain rfl : k = n0 := by omega
            go_wp2
            go_ret
            exact ⟨ret_bool (decide_eq_true ⟨by simp, list_ext_getD HL.out (fun j hj => HP.out j (by rw [HN.out]; exact hj))⟩).symm, HB.out⟩
  · obtain ⟨A, c, rfl, l1⟩ := hx.len
    obtain ⟨B, d, rfl, l2⟩ := hy.len
    have hf : ¬ (a = b ∧ xs = ys) := fun e => hl ⟨e.1, by rw [e.2]⟩
    have HF := Lib.hid hf
    have hB := twoW_below w a b (.slice A xs.length c) (.slice B ys.length d) 0
    by_cases hab : a = b
    · have hne : ¬ ((xs.length : Int) = ys.length) := fun e => hl ⟨hab, by omega⟩
      subst hab
      clear hf hl hx hy
      go_enter Try.func20, Try.ntmps20
      go_wp2
      go_ret
      exact ⟨ret_bool (decide_eq_false (fun h => HF.out ⟨by simp, h⟩)).symm, hB⟩
    · clear hf hl hx hy
      go_enter Try.func20, Try.ntmps20
      go_wp2
      go_ret
      exact ⟨ret_bool (decide_eq_false HF.out).symm, hB⟩
end Go.Proofs.Ytoecffmhnpnaaaa
