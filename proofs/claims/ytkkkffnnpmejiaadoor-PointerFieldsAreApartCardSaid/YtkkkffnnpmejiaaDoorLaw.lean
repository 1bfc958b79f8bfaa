/- Plain laws on pointers, headers and generations: no program in sight. -/
import Derived.Test.YtkkkffnnpmejiaaDoorFn
namespace Go.Proofs.YtkkkffnnpmejiaaDoor
open Go.RowKit

theorem mk_ne {l g : Int} (h : mk l g ≠ 0) : 1 ≤ l ∧ l ≤ 4095 ∧ 1 ≤ g ∧ g ≤ 1048575 ∧ mk l g = l + g * 4096 := by
  unfold mk at *
  split at h
  · rename_i c; rw [if_pos c]; omega
  · exact absurd rfl h
theorem mk_zero {l g : Int} (h : ¬ (1 ≤ l ∧ l ≤ 4095 ∧ 1 ≤ g ∧ g ≤ 1048575)) : mk l g = 0 := by rw [mk, if_neg h]
theorem right_mk {l g : Int} (h : 1 ≤ l ∧ l ≤ 4095 ∧ 1 ≤ g ∧ g ≤ 1048575) : right (l + g * 4096) = true ∧ line (l + g * 4096) = l ∧ gen (l + g * 4096) = g := by
  have hr : right (l + g * 4096) = true := by unfold right; exact decide_eq_true (by omega)
  exact ⟨hr, by rw [line, if_pos hr]; omega, by rw [gen, if_pos hr]; omega⟩
theorem pack_of {k c g : Int} (h : 0 ≤ k ∧ k ≤ 15 ∧ 0 ≤ c ∧ c ≤ 4 ∧ 0 ≤ g ∧ g ≤ 1048575) : pack k c g = k + c * 16 + g * 128 ∧ formed (k + c * 16 + g * 128) = true ∧ kind (k + c * 16 + g * 128) = k ∧ class_ (k + c * 16 + g * 128) = c ∧ generation (k + c * 16 + g * 128) = g := by
  have hf : formed (k + c * 16 + g * 128) = true := by unfold formed; exact decide_eq_true (by omega)
  exact ⟨by rw [pack, if_pos h], hf, by rw [kind, if_pos hf]; omega, by rw [class_, if_pos hf]; omega, by rw [generation, if_pos hf]; omega⟩
theorem check_pack {l g k c g' : Int} (h : 1 ≤ l ∧ l ≤ 4095 ∧ 1 ≤ g ∧ g ≤ 1048575) (hh : 0 ≤ k ∧ k ≤ 15 ∧ 0 ≤ c ∧ c ≤ 4 ∧ 0 ≤ g' ∧ g' ≤ 1048575) :
    check 1 70 (l + g * 4096) (pack k c g') = if k = 0 ∨ g' ≠ g then 70 else 0 := by
  obtain ⟨r, hl, hg⟩ := right_mk h
  obtain ⟨e, f, hk, _, hgen⟩ := pack_of hh
  have h0 : l + g * 4096 ≠ 0 := by omega
  rw [check, e, if_pos ⟨r, h0, f⟩, hk, hgen, hg]
theorem next_of {g : Int} (h : 1 ≤ g ∧ g ≤ 1048575) : next g ≠ g ∧ 1 ≤ next g ∧ next g ≤ 1048575 := by
  unfold next
  split <;> omega
theorem next_one {g g' : Int} (h : 1 ≤ g ∧ g ≤ 1048575) (h' : 1 ≤ g' ∧ g' ≤ 1048575) (hn : g' ≠ g) : next g' ≠ next g := by
  unfold next
  split <;> split <;> omega
end Go.Proofs.YtkkkffnnpmejiaaDoor
