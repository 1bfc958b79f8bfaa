/- A slice of whole numbers that came in, read as a list. -/
import Derived.Test.YtoecffmhnpnaaaaPrompt
import Derived.OpenShut
namespace Go.Proofs.Ytoecffmhnpnaaaa
open Go.RowKit

theorem ints_row {w : World} {a : Option Addr} {len cap : Nat} {zs : List Int} (h : (a = none ∧ len = 0 ∧ cap = 0 ∧ zs = []) ∨
    ∃ x, a = some x ∧ len ≤ cap ∧ cap ≤ maxLen ∧ zs.length = cap ∧ (∀ i, i < zs.length → w.cell? (x.add i) = some (.int .i64 (zs.getD i 0))) ∧ ∀ n ∈ zs, (Lit.int .i64 n).wf = true) : Ints w (.slice a len cap) (zs.take len) := by
  rcases h with ⟨rfl, rfl, rfl, rfl⟩ | ⟨x, rfl, hl, hm, hz, hc, _⟩
  · exact ⟨none, 0, rfl, by simp, fun j hj => (by simp at hj)⟩
  · have hlen : (zs.take len).length = len := by simp; omega
    unfold maxLen at hm
    refine ⟨some x, cap, by rw [hlen], by omega, fun j hj => ?_⟩
    rw [hlen] at hj
    obtain ⟨b, off, rfl, hcell⟩ := ints_at hc (by omega)
    have h1 := hcell j (by omega)
    refine ⟨b, off, rfl, World.block_lt_of_cell? w _ h1, ?_⟩
    rw [h1]
    have : (zs.take len).getD j 0 = zs.getD j 0 := by simp [List.getD, List.getElem?_take, hj]
    rw [this]
end Go.Proofs.Ytoecffmhnpnaaaa
