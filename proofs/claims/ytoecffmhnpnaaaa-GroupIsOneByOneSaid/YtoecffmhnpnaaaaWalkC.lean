/- The walks of Open, Waiting, Done. -/
import Derived.Test.YtoecffmhnpnaaaaWalkB
import Derived.Deep.RegionHeld3
import Derived.StillTailTactics
import Derived.Deep.LoopGhost
namespace Go.Proofs.Ytoecffmhnpnaaaa
open Go.RowKit

/-- What stands behind a call that only makes memory, the batch's own block having been laid before. -/
theorem after_clone {w w2 : World} {g : Nat} {v6 v7 v8 : Value} {cs : Array Value} {t : TypeId} (hlt : g < w.heap.size) (hb : Below (w.alloc (.cells cs t)).drew.heap.size (w.alloc (.cells cs t)).drew w2) (c6 : w.cell? ⟨g, 6, none⟩ = some v6) (c7 : w.cell? ⟨g, 7, none⟩ = some v7) (c8 : w.cell? ⟨g, 8, none⟩ = some v8) :
    w2.cell? ⟨g, 6, none⟩ = some v6 ∧ w2.cell? ⟨g, 7, none⟩ = some v7 ∧ w2.cell? ⟨g, 8, none⟩ = some v8 ∧ w2.cell? ⟨w.heap.size, 0, none⟩ = cs[0]? ∧ w2.cell? ⟨w.heap.size, 1, none⟩ = cs[1]? ∧
      w2.frozen? ⟨w.heap.size, 0, none⟩ = false ∧ w2.frozen? ⟨w.heap.size, 1, none⟩ = false ∧ w.heap.size + 1 ≤ w2.heap.size := by
  have hz : w.heap.size + 1 ≤ w2.heap.size := by have := hb.size; simp at this; exact this
  have hc : Cells w2 w.heap.size t cs := (Cells.made w t cs).kept (hb.block w.heap.size (by show _ < (w.alloc (.cells cs t)).heap.size; simp))
  have hk : ∀ i, w2.cell? ⟨g, i, none⟩ = w.cell? ⟨g, i, none⟩ := fun i =>
    (hb.cell (p := ⟨g, i, none⟩) (by show g < (w.alloc (.cells cs t)).heap.size; simp; omega)).trans (World.cell?_alloc_lt w _ ⟨g, i, none⟩ hlt)
  exact ⟨(hk 6).trans c6, (hk 7).trans c7, (hk 8).trans c8, hc.cell 0, hc.cell 1, hc.free 0, hc.free 1, hz⟩
set_option maxHeartbeats 2000000 in
theorem open_any {w : World} {F : Nat → Prop} {g mb : Nat} {bs : List Nat} {S : Gr} (hR : Rep w F g mb bs S) (hO : S.Ok) :
    Calls Try.prog 25 #[.pointer (some ⟨g, 0, none⟩)] w fun e w' => ∃ A c, e = .returned (.tuple #[.agg #[.int .i64 S.bf, .slice A S.txs.length c], .bool S.is]) ∧ Row w' w.heap.size 3 (.slice A S.txs.length c) S.txs ∧ Below w.heap.size w w' := by
  obtain ⟨v, hv, hn⟩ := hR.v
  have c6 : w.cell? ⟨g, 6, none⟩ = some (.bool S.is) := hv.cell 6
  have c7 : w.cell? ⟨g, 7, none⟩ = some (.int .i64 S.bf) := hv.cell 7
  have c8 : w.cell? ⟨g, 8, none⟩ = some v := hv.cell 8
  have hlt := hv.lt
  have hlen := hO.txs
  have hcl : ∀ w' : World, Below w.heap.size w w' → Calls Try.prog 35 #[v] w' fun e w'' => ∃ A c, e = .returned (.slice A S.txs.length c) ∧ Row w'' w'.heap.size 3 (.slice A S.txs.length c) S.txs ∧ Below w'.heap.size w' w'' := fun w' hb =>
    clone_any (hn.kept hb.size fun b _ hlt => ⟨trivial, hb.block b hlt⟩ : Nums w' v S.txs (fun _ => True)) (by omega)
  have n6 := World.new_ne w ⟨g, 6, none⟩ c6
  have n7 := World.new_ne w ⟨g, 7, none⟩ c7
  have n8 := World.new_ne w ⟨g, 8, none⟩ c8
  have HCL := Lib.hid hcl
  clear hcl hn hv hR
  go_enter Try.func25, Try.ntmps25
  go_wp2
  go_region_held3 (fun w' => w'.cell? ⟨g, 6, none⟩ = some (.bool S.is) ∧ w'.cell? ⟨g, 7, none⟩ = some (.int .i64 S.bf) ∧ w'.cell? ⟨g, 8, none⟩ = some v) (go_keep)
    (first | (go_at_call 35; have hB0 := ((Below.refl w.heap.size w).alloc (Nat.le_refl _) (.cells #[.int .i64 0, .slice none 0 0] 32)).drew; refine (HCL.out _ hB0).mono ?_; rintro e w2 ⟨A, c, rfl, hr, hb⟩; obtain ⟨k6, k7, k8, r0, r1, f0, f1, hz⟩ := after_clone (g := g) hlt hb c6 c7 c8))
  go_wp2_with fail
  refine bodyPost_ret (v := .tuple #[.agg #[.int .i64 S.bf, .slice A S.txs.length c], .bool S.is]) (by simp [results, Try.results25, go_sem, r0, r1, World.cell?_setCell_far]) rfl ⟨A, c, rfl, ?_, ?_⟩
  · have hsz : (w.alloc (.cells #[.int .i64 0, .slice none 0 0] 32)).drew.heap.size = w.heap.size + 1 := by show (w.alloc _).heap.size = _; simp
    rw [hsz] at hr
    exact ((hr.setCell (by show w.heap.size < _; omega) _).setCell (by show w.heap.size < _; omega) _).mono (by omega)
  · exact ((hB0.trans (hb.mono (by show _ ≤ (w.alloc _).heap.size; simp))).setCell (Nat.le_refl _) _).setCell (Nat.le_refl _) _
/-- What waits, in order. -/
def Gr.waits (S : Gr) : List Int := S.l.map (·.tx)
set_option maxHeartbeats 2000000 in
theorem waiting_any {w : World} {F : Nat → Prop} {g mb : Nat} {bs : List Nat} {S : Gr} (hR : Rep w F g mb bs S) (hl : S.l.length ≤ 1000000) :
    Calls Try.prog 16 #[.pointer (some ⟨g, 0, none⟩)] w fun e w' => ∃ A c, e = .returned (.slice A S.waits.length c) ∧ Row w' w.heap.size 3 (.slice A S.waits.length c) S.waits ∧ Below w.heap.size w w' := by
  obtain ⟨v, hv, hn⟩ := hR.v
  have c4 : w.cell? ⟨g, 4, none⟩ = some (ptrAt bs 0) := hv.cell 4
  have hlt := hv.lt
  have hlen := hR.len
  have HN := Lib.hid hR.nodes
  have HLen := Lib.hid hlen
  clear hv hn hR hlen
  go_enter Try.func16, Try.ntmps16
  go_wp2
  go_loopg [3, 4] S.l.length (fun n v r wr => ∃ k : Nat, k ≤ S.l.length ∧ n = S.l.length - k ∧ r = ptrAt bs k ∧ Row wr w.heap.size 3 v (S.waits.take k) ∧ Below w.heap.size w wr)
  case atStart => exact ⟨0, by omega, rfl, rfl, Row.nil _ _ _, Below.refl _ _⟩
  case round =>
    obtain ⟨k, hk, hgk, hr, hrow, hB⟩ := hrel
    by_cases hlk : k < S.l.length
    · obtain ⟨x, hx⟩ : ∃ x, S.l[k]? = some x := ⟨_, List.getElem?_eq_getElem hlk⟩
      obtain ⟨b, hb⟩ : ∃ b, bs[k]? = some b := ⟨_, List.getElem?_eq_getElem (by rw [HLen.out]; exact hlk)⟩
      have hnode := HN.out k b x hb hx
      have hblt := hnode.lt
      have hnode' := hnode.kept (hB.block b hblt)
      have d0 : wr.cell? ⟨b, 0, none⟩ = some (.int .i64 x.tx) := hnode'.cell 0
      have HNode := Lib.hid hnode
      rw [ptrAt_in hb] at hr
      subst hr
      have htk : S.waits.take (k + 1) = S.waits.take k ++ [x.tx] := by
        unfold Gr.waits
        rw [List.take_add_one]
        simp [hx]
      have hlk' : (S.waits.take k).length = k := by simp [Gr.waits]; omega
      have HTK := Lib.hid htk
      have HLK := Lib.hid hlk'
      have HRow := Lib.hid hrow
      have HG := Lib.hid hgk
      clear htk hlk' hnode hnode' hrow hgk hb hx
      have hsz := hB.size
      go_wp2_with (at_builtin; refine wpList_app_one wr w.heap.size rfl (.tmp 15) (.tmp 20) 22 3 (.int .i64 0) 1 8 rfl Try.underlying22 info3 rfl (by decide) _ _ _ [.int .i64 x.tx] rfl rfl HRow.out.1 rfl (by simp [Value.oneCell']) (by rw [HLK.out]; simp only [maxLen]; omega) (by rw [HLK.out]; omega) hsz ?_; intro v1 w1 h1 h2 h3; have hB1 := hB.grown h2 hsz (fun q hq => (HRow.out.1.lt q hq).1); have d3 : w1.cell? ⟨b, 3, none⟩ = some (ptrAt bs (k + 1)) := (HNode.out.kept (hB1.block b hblt)).cell 3)
      go_roundg (S.l.length - (k + 1))
      case measure => have := HG.out; omega
      case rel => exact ⟨k + 1, by omega, rfl, rfl, by rw [HTK.out]; exact ⟨by simpa [HLK.out] using h1, fun h => by simp at h⟩, hB1⟩
    · have hk' : k = S.l.length := by omega
      have hpb : ptrAt bs k = .pointer none := ptrAt_out (by rw [HLen.out]; omega)
      rw [hpb] at hr
      subst hr
      have hfull : S.waits.take k = S.waits := List.take_of_length_le (by simp [Gr.waits]; omega)
      rw [hfull] at hrow
      obtain ⟨A, c, rfl⟩ : ∃ A c, u3 = .slice A S.waits.length c := by
        rcases hrow.1.2 with ⟨e, h0⟩ | ⟨q, cap, cur, e, _⟩
        · exact ⟨none, 0, by rw [e, h0]⟩
        · exact ⟨_, _, e⟩
      have HRow := Lib.hid hrow
      clear hrow hfull hpb hgk hk'
      go_wp2
      go_ret
      exact ⟨A, c, rfl, HRow.out, hB⟩
end Go.Proofs.Ytoecffmhnpnaaaa
