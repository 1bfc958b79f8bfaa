/- The walks of New and Done. -/
import Derived.Test.YtoecffmhnpnaaaaWalkC
namespace Go.Proofs.Ytoecffmhnpnaaaa
open Go.RowKit

/-- Limits with which there is a group. -/
def okNew (most room delay next : Int) : Prop := 1 ≤ most ∧ most ≤ 64 ∧ 1 ≤ room ∧ room ≤ 1048576 ∧ 0 ≤ delay ∧ delay ≤ 1048576 ∧ 1 ≤ next ∧ next ≤ 1073741824
def newGr (most room delay next : Int) : Gr := { most, room, delay, stamp := next, l := [], is := false, bf := 0, txs := [] }
theorem newGr_ok {most room delay next : Int} (h : okNew most room delay next) : (newGr most room delay next).Ok := by
  obtain ⟨h1, h2, h3, h4, h5, h6, h7, h8⟩ := h
  exact ⟨⟨h1, h2⟩, ⟨h3, h4⟩, ⟨h5, h6⟩, ⟨h7, by simp [newGr]; omega⟩, by simp [newGr], by simp [newGr], by simp [newGr], by simp [newGr]⟩
set_option maxHeartbeats 1000000 in
theorem new_no (most room delay next : Int) (w : World) (h : ¬ okNew most room delay next) :
    Calls Try.prog 8 #[.int .i64 most, .int .i64 room, .int .i64 delay, .int .i64 next] w fun e w' => e = .returned (.pointer none) ∧ w = w' := by
  unfold okNew at h
  by_cases a1 : 1 ≤ most ∧ most ≤ 64
  · by_cases a2 : 1 ≤ room ∧ room ≤ 1048576
    · by_cases a3 : 0 ≤ delay ∧ delay ≤ 1048576
      · have a4 : next < 1 ∨ (1 ≤ next ∧ 1073741824 < next) := by omega
        obtain ⟨a1, b1⟩ := a1
        obtain ⟨a2, b2⟩ := a2
        obtain ⟨a3, b3⟩ := a3
        clear h
        rcases a4 with a4 | ⟨a4, b4⟩
        all_goals
          go_enter Try.func8, Try.ntmps8
          go_wp2
          go_ret
          exact ⟨rfl, rfl⟩
      · have a4 : delay < 0 ∨ (0 ≤ delay ∧ 1048576 < delay) := by omega
        obtain ⟨a1, b1⟩ := a1
        obtain ⟨a2, b2⟩ := a2
        clear h a3
        rcases a4 with a4 | ⟨a4, b4⟩
        all_goals
          go_enter Try.func8, Try.ntmps8
          go_wp2
          go_ret
          exact ⟨rfl, rfl⟩
    · have a4 : room < 1 ∨ (1 ≤ room ∧ 1048576 < room) := by omega
      obtain ⟨a1, b1⟩ := a1
      clear h a2
      rcases a4 with a4 | ⟨a4, b4⟩
      all_goals
        go_enter Try.func8, Try.ntmps8
        go_wp2
        go_ret
        exact ⟨rfl, rfl⟩
  · have a4 : most < 1 ∨ (1 ≤ most ∧ 64 < most) := by omega
    clear h a1
    rcases a4 with a4 | ⟨a4, b4⟩
    all_goals
      go_enter Try.func8, Try.ntmps8
      go_wp2
      go_ret
      exact ⟨rfl, rfl⟩
set_option maxHeartbeats 1000000 in
theorem new_yes (most room delay next : Int) (w : World) (h : okNew most room delay next) :
    Calls Try.prog 8 #[.int .i64 most, .int .i64 room, .int .i64 delay, .int .i64 next] w fun e w' => e = .returned (.pointer (some ⟨w.heap.size + 1, 0, none⟩)) ∧ Rep w' (fun b => w.heap.size ≤ b ∧ b < w'.heap.size) (w.heap.size + 1) w.heap.size [] (newGr most room delay next) ∧ Below w.heap.size w w' := by
  obtain ⟨h1, h2, h3, h4, h5, h6, h7, h8⟩ := h
  have hmm := @run_makeMap Try.prog
  go_enter Try.func8, Try.ntmps8
  go_wp2
  go_ret
  refine ⟨rfl, ⟨⟨.slice none 0 0, ?_, Nums.nil _ _⟩, rfl, fun k b x hb => by simp at hb, List.nodup_nil, ?_, ?_, ?_, by simp⟩, ((Below.refl _ _).alloc (Nat.le_refl _) _).alloc (by simp) _⟩
  · have := Cells.made (w.alloc (.map #[] 0)) 63 #[.int .i64 most, .int .i64 room, .int .i64 delay, .int .i64 next, .pointer none, .map (some w.heap.size), .bool false, .int .i64 0, .slice none 0 0]
    simp at this
    exact this
  · exact (SetAt.made w Try.prog 3 4).kept (Below.heap_alloc _ _ _ (by simp))
  · simp
  · simp; omega

/-- A row of reports that the call owns: each a transaction and its stamp. -/
def Reps (w : World) (base : Nat) (v : Value) (rs : List (Int × Int)) : Prop := w.ownsRow base 65 2 v rs.length (rs.flatMap fun r => [Value.int .i64 r.1, Value.int .i64 r.2]) ∧ (rs = [] → v = .slice none 0 0)
theorem Reps.nil (w : World) (base : Nat) : Reps w base (.slice none 0 0) [] := ⟨⟨rfl, .inl ⟨rfl, rfl⟩⟩, fun _ => rfl⟩
theorem Only.three {w w1 : World} {F : Nat → Prop} (h : Only w w1 F) {g i j k : Nat} {x y z : Value} (hg : F g) : Only w (((w1.setCell ⟨g, i, none⟩ x).setCell ⟨g, j, none⟩ y).setCell ⟨g, k, none⟩ z) F :=
  ((h.setCell (p := ⟨g, i, none⟩) (Or.inl hg) x).setCell (p := ⟨g, j, none⟩) (Or.inl hg) y).setCell (p := ⟨g, k, none⟩) (Or.inl hg) z
theorem Reps.closed {wr : World} {base : Nat} {v : Value} {rs : List (Int × Int)} (h : Reps wr base v rs) {x y z : Value} {i j k : Nat} {g : Nat} (hg : g < base) : Reps (((wr.setCell ⟨g, i, none⟩ x).setCell ⟨g, j, none⟩ y).setCell ⟨g, k, none⟩ z) base v rs :=
  ⟨ownsRow_setCell_below (ownsRow_setCell_below (ownsRow_setCell_below h.1 hg _) hg _) hg _, h.2⟩
theorem info65 : (Try.prog.info? 65).map (fun i => (i.zero, i.size, i.bytes)) = some (some (.agg #[.int .i64 0, .int .i64 0]), 2, 16) := by kernel_rfl
/-- What Done reports. -/
def repsOf (bf : Int) (txs : List Int) : List (Int × Int) := txs.zipIdx.map fun p => (p.1, bf + p.2)
def Gr.closed (S : Gr) : Gr := { S with is := false, bf := 0, txs := [] }
theorem repsOf_take {bf : Int} {txs : List Int} {k : Nat} (h : k < txs.length) : (repsOf bf txs).take (k + 1) = (repsOf bf txs).take k ++ [(txs.getD k 0, bf + k)] := by
  unfold repsOf
  rw [List.take_add_one]
  simp [h, List.getD]
theorem repsOf_length (bf : Int) (txs : List Int) : (repsOf bf txs).length = txs.length := by simp [repsOf]
set_option maxHeartbeats 600000 in
theorem done_any {w : World} {F : Nat → Prop} {g mb : Nat} {bs : List Nat} {S : Gr} (hR : Rep w F g mb bs S) (hO : S.Ok) :
    Calls Try.prog 12 #[.pointer (some ⟨g, 0, none⟩)] w fun e w' => ∃ A c, e = .returned (.slice A S.txs.length c) ∧ Reps w' w.heap.size (.slice A S.txs.length c) (repsOf S.bf S.txs) ∧ Rep w' F g mb bs S.closed ∧ Only w w' (fun b => b = g) := by
  obtain ⟨v, hv, hn⟩ := hR.v
  have c7 : w.cell? ⟨g, 7, none⟩ = some (.int .i64 S.bf) := hv.cell 7
  have c8 : w.cell? ⟨g, 8, none⟩ = some v := hv.cell 8
  have hlt := hv.lt
  obtain ⟨b0, b1⟩ := hO.bf
  have ht := hO.txs
  rcases hn with ⟨htx, rfl⟩ | ⟨sb, c, rfl, hp, hm, hF, hslt, hcell⟩
  · have e6 : w.cell? ⟨g, 6, none⟩ = some (.bool S.is) := hv.cell 6
    have f6 := hv.free 6
    have f7 := hv.free 7
    have f8 := hv.free 8
    have HR := Lib.hid hR
    have HV := Lib.hid hv
    have HT := Lib.hid htx
    clear hR hv hO htx
    go_enter Try.func12, Try.ntmps12
    go_wp2
    go_loopw [3, 12] (fun o i wr => i = .int .i64 0 ∧ o = .slice none 0 0 ∧ w = wr) (fun _ _ _ => 0)
    case atStart => exact ⟨rfl, rfl, rfl⟩
    case round =>
      obtain ⟨rfl, rfl, rfl⟩ := hrel
      go_wp2
      go_ret
      refine ⟨none, 0, ?_, ?_, ?_, ?_⟩
      · rw [HT.out]; rfl
      · rw [HT.out]; exact (Reps.nil w w.heap.size).closed hlt
      rotate_left
      · exact Only.three (Only.refl w _) rfl
      have hc3 := ((HV.out.set 6 (.bool false)).set 7 (.int .i64 0)).set 8 (.slice none 0 0)
      simp only [List.setIfInBounds_toArray, List.set_cons_zero, List.set_cons_succ] at hc3
      refine HR.out.regroup (v' := .slice none 0 0) (fun b hb hbl => ?_) rfl hc3 (Nums.nil _ _)
      rw [Below.heap_setCell _ _ _ _ hb, Below.heap_setCell _ _ _ _ hb, Below.heap_setCell _ _ _ _ hb]
  · have HC := Lib.hid hcell
    have HR := Lib.hid hR
    have HV := Lib.hid hv
    clear hcell hR hv hO
    go_enter Try.func12, Try.ntmps12
    go_wp2
    go_loopw [3, 12] (fun o i wr => ∃ k : Nat, k ≤ S.txs.length ∧ i = .int .i64 k ∧ Reps wr w.heap.size o ((repsOf S.bf S.txs).take k) ∧ Below w.heap.size w wr) (fun _ i _ => S.txs.length - (intOf i).toNat)
    case atStart => exact ⟨0, by omega, rfl, Reps.nil _ _, Below.refl _ _⟩
    case round =>
      obtain ⟨k, hk, rfl, hrow, hB⟩ := hrel
      have hsz := hB.size
      by_cases hlk : k < S.txs.length
      · obtain ⟨x, hx⟩ : ∃ x, x = S.txs.getD k 0 := ⟨_, rfl⟩
        have d0 : wr.cell? ⟨sb, k, none⟩ = some (.int .i64 x) := by rw [hx, ← HC.out k hlk]; exact hB.cell (p := ⟨sb, k, none⟩) hslt
        have d7 : wr.cell? ⟨g, 7, none⟩ = some (.int .i64 S.bf) := by rw [← c7]; exact hB.cell (p := ⟨g, 7, none⟩) hlt
        have hlk' : ((repsOf S.bf S.txs).take k).length = k := by rw [List.length_take, repsOf_length]; omega
        have htk := repsOf_take (bf := S.bf) hlk
        rw [← hx] at htk
        have HTK := Lib.hid htk
        have HLK := Lib.hid hlk'
        have HRow := Lib.hid hrow
        clear htk hlk' hrow hx
        go_wp2_with (at_builtin; refine wpList_app_one wr w.heap.size rfl (.tmp 17) (.tmp 27) 28 65 (.agg #[.int .i64 0, .int .i64 0]) 2 16 rfl Try.underlying28 info65 rfl (by decide) _ _ _ [.int .i64 x, .int .i64 (S.bf + k)] rfl rfl HRow.out.1 rfl (by simp [Value.oneCell']) (by rw [HLK.out]; simp only [maxLen]; omega) (by rw [HLK.out]; omega) hsz ?_; intro v1 w1 h1 h2 h3; have hB1 := hB.grown h2 hsz (fun q hq => (HRow.out.1.lt q hq).1))
        go_roundw
        case rel => exact ⟨k + 1, by omega, by go_num, by rw [HTK.out]; exact ⟨by simpa [HLK.out] using h1, fun h => by simp at h⟩, hB1⟩
        case measure => simp [intOf]; omega
      · have hfull : (repsOf S.bf S.txs).take k = repsOf S.bf S.txs := List.take_of_length_le (by rw [repsOf_length]; omega)
        rw [hfull] at hrow
        obtain ⟨A, c', rfl⟩ : ∃ A c', u3 = .slice A S.txs.length c' := by
          rcases hrow.1.2 with ⟨e, h0⟩ | ⟨q, cap, cur, e, _⟩
          · exact ⟨none, 0, by rw [e, ← repsOf_length S.bf, h0]⟩
          · exact ⟨_, _, by rw [e, repsOf_length]⟩
        have hv' := HV.out.kept (hB.block g hlt)
        have e6 : wr.cell? ⟨g, 6, none⟩ = some (.bool S.is) := hv'.cell 6
        have e7 : wr.cell? ⟨g, 7, none⟩ = some (.int .i64 S.bf) := hv'.cell 7
        have e8 : wr.cell? ⟨g, 8, none⟩ = some (.slice (some ⟨sb, 0, none⟩) S.txs.length c) := hv'.cell 8
        have f6 := hv'.free 6
        have f7 := hv'.free 7
        have f8 := hv'.free 8
        have HRow := Lib.hid hrow
        have HVr := Lib.hid hv'
        clear hrow hfull hv'
        go_wp2
        go_ret
        refine ⟨A, c', rfl, ?_, ?_, ?_⟩
        · exact HRow.out.closed hlt
        rotate_left
        · exact Only.three (Only.of_below hB _) rfl
        have hc3 := ((HVr.out.set 6 (.bool false)).set 7 (.int .i64 0)).set 8 (.slice none 0 0)
        simp only [List.setIfInBounds_toArray, List.set_cons_zero, List.set_cons_succ] at hc3
        refine HR.out.regroup (v' := .slice none 0 0) (fun b hb hbl => ?_) rfl hc3 (Nums.nil _ _)
        rw [Below.heap_setCell _ _ _ _ hb, Below.heap_setCell _ _ _ _ hb, Below.heap_setCell _ _ _ _ hb]
        exact hB.block b hbl
end Go.Proofs.Ytoecffmhnpnaaaa
