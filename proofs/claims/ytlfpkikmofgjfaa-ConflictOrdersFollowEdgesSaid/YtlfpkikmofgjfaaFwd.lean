/- The walk of forward. -/
import Derived.Test.YtlfpkikmofgjfaaPlace
import Derived.Test.YtlfpkikmofgjfaaWalkG
import Derived.Deep.OwnRows
namespace Go.Proofs.Ytlfpkikmofgjfaa
open Go.RowKit

theorem natV_getD {q : List Nat} {j : Nat} (h : j < q.length) : (natV q).getD j 0 = ((q.getD j 0 : Nat) : Int) := by simp [natV, List.getD, List.getElem?_eq_getElem h]
theorem natV_length (q : List Nat) : (natV q).length = q.length := by simp [natV]
theorem mem_depends {h : List Acc} {a b : Nat} (k : (a, b) ∈ dependsL h) : edgeB h a b = true := by
  unfold dependsL at k
  split at k
  · unfold pairsOf at k
    simp only [List.mem_flatMap, List.mem_map, List.mem_filter, List.mem_range] at k
    obtain ⟨i, _, j, hj, e⟩ := k
    injection e with e1 e2
    subst e1 e2
    exact hj.2
  · cases k
/-- The loop that notes the places. -/
structure PlSt (w : World) (pb n : Nat) (t : List Nat) (k : Nat) (wr : World) : Prop where
  row : wr.rowIs pb 3 n (fun x => .int .i64 (plc t k x : Nat))
  below : Below w.heap.size w wr
set_option maxRecDepth 100000 in
set_option maxHeartbeats 2000000 in
theorem forward_any {w : World} {v ov : Value} {hs : List Acc} {t : List Nat} (h : Hist w v hs) (ho : Ints w ov (natV t)) (ht : ∀ i, i ∈ t → i < hs.length) (hl : hs.length ≤ 100) (hf : ∀ a b, edgeB hs a b = true → plc t t.length a < plc t t.length b) (htl : t.length ≤ 100) :
    Calls Try.prog 41 #[v, ov] w fun e w' => e = .returned (.bool true) ∧ Below w.heap.size w w' := by
  obtain ⟨A, c, rfl, hm, hcap, -⟩ := h.shape
  have HH := Lib.hid h
  obtain ⟨_, B, d, rfl, hm2, hdap, hoc⟩ := ho
  rw [natV_length] at hm2 hdap hoc ⊢
  have HO := Lib.hid hoc
  have HT := Lib.hid ht
  have HF := Lib.hid hf
  clear h hoc ht hf
  have hmk := fun w => run_make_row' (P := Try.prog) 27 3 (.int .i64 0) 8 Try.underlying27 info3 rfl .i64 .i64 hs.length (by omega) (by omega) w
  obtain ⟨w0, hw0⟩ : ∃ w0, w.alloc (.cells (madeCells #[.int .i64 0] hs.length) 3) = w0 := ⟨_, rfl⟩
  have HS0 : Hid (PlSt w w.heap.size hs.length t 0 w0) := Lib.hid (by
    rw [← hw0]
    exact ⟨World.rowIs_made w (.int .i64 0) hs.length 3, (Below.refl _ _).alloc (Nat.le_refl _) _⟩)
  go_enter Try.func41, Try.ntmps41
  go_wp2_with fail
  try rw [hw0]
  clear hw0 hmk
  obtain ⟨pb, hpb⟩ : ∃ pb, w.heap.size = pb := ⟨_, rfl⟩
  have hpbw : w.heap.size ≤ pb := by omega
  rw [hpb] at HS0 ⊢
  clear hpb
  generalize hL : t.length = L at *
  have HL := Lib.hid hL.symm
  clear hL
  go_loopw [6] (fun v wr => ∃ k : Nat, v = .int .i64 k ∧ k ≤ L ∧ Hid (PlSt w pb hs.length t k wr)) (fun v _ => L - (intOf v).toNat)
  case atStart => exact ⟨0, rfl, by omega, HS0⟩
  case round =>
    obtain ⟨k, rfl, hk, HS⟩ := hrel
    clear HS0
    by_cases hlk : k < L
    · obtain ⟨b, o, rfl, hblt, hcell⟩ := HO.out k hlk
      rw [natV_getD (by rw [← HL.out]; exact hlk)] at hcell
      have hy : t.getD k 0 < hs.length := HT.out _ (Bfs.getD_mem (by rw [← HL.out]; exact hlk))
      have HNx : Hid (PlSt w pb hs.length t (k + 1) (wr.setCell ⟨pb, t.getD k 0, none⟩ (.int .i64 (k : Nat)))) := Lib.hid ⟨(HS.out.row.set (t.getD k 0) (.int .i64 (k : Nat))).congr fun x _ => by
        conv => rhs; unfold plc
        split <;> rfl, HS.out.below.setCell hpbw _⟩
      have o1 := (HS.out.below.cell (p := ⟨b, o + k, none⟩) hblt).trans hcell
      have o2 : wr.cell? ⟨pb, t.getD k 0, none⟩ = some (.int .i64 (plc t k (t.getD k 0) : Nat)) := HS.out.row.cell hy
      have o3 : wr.frozen? ⟨pb, t.getD k 0, none⟩ = false := HS.out.row.frozen _
      generalize t.getD k 0 = y at *
      have hy0 : ¬ (y : Int) < 0 := by omega
      have hyl : ¬ (hs.length : Int) ≤ (y : Int) := by omega
      clear hcell
      go_wp2_with fail
      go_roundw
      case rel => exact ⟨k + 1, by go_num, by omega, HNx⟩
      case measure => simp [intOf]; omega
    · obtain rfl : k = L := by omega
      go_wp2_with fail
      refine (depends_any (HH.out.below HS.out.below)).mono ?_
      rintro e w1 ⟨⟨pv, rfl, hp⟩, hb⟩
      obtain ⟨G, gc, rfl, hgm, hgc⟩ := hp.read
      have HG := Lib.hid hgc
      have HB1 := Lib.hid (HS.out.below.trans (hb.mono HS.out.below.size))
      have HRow := Lib.hid (HS.out.row.of_block (hb.block _ HS.out.row.lt))
      clear hgc hb hp HS
      have HD : Hid (∀ j, j < (dependsL hs).length → edgeB hs ((dependsL hs).getD j (0, 0)).1 ((dependsL hs).getD j (0, 0)).2 = true) := Lib.hid fun j hj => mem_depends (by
        have : (dependsL hs).getD j (0, 0) = (dependsL hs)[j] := by simp [List.getD, List.getElem?_eq_getElem hj]
        rw [this]
        exact List.getElem_mem hj)
      generalize dependsL hs = ps at *
      generalize hM : ps.length = M at *
      clear hM
      go_wp2_with fail
      go_loopw [8] (fun v wr => ∃ j n : Nat, v = .int .i64 j ∧ j ≤ M ∧ wr = w1.drewN n) (fun v _ => M - (intOf v).toNat)
      case atStart => exact ⟨0, 0, rfl, by omega, rfl⟩
      case round =>
        obtain ⟨j, n, rfl, hj, rfl⟩ := hrel
        by_cases hlj : j < M
        · obtain ⟨g, rfl, hg1, hg2, hg3⟩ := HG.out j hlj
          have he := HD.out j hlj
          have hpl := HF.out _ _ he
          have hal := (edge_lt he).1
          have hbl := (edge_lt he).2
          have p1 := HRow.out.cell hal
          have p2 := HRow.out.cell hbl
          generalize (ps.getD j (0, 0)).1 = a at *
          generalize (ps.getD j (0, 0)).2 = b at *
          generalize plc t k a = x at *
          generalize plc t k b = y at *
          have ha0 : decide ((a : Int) < 0) = false := decide_eq_false (by omega)
          have hal' : decide (hs.length ≤ a) = false := decide_eq_false (by omega)
          have hb0 : decide ((b : Int) < 0) = false := decide_eq_false (by omega)
          have hbl' : decide (hs.length ≤ b) = false := decide_eq_false (by omega)
          have hxy : decide (y ≤ x) = false := decide_eq_false (by omega)
          clear he
          go_wp2_with fail
          go_quiet (fail)
          go_wp2_with fail
          go_roundw
          case rel => exact ⟨j + 1, _, by go_num, by omega, rfl⟩
          case measure => simp [intOf]; omega
        · have hj' : j = M := by omega
          go_wp2_with fail
          go_ret
          exact ⟨rfl, Below.drewN' HB1.out n⟩
end Go.Proofs.Ytlfpkikmofgjfaa
