/- The walk of graphOf. -/
import Derived.Test.YtlfpkikmofgjfaaGraph

import Derived.Deep.RegionHeld3
import Derived.Deep.RegionWith
namespace Go.Proofs.Ytlfpkikmofgjfaa
open Go.RowKit

/-- A pointer to a graph, or nil if the history is not valid. -/
def IsGraph (w : World) (e : Ending) (w' : World) (v : Value) (hs : List Acc) : Prop :=
  if checkL hs = 0 then ∃ g, e = .returned (.pointer (some ⟨g, 0, none⟩)) ∧ Graph w' g v hs ∧ w.heap.size ≤ g else e = .returned (.pointer none)
theorem bits_step {hs : List Acc} {k m n : Nat} {B' Bf : Nat → Nat → Int} (h1 : ∀ i j, i < k → j < n → B' i j = bitsOf hs i j) (h2 : ∀ j, j < n → B' k j = if j < m then bitsOf hs k j else 0)
    (h0 : ∀ i j, ¬ (i = k ∧ j = m) → Bf i j = B' i j) (h3 : Bf k m = bitsOf hs k m) : (∀ i j, i < k → j < n → Bf i j = bitsOf hs i j) ∧ (∀ j, j < n → Bf k j = if j < m + 1 then bitsOf hs k j else 0) := by
  refine ⟨fun i j hi hj => by rw [h0 i j (fun h => by omega)]; exact h1 i j hi hj, fun j hj => ?_⟩
  by_cases e : j = m
  · subst e
    rw [if_pos (by omega)]
    exact h3
  · rw [h0 k j (fun h => e h.2), h2 j hj]
    by_cases h : j < m
    · rw [if_pos h, if_pos (by omega)]
    · rw [if_neg h, if_neg (by omega)]
theorem bits_val {hs : List Acc} {k m : Nat} {p a : Bool} (hp : plainB hs k m = p) (ha : antiB hs k m = a) : bitsOf hs k m = (if p = true then 1 else 0) + (if a = true then 2 else 0) := by unfold bitsOf; rw [hp, ha]
set_option maxRecDepth 100000 in
set_option maxHeartbeats 8000000 in
theorem graph_any {w : World} {v : Value} {hs : List Acc} (k : Hist w v hs) :
    Calls Try.prog 48 #[v] w fun e w' => IsGraph w e w' v hs ∧ Below w.heap.size w w' := by
  have HCk := Lib.hid (check_any k)
  obtain ⟨A, c, rfl, hm, hcap, hc⟩ := k.shape
  have HC := Lib.hid hc
  have HK := Lib.hid k
  clear hc k
  by_cases hv : checkL hs = 0
  case' neg =>
    have HV := Lib.hid hv
    have hvb : (checkL hs != 0) = true := by simp [hv]
    clear hv
    go_enter Try.func48, Try.ntmps48
    go_wp2_with fail
    refine HCk.out.mono ?_
    rintro e w1 ⟨rfl, hb⟩
    have HB := Lib.hid hb
    clear hb
    go_wp2_with fail
    go_ret
    exact ⟨by unfold IsGraph; rw [if_neg HV.out]; rfl, HB.out⟩
  have HV := Lib.hid hv
  have HVal := Lib.hid (checkL_zero.1 hv)
  have hlen := (checkL_zero.1 hv).len
  rw [hv] at HCk
  clear hv
  have hmk1 := fun w => run_make_row' (P := Try.prog) 83 27 (.slice none 0 0) 24 Try.underlying83 info27 rfl .i64 .i64 hs.length (by omega) (by omega) w
  have hmk2 := fun w => run_make_row' (P := Try.prog) 27 3 (.int .i64 0) 8 Try.underlying27 info3 rfl .i64 .i64 hs.length (by omega) (by omega) w
  go_enter Try.func48, Try.ntmps48
  go_wp2_with fail
  refine HCk.out.mono ?_
  rintro e w1 ⟨rfl, hb⟩
  have HB := Lib.hid hb
  clear hb
  have HBu : Hid (∃ rb B, Built w ((w1.alloc (.cells (madeCells #[.slice none 0 0] hs.length) 27)).alloc (.cells #[.slice A hs.length c, .slice (some ⟨w1.heap.size, 0, none⟩) hs.length hs.length] 85)) (w1.heap.size + 1) w1.heap.size (.slice A hs.length c) hs.length 0 rb B) := Lib.hid (by
    have hs1 := HB.out.size
    refine ⟨fun _ => 0, fun _ _ => 0, (HB.out.alloc hs1 _).alloc (by simp; omega) _, ?_, ?_, fun i hi => by omega, fun i j _ hj => by omega, hs1, by omega, fun i hi => by omega⟩
    · have := Cells.made (w1.alloc (.cells (madeCells #[.slice none 0 0] hs.length) 27)) 85 #[.slice A hs.length c, .slice (some ⟨w1.heap.size, 0, none⟩) hs.length hs.length]
      simpa using this
    · exact ((World.rowIs_made w1 (.slice none 0 0) hs.length 27).alloc _).congr (fun i hi => by simp))
  go_wp2_with fail
  go_loopw [21] (fun i wr => ∃ (k : Nat) (rb : Nat → Nat) (B : Nat → Nat → Int), i = .int .i64 k ∧ k ≤ hs.length ∧ Built w wr (w1.heap.size + 1) w1.heap.size (.slice A hs.length c) hs.length k rb B ∧ Hid (∀ i j, i < k → j < hs.length → B i j = bitsOf hs i j)) (fun i _ => hs.length - (intOf i).toNat)
  case atStart =>
    obtain ⟨rb, B, hbu⟩ := HBu.out
    exact ⟨0, rb, B, rfl, by omega, hbu, Lib.hid (fun i j hi => by omega)⟩
  case round =>
    obtain ⟨k, rb, B, rfl, hk, hBu, HBits⟩ := hrel
    clear HBu
    have HBu := Lib.hid hBu
    clear hBu
    by_cases hlk : k < hs.length
    · obtain ⟨b, o, vr, vw, rfl, ha⟩ := HC.out k hlk
      obtain ⟨Ar, cr, rfl, hrm⟩ := ha.rd.r.shape
      obtain ⟨Aw, cw, rfl, hwm⟩ := ha.rd.w.shape
      obtain ⟨lt, hrd, c0, c1, c2, c3, c4, c5⟩ := ha.below HBu.out.below
      have f1 : wr.cell? ⟨w1.heap.size + 1, 1, none⟩ = some (.slice (some ⟨w1.heap.size, 0, none⟩) hs.length hs.length) := HBu.out.cells.cell 1
      have fk : wr.cell? ⟨w1.heap.size, k, none⟩ = some (.slice none 0 0) := by rw [HBu.out.edges.cell hlk, if_neg (by omega)]
      have ffk : wr.frozen? ⟨w1.heap.size, k, none⟩ = false := HBu.out.edges.frozen k
      have hge : w1.heap.size < wr.heap.size := HBu.out.edges.lt
      have hgg : w1.heap.size + 1 < wr.heap.size := HBu.out.cells.lt
      have HNd : Hid (((tx hs k).writes.Nodup ∧ (tx hs k).writes.length ≤ 1000000) ∧ ((tx hs k).reads.Nodup ∧ (tx hs k).reads.length ≤ 1000000)) := Lib.hid (by
        have f := HVal.out.at hlk
        have i := HVal.out.items k hlk
        exact ⟨⟨nodup_of_rising f.writes, by omega⟩, nodup_of_rising f.reads, by omega⟩)
      obtain ⟨x, hx⟩ : ∃ x, x = tx hs k := ⟨_, rfl⟩
      rw [← hx] at c0 c1 c2 c3 c4 c5 hrd hrm hwm HNd
      have HX := Lib.hid hx
      have hr0 := ha.rd
      rw [← HX.out] at hr0
      have HR0 := Lib.hid hr0
      clear hx hrd ha hr0
      go_wp2_with fail
      go_region
      go_wp2_with fail
      have hb7 := HBu.out.row hlk (.cells (accCells x (.slice Ar x.reads.length cr) (.slice Aw x.writes.length cw)) 29)
      have hx7 : Cells ((((wr.setCell ⟨w1.heap.size, k, none⟩ (.slice (some ⟨wr.heap.size + 1, 0, none⟩) hs.length hs.length)).alloc (.cells (accCells x (.slice Ar x.reads.length cr) (.slice Aw x.writes.length cw)) 29)).alloc (.cells (madeCells #[.int .i64 0] hs.length) 3)).drew) wr.heap.size 29 (accCells x (.slice Ar x.reads.length cr) (.slice Aw x.writes.length cw)) := by
        have := Cells.made (wr.setCell ⟨w1.heap.size, k, none⟩ (.slice (some ⟨wr.heap.size + 1, 0, none⟩) hs.length hs.length)) 29 (accCells x (.slice Ar x.reads.length cr) (.slice Aw x.writes.length cw))
        rw [show (wr.setCell ⟨w1.heap.size, k, none⟩ (.slice (some ⟨wr.heap.size + 1, 0, none⟩) hs.length hs.length)).heap.size = wr.heap.size by simp [World.setCell]] at this
        exact this.kept (Below.heap_alloc _ _ _ (by simp [World.setCell]))
      have hz7 : ((((wr.setCell ⟨w1.heap.size, k, none⟩ (.slice (some ⟨wr.heap.size + 1, 0, none⟩) hs.length hs.length)).alloc (.cells (accCells x (.slice Ar x.reads.length cr) (.slice Aw x.writes.length cw)) 29)).alloc (.cells (madeCells #[.int .i64 0] hs.length) 3)).drew).heap.size = wr.heap.size + 2 := by
        show (World.alloc _ _).heap.size = _
        simp [World.setCell]
      unfold accCells at hb7 hz7
      have hx7' := hx7.acc
      unfold accCells at hx7 hx7'
      generalize hw7 : ((((wr.setCell ⟨w1.heap.size, k, none⟩ (.slice (some ⟨wr.heap.size + 1, 0, none⟩) hs.length hs.length)).alloc (.cells #[.int .i64 x.mode, .int .i64 x.snap, .bool x.done, .int .i64 x.stamp, .slice Ar x.reads.length cr, .slice Aw x.writes.length cw] 29)).alloc (.cells (madeCells #[.int .i64 0] hs.length) 3)).drew) = w7 at *
      have HW7 := Lib.hid hw7
      clear hw7
      have HB7 := Lib.hid hb7
      have HX7 := Lib.hid hx7
      obtain ⟨e0, e1, e2, e3, e4, e5⟩ := hx7'
      have HC7 : Hid (∀ j, j < hs.length → ∃ vr vw, At w b (o + j * 6) (tx hs j) vr vw) := Lib.hid fun j hj => by
        obtain ⟨b', o', vr, vw, e, ha⟩ := HC.out j hj
        injection e with e
        injection e with e1 e2
        subst e1 e2
        exact ⟨vr, vw, ha⟩
      have HR7 := Lib.hid (HR0.out.below HB7.out.below)
      clear hb7 hx7 c0 c1 c2 c3 c4 c5 f1 fk ffk
      have hxz : wr.heap.size < w7.heap.size := by omega
      have HX4 := Lib.hid (And.intro e4 e5)
      have HOr : Hid (∀ W, Below w7.heap.size w7 W → Calls Try.prog 44 #[.slice Ar x.reads.length cr] W fun e w' => ∃ b, e = .returned (.map (some b)) ∧ W.heap.size ≤ b ∧ SetAt Try.prog 3 4 w' b x.reads ∧ Below W.heap.size W w' ∧ Below w7.heap.size w7 w' ∧ w'.cell? ⟨wr.heap.size, 4, none⟩ = some (.slice Ar x.reads.length cr) ∧ w'.cell? ⟨wr.heap.size, 5, none⟩ = some (.slice Aw x.writes.length cw)) := Lib.hid fun W h => (of_any (HR7.out.r.below h) HNd.out.2.1 HNd.out.2.2).mono fun e w' ⟨b, g1, g2, g3, g4⟩ =>
        ⟨b, g1, g2, g3, g4, h.trans (g4.mono h.size), ((h.trans (g4.mono h.size)).cell (p := ⟨wr.heap.size, 4, none⟩) hxz).trans HX4.out.1, ((h.trans (g4.mono h.size)).cell (p := ⟨wr.heap.size, 5, none⟩) hxz).trans HX4.out.2⟩
      have HOw : Hid (∀ W, Below w7.heap.size w7 W → Calls Try.prog 44 #[.slice Aw x.writes.length cw] W fun e w' => ∃ b, e = .returned (.map (some b)) ∧ W.heap.size ≤ b ∧ SetAt Try.prog 3 4 w' b x.writes ∧ Below W.heap.size W w' ∧ Below w7.heap.size w7 w' ∧ w'.cell? ⟨wr.heap.size, 4, none⟩ = some (.slice Ar x.reads.length cr) ∧ w'.cell? ⟨wr.heap.size, 5, none⟩ = some (.slice Aw x.writes.length cw)) := Lib.hid fun W h => (of_any (HR7.out.w.below h) HNd.out.1.1 HNd.out.1.2).mono fun e w' ⟨b, g1, g2, g3, g4⟩ =>
        ⟨b, g1, g2, g3, g4, h.trans (g4.mono h.size), ((h.trans (g4.mono h.size)).cell (p := ⟨wr.heap.size, 4, none⟩) hxz).trans HX4.out.1, ((h.trans (g4.mono h.size)).cell (p := ⟨wr.heap.size, 5, none⟩) hxz).trans HX4.out.2⟩
      go_region_held3 (fun w' => w'.cell? ⟨wr.heap.size, 4, none⟩ = some (.slice Ar x.reads.length cr) ∧ w'.cell? ⟨wr.heap.size, 5, none⟩ = some (.slice Aw x.writes.length cw)) (go_keep)
        (first | (go_at_call_of 44 (Value.slice Ar x.reads.length cr); refine (HOr.out _ ?_).mono ?_; (first | exact Below.refl _ _ | exact (Below.refl _ _).drew | assumption); rintro e wR ⟨sr, rfl, hsr, hSr, hbR, hBR, kR4, kR5⟩) | (go_at_call_of 44 (Value.slice Aw x.writes.length cw); refine (HOw.out _ ?_).mono ?_; (first | exact Below.refl _ _ | exact (Below.refl _ _).drew | assumption); rintro e wW ⟨sw, rfl, hsw, hSw, hbW, hBW, kW4, kW5⟩))
      obtain ⟨wq, rfl⟩ : ∃ wq : World, wq = wr := ⟨_, rfl⟩
      have hsrlt := hSr.lt
      have hswlt := hSw.lt
      have hzR := hbR.size
      have hzW := hbW.size
      have hz7d : w7.drew.heap.size = w7.heap.size := rfl
      have HSr := Lib.hid (hSr.kept (hbW.block _ hsrlt))
      have HSw := Lib.hid hSw
      have HBW := Lib.hid hBW
      have HBuW := Lib.hid (HB7.out.keep hBW)
      have HXW := Lib.hid (show Cells wW wq.heap.size 29 (accCells x (.slice Ar x.reads.length cr) (.slice Aw x.writes.length cw)) from HX7.out.kept (hBW.block _ hxz))
      have hxzW : wq.heap.size + 2 ≤ wW.heap.size := by omega
      have hsr2 : wq.heap.size + 2 ≤ sr := by omega
      have hsw2 : wq.heap.size + 2 ≤ sw := by omega
      have hsrW : sr < wW.heap.size := by omega
      clear hSr hSw hbR hbW hBR hBW kR4 kR5 kW4 kW5 hsr hsw hsrlt hz7d hzR hzW HOr HOw HX4 e0 e1 e2 e3 e4 e5 HX7
      obtain ⟨rb', hrb'⟩ : ∃ rb' : Nat → Nat, rb' = fun i => if i = k then wq.heap.size + 1 else rb i := ⟨_, rfl⟩
      rw [← hrb'] at HBuW
      have HRB : Hid (rb' k = wq.heap.size + 1) := Lib.hid (by rw [hrb']; simp)
      clear hrb'
      go_wp2_with fail
      go_loopw [43] (fun i wr => ∃ (m : Nat) (B' : Nat → Nat → Int), i = .int .i64 m ∧ m ≤ hs.length ∧ Only wW wr (fun c => c = wq.heap.size + 1) ∧ Built w wr (w1.heap.size + 1) w1.heap.size (.slice (some ⟨b, o, none⟩) hs.length c) hs.length (k + 1) rb' B' ∧ Hid (∀ i j, i < k → j < hs.length → B' i j = bitsOf hs i j) ∧ Hid (∀ j, j < hs.length → B' k j = if j < m then bitsOf hs k j else 0)) (fun i _ => hs.length - (intOf i).toNat)
      case atStart => exact ⟨0, _, rfl, by omega, Only.refl _ _, HBuW.out, Lib.hid (fun i j hi hj => by simp only [if_neg (show i ≠ k by omega)]; exact HBits.out i j hi hj), Lib.hid (fun j hj => by simp)⟩
      case round =>
        obtain ⟨m, B', rfl, hm', hOn, hBu', HB1, HB2⟩ := hrel
        have HOn := Lib.hid hOn
        have HBu' := Lib.hid hBu'
        have hszm := hOn.size
        clear hOn hBu'
        by_cases hlm : m < hs.length
        · obtain ⟨ur, uw, hya⟩ := HC7.out m hlm
          obtain ⟨Br, dr, rfl, hyr⟩ := hya.rd.r.shape
          obtain ⟨Bw, dw, rfl, hyw⟩ := hya.rd.w.shape
          obtain ⟨lt, hyrd, c0, c1, c2, c3, c4, c5⟩ := hya.below HBu'.out.below
          have hy0 := hya.rd
          obtain ⟨y, hy⟩ : ∃ y, y = tx hs m := ⟨_, rfl⟩
          rw [← hy] at c0 c1 c2 c3 c4 c5 hy0 hyr hyw
          have HIw : Hid (Ints w (.slice Bw y.writes.length dw) y.writes) := Lib.hid hy0.w
          have HIr : Hid (Ints w (.slice Br y.reads.length dr) y.reads) := Lib.hid hy0.r
          have HXm := Lib.hid (HXW.out.kept (HOn.out.block wq.heap.size (by omega) (by omega)))
          have HSrm := Lib.hid (HSr.out.kept (HOn.out.block sr hsrW (by omega)))
          have HSwm := Lib.hid (HSw.out.kept (HOn.out.block sw hswlt (by omega)))
          have hplain : plainB hs k m = (decide (k ≠ m) && x.done && y.done && ((meet x.writes y.writes && decide (x.stamp < y.stamp)) || (meet x.writes y.reads && decide (x.stamp ≤ y.snap)))) := by rw [HX.out, hy]; rfl
          have hanti : antiB hs k m = (decide (k ≠ m) && x.done && y.done && meet x.reads y.writes && decide (x.snap < y.stamp)) := by rw [HX.out, hy]; rfl
          obtain ⟨d0, d1, d2, d3, d4, d5⟩ := HXm.out.acc
          have g1 : wr.cell? ⟨w1.heap.size + 1, 1, none⟩ = some (.slice (some ⟨w1.heap.size, 0, none⟩) hs.length hs.length) := HBu'.out.cells.cell 1
          have g2 : wr.cell? ⟨w1.heap.size, k, none⟩ = some (.slice (some ⟨wq.heap.size + 1, 0, none⟩) hs.length hs.length) := by rw [HBu'.out.edges.cell hlk, if_pos (by omega), HRB.out]
          have g3 : wr.cell? ⟨wq.heap.size + 1, m, none⟩ = some (.int .i64 0) := by have := (HBu'.out.rows k (by omega)).cell hlm; rw [HRB.out, HB2.out m hlm, if_neg (by omega)] at this; exact this
          have g4 : wr.frozen? ⟨wq.heap.size + 1, m, none⟩ = false := by have := (HBu'.out.rows k (by omega)).frozen m; rw [HRB.out] at this; exact this
          have gz : wq.heap.size + 1 < wr.heap.size := by omega
          have gz0 : wq.heap.size < wr.heap.size := by omega
          have hwq0 : w.heap.size ≤ wq.heap.size := HBu.out.below.size
          have n1 : wq.heap.size ≠ wq.heap.size + 1 := by omega
          have n2 : wr.heap.size ≠ wq.heap.size + 1 := by omega
          have n3 : w1.heap.size + 1 ≠ wq.heap.size + 1 := by omega
          have n4 : w1.heap.size ≠ wq.heap.size + 1 := by omega
          generalize hdk : x.done = dk at *
          generalize hdm : y.done = dm at *
          obtain ⟨yo, hyo⟩ : ∃ yo, yo = Obj.cells #[.int .i64 y.mode, .int .i64 y.snap, .bool dm, .int .i64 y.stamp, .slice Br y.reads.length dr, .slice Bw y.writes.length dw] 29 := ⟨_, rfl⟩
          have HBc : Hid (Below wr.heap.size wr (wr.alloc yo)) := Lib.hid ((Below.refl _ _).alloc (Nat.le_refl _) _)
          have HYc : Hid (Cells (wr.alloc yo) wr.heap.size 29 (accCells y (.slice Br y.reads.length dr) (.slice Bw y.writes.length dw))) := Lib.hid (by rw [hyo]; unfold accCells; rw [hdm]; exact Cells.made wr 29 _)
          rw [hyo] at HBc HYc
          have HP := Lib.hid hplain
          have HA := Lib.hid hanti
          have HZ : Hid ((decide (k ≠ m) && dk && dm) = false → B' k m = bitsOf hs k m) := Lib.hid (fun h => by
            rw [HB2.out m hlm, if_neg (by omega), bits_val (p := false) (a := false) (by rw [HP.out, h]; rfl) (by rw [HA.out, h]; rfl)]
            rfl)
          clear hyo hplain hanti hya hyrd hy0 hdk hdm hy
          by_cases q0 : k = m
          · have q0b : ((k : Int) == m) = true := beq_iff_eq.2 (by omega)
            have HZ0 := Lib.hid (HZ.out (by simp [q0]))
            clear q0
            go_wp2_with fail
            go_roundw
            case rel => exact ⟨m + 1, B', by go_num, by omega, HOn.out.trans (Only.of_below HBc.out (fun _ => False)) (fun _ _ h => h.elim), HBu'.out.keep HBc.out, Lib.hid (bits_step HB1.out HB2.out (fun _ _ _ => rfl) HZ0.out).1, Lib.hid (bits_step HB1.out HB2.out (fun _ _ _ => rfl) HZ0.out).2⟩
            case measure => simp [intOf]; omega
          have q0b : ((k : Int) == m) = false := beq_eq_false_iff_ne.2 (by omega)
          have Q0 := Lib.hid q0
          clear q0
          cases dk
          · go_wp2_with fail
            go_roundw
            case rel => exact ⟨m + 1, B', by go_num, by omega, HOn.out.trans (Only.of_below HBc.out (fun _ => False)) (fun _ _ h => h.elim), HBu'.out.keep HBc.out, Lib.hid (bits_step HB1.out HB2.out (fun _ _ _ => rfl) (HZ.out (by simp))).1, Lib.hid (bits_step HB1.out HB2.out (fun _ _ _ => rfl) (HZ.out (by simp))).2⟩
            case measure => simp [intOf]; omega
          cases dm
          · go_wp2_with fail
            go_roundw
            case rel => exact ⟨m + 1, B', by go_num, by omega, HOn.out.trans (Only.of_below HBc.out (fun _ => False)) (fun _ _ h => h.elim), HBu'.out.keep HBc.out, Lib.hid (bits_step HB1.out HB2.out (fun _ _ _ => rfl) (HZ.out (by simp))).1, Lib.hid (bits_step HB1.out HB2.out (fun _ _ _ => rfl) (HZ.out (by simp))).2⟩
            case measure => simp [intOf]; omega
          have HPy1 : Hid (x.stamp < y.stamp → meet x.writes y.writes = true → plainB hs k m = true) := Lib.hid (fun h1 h2 => by rw [HP.out, h2, decide_eq_true h1, decide_eq_true Q0.out]; rfl)
          have HPy2 : Hid (x.stamp ≤ y.snap → meet x.writes y.reads = true → plainB hs k m = true) := Lib.hid (fun h1 h2 => by rw [HP.out, h2, decide_eq_true h1, decide_eq_true Q0.out]; simp)
          have HPn : Hid ((x.stamp < y.stamp → meet x.writes y.writes = false) → (x.stamp ≤ y.snap → meet x.writes y.reads = false) → plainB hs k m = false) := Lib.hid (fun h1 h2 => by
            rw [HP.out]
            have e1 : (meet x.writes y.writes && decide (x.stamp < y.stamp)) = false := by
              by_cases h : x.stamp < y.stamp
              · rw [h1 h]; rfl
              · rw [decide_eq_false h, Bool.and_false]
            have e2 : (meet x.writes y.reads && decide (x.stamp ≤ y.snap)) = false := by
              by_cases h : x.stamp ≤ y.snap
              · rw [h2 h]; rfl
              · rw [decide_eq_false h, Bool.and_false]
            rw [e1, e2]
            simp)
          have HAy : Hid (x.snap < y.stamp → meet x.reads y.writes = true → antiB hs k m = true) := Lib.hid (fun h1 h2 => by rw [HA.out, h2, decide_eq_true h1, decide_eq_true Q0.out]; rfl)
          have HAn : Hid (x.snap < y.stamp → meet x.reads y.writes = false → antiB hs k m = false) := Lib.hid (fun _ h2 => by rw [HA.out, h2]; simp)
          have HAf : Hid (¬ x.snap < y.stamp → antiB hs k m = false) := Lib.hid (fun h1 => by rw [HA.out, decide_eq_false h1]; simp)
          by_cases a3 : x.snap < y.stamp
          · by_cases a1 : x.stamp < y.stamp
            · go_wp2_with fail
              refine (meets_any (HIw.out.below (HBu'.out.below.trans (HBc.out.mono HBu'.out.below.size))) (HSwm.out.kept (HBc.out.block _ (by omega)))).mono ?_
              obtain ⟨M1, hM1⟩ : ∃ M1, M1 = meet x.writes y.writes := ⟨_, rfl⟩
              rw [← hM1]
              have HM1 := Lib.hid hM1
              rintro e w5 ⟨rfl, hbn⟩
              have HBn := Lib.hid (HBc.out.trans (hbn.mono HBc.out.size))
              have HYn := Lib.hid (HYc.out.kept (hbn.block _ HYc.out.lt))
              clear hbn hM1 HBc HYc d0 d1 d2 d3 d4 d5 g1 g2 g3 g4
              have HBc := Lib.hid HBn.out
              have HYc := Lib.hid HYn.out
              clear HBn HYn
              cases M1
              · by_cases a2 : x.stamp ≤ y.snap
                · obtain ⟨d0, d1, d2, d3, d4, d5⟩ := (HXm.out.kept (HBc.out.block _ (by omega))).acc
                  obtain ⟨e0, e1, e2, e3, e4, e5⟩ := HYc.out.acc
                  have g1 : (w5).cell? ⟨w1.heap.size + 1, 1, none⟩ = some (.slice (some ⟨w1.heap.size, 0, none⟩) hs.length hs.length) := (HBu'.out.keep HBc.out).cells.cell 1
                  have g2 : (w5).cell? ⟨w1.heap.size, k, none⟩ = some (.slice (some ⟨wq.heap.size + 1, 0, none⟩) hs.length hs.length) := by rw [(HBu'.out.keep HBc.out).edges.cell hlk, if_pos (by omega), HRB.out]
                  have g3 : (w5).cell? ⟨wq.heap.size + 1, m, none⟩ = some (.int .i64 0) := by have := ((HBu'.out.keep HBc.out).rows k (by omega)).cell hlm; rw [HRB.out, HB2.out m hlm, if_neg (by omega)] at this; exact this
                  have g4 : (w5).frozen? ⟨wq.heap.size + 1, m, none⟩ = false := by have := ((HBu'.out.keep HBc.out).rows k (by omega)).frozen m; rw [HRB.out] at this; exact this
                  have gz : wr.heap.size < (w5).heap.size := HYc.out.lt
                  go_wp2_with fail
                  refine (meets_any (HIr.out.below (HBu'.out.below.trans (HBc.out.mono HBu'.out.below.size))) (HSwm.out.kept (HBc.out.block _ (by omega)))).mono ?_
                  obtain ⟨M2, hM2⟩ : ∃ M2, M2 = meet x.writes y.reads := ⟨_, rfl⟩
                  rw [← hM2]
                  have HM2 := Lib.hid hM2
                  rintro e w6 ⟨rfl, hbn⟩
                  have HBn := Lib.hid (HBc.out.trans (hbn.mono HBc.out.size))
                  have HYn := Lib.hid (HYc.out.kept (hbn.block _ HYc.out.lt))
                  clear hbn hM2 HBc HYc d0 d1 d2 d3 d4 d5 e0 e1 e2 e3 e4 e5 gz g1 g2 g3 g4
                  have HBc := Lib.hid HBn.out
                  have HYc := Lib.hid HYn.out
                  clear HBn HYn
                  cases M2
                  · have HPl := Lib.hid (show plainB hs k m = false from HPn.out (fun _ => HM1.out.symm) (fun _ => HM2.out.symm))
                    have HBs := Lib.hid (HBu'.out.keep HBc.out)
                    have HOs : Hid (Only wW (w6) (fun c => c = wq.heap.size + 1)) := Lib.hid (HOn.out.trans (Only.of_below HBc.out (fun _ => False)) (fun _ _ h => h.elim))
                    have HXs := Lib.hid (HXm.out.kept (HBc.out.block _ (by omega)))
                    have HYs := Lib.hid HYc.out
                    have HSs := Lib.hid (HSrm.out.kept (HBc.out.block _ (by omega)))
                    have HIs := Lib.hid (HIw.out.below (HBu'.out.below.trans (HBc.out.mono HBu'.out.below.size)))
                    have H1 : Hid (B' k m = 0) := Lib.hid (by rw [HB2.out m hlm, if_neg (by omega)])
                    obtain ⟨d0, d1, d2, d3, d4, d5⟩ := (HXm.out.kept (HBc.out.block _ (by omega))).acc
                    obtain ⟨e0, e1, e2, e3, e4, e5⟩ := HYc.out.acc
                    have g1 : (w6).cell? ⟨w1.heap.size + 1, 1, none⟩ = some (.slice (some ⟨w1.heap.size, 0, none⟩) hs.length hs.length) := (HBu'.out.keep HBc.out).cells.cell 1
                    have g2 : (w6).cell? ⟨w1.heap.size, k, none⟩ = some (.slice (some ⟨wq.heap.size + 1, 0, none⟩) hs.length hs.length) := by rw [(HBu'.out.keep HBc.out).edges.cell hlk, if_pos (by omega), HRB.out]
                    have g3 : (w6).cell? ⟨wq.heap.size + 1, m, none⟩ = some (.int .i64 0) := by have := ((HBu'.out.keep HBc.out).rows k (by omega)).cell hlm; rw [HRB.out, HB2.out m hlm, if_neg (by omega)] at this; exact this
                    have g4 : (w6).frozen? ⟨wq.heap.size + 1, m, none⟩ = false := by have := ((HBu'.out.keep HBc.out).rows k (by omega)).frozen m; rw [HRB.out] at this; exact this
                    have gz : wr.heap.size < (w6).heap.size := HYc.out.lt
                    go_wp2_with fail
                    refine (meets_any HIs.out HSs.out).mono ?_
                    obtain ⟨M3, hM3⟩ : ∃ M3, M3 = meet x.reads y.writes := ⟨_, rfl⟩
                    rw [← hM3]
                    have HM3 := Lib.hid hM3
                    rintro e w8 ⟨rfl, hb8⟩
                    have HB8 := Lib.hid hb8
                    have hsz8 := hb8.size
                    clear hb8 hM3
                    clear d0 d1 d2 d3 d4 d5 e0 e1 e2 e3 e4 e5 g1 g2 g3 g4
                    cases M3
                    · go_wp2_with fail
                      go_roundw
                      case rel => exact ⟨m + 1, _, by go_num, by omega, HOs.out.trans (Only.of_below HB8.out (fun _ => False)) (fun _ _ h => h.elim), HBs.out.keep HB8.out, Lib.hid (bits_step HB1.out HB2.out (fun _ _ _ => rfl) (H1.out.trans (bits_val HPl.out (HAn.out a3 HM3.out.symm)).symm)).1, Lib.hid (bits_step HB1.out HB2.out (fun _ _ _ => rfl) (H1.out.trans (bits_val HPl.out (HAn.out a3 HM3.out.symm)).symm)).2⟩
                      case measure => simp [intOf]; omega
                    · have g1 : w8.cell? ⟨w1.heap.size + 1, 1, none⟩ = some (.slice (some ⟨w1.heap.size, 0, none⟩) hs.length hs.length) := (HBs.out.keep HB8.out).cells.cell 1
                      have g2 : w8.cell? ⟨w1.heap.size, k, none⟩ = some (.slice (some ⟨wq.heap.size + 1, 0, none⟩) hs.length hs.length) := by rw [(HBs.out.keep HB8.out).edges.cell hlk, if_pos (by omega), HRB.out]
                      have g3 : w8.cell? ⟨wq.heap.size + 1, m, none⟩ = some (.int .i64 0) := by have := ((HBs.out.keep HB8.out).rows k (by omega)).cell hlm; rw [HRB.out, H1.out] at this; exact this
                      have g4 : w8.frozen? ⟨wq.heap.size + 1, m, none⟩ = false := by have := ((HBs.out.keep HB8.out).rows k (by omega)).frozen m; rw [HRB.out] at this; exact this
                      have hset := (HBs.out.keep HB8.out).set (i := k) (j := m) (by omega) 2
                      rw [HRB.out] at hset
                      have HBt := Lib.hid hset
                      have HOt : Hid (Only wW (w8.setCell ⟨wq.heap.size + 1, m, none⟩ (.int .i64 2)) (fun c => c = wq.heap.size + 1)) := Lib.hid ((HOs.out.trans (Only.of_below HB8.out (fun _ => False)) (fun _ _ h => h.elim)).setCell (.inl rfl) _)
                      have G0 : Hid (∀ i j, ¬ (i = k ∧ j = m) → updB B' k m 2 i j = B' i j) := Lib.hid (fun i j h => by unfold updB; rw [if_neg h])
                      have G1 : Hid (updB B' k m 2 k m = 2) := Lib.hid (by simp [updB])
                      clear hset
                      go_wp2_with fail
                      go_roundw
                      case rel => exact ⟨m + 1, _, by go_num, by omega, HOt.out, HBt.out, Lib.hid (bits_step HB1.out HB2.out G0.out (G1.out.trans (bits_val HPl.out (HAy.out a3 HM3.out.symm)).symm)).1, Lib.hid (bits_step HB1.out HB2.out G0.out (G1.out.trans (bits_val HPl.out (HAy.out a3 HM3.out.symm)).symm)).2⟩
                      case measure => simp [intOf]; omega
                  · have HPl := Lib.hid (show plainB hs k m = true from HPy2.out a2 HM2.out.symm)
                    obtain ⟨d0, d1, d2, d3, d4, d5⟩ := (HXm.out.kept (HBc.out.block _ (by omega))).acc
                    obtain ⟨e0, e1, e2, e3, e4, e5⟩ := HYc.out.acc
                    have g1 : (w6).cell? ⟨w1.heap.size + 1, 1, none⟩ = some (.slice (some ⟨w1.heap.size, 0, none⟩) hs.length hs.length) := (HBu'.out.keep HBc.out).cells.cell 1
                    have g2 : (w6).cell? ⟨w1.heap.size, k, none⟩ = some (.slice (some ⟨wq.heap.size + 1, 0, none⟩) hs.length hs.length) := by rw [(HBu'.out.keep HBc.out).edges.cell hlk, if_pos (by omega), HRB.out]
                    have g3 : (w6).cell? ⟨wq.heap.size + 1, m, none⟩ = some (.int .i64 0) := by have := ((HBu'.out.keep HBc.out).rows k (by omega)).cell hlm; rw [HRB.out, HB2.out m hlm, if_neg (by omega)] at this; exact this
                    have g4 : (w6).frozen? ⟨wq.heap.size + 1, m, none⟩ = false := by have := ((HBu'.out.keep HBc.out).rows k (by omega)).frozen m; rw [HRB.out] at this; exact this
                    have gz : wr.heap.size < (w6).heap.size := HYc.out.lt
                    have hset := (HBu'.out.keep HBc.out).set (i := k) (j := m) (by omega) 1
                    rw [HRB.out] at hset
                    have HBs := Lib.hid hset
                    have HOs : Hid (Only wW ((w6).setCell ⟨wq.heap.size + 1, m, none⟩ (.int .i64 1)) (fun c => c = wq.heap.size + 1)) := Lib.hid ((HOn.out.trans (Only.of_below HBc.out (fun _ => False)) (fun _ _ h => h.elim)).setCell (.inl rfl) _)
                    have HXs : Hid (Cells ((w6).setCell ⟨wq.heap.size + 1, m, none⟩ (.int .i64 1)) wq.heap.size 29 (accCells x (.slice Ar x.reads.length cr) (.slice Aw x.writes.length cw))) := Lib.hid ((HXm.out.kept (HBc.out.block _ (by omega))).kept (Below.heap_setCell _ _ _ _ (by show wq.heap.size ≠ wq.heap.size + 1; omega)))
                    have HYs : Hid (Cells ((w6).setCell ⟨wq.heap.size + 1, m, none⟩ (.int .i64 1)) wr.heap.size 29 (accCells y (.slice Br y.reads.length dr) (.slice Bw y.writes.length dw))) := Lib.hid (HYc.out.kept (Below.heap_setCell _ _ _ _ (by show wr.heap.size ≠ wq.heap.size + 1; omega)))
                    have HSs : Hid (SetAt Try.prog 3 4 ((w6).setCell ⟨wq.heap.size + 1, m, none⟩ (.int .i64 1)) sr x.reads) := Lib.hid ((HSrm.out.kept (HBc.out.block _ (by omega))).kept (Below.heap_setCell _ _ _ _ (by show sr ≠ wq.heap.size + 1; omega)))
                    have HIs : Hid (Ints ((w6).setCell ⟨wq.heap.size + 1, m, none⟩ (.int .i64 1)) (.slice Bw y.writes.length dw) y.writes) := Lib.hid (HIw.out.below ((HBu'.out.below.trans (HBc.out.mono HBu'.out.below.size)).setCell (by show w.heap.size ≤ wq.heap.size + 1; omega) _))
                    have H0 : Hid (∀ i j, ¬ (i = k ∧ j = m) → updB B' k m 1 i j = B' i j) := Lib.hid (fun i j h => by unfold updB; rw [if_neg h])
                    have H1 : Hid (updB B' k m 1 k m = 1) := Lib.hid (by simp [updB])
                    clear hset
                    go_wp2_with fail
                    refine (meets_any HIs.out HSs.out).mono ?_
                    obtain ⟨M3, hM3⟩ : ∃ M3, M3 = meet x.reads y.writes := ⟨_, rfl⟩
                    rw [← hM3]
                    have HM3 := Lib.hid hM3
                    rintro e w8 ⟨rfl, hb8⟩
                    have HB8 := Lib.hid hb8
                    have hsz8 := hb8.size
                    clear hb8 hM3
                    clear d0 d1 d2 d3 d4 d5 e0 e1 e2 e3 e4 e5 g1 g2 g3 g4
                    cases M3
                    · go_wp2_with fail
                      go_roundw
                      case rel => exact ⟨m + 1, _, by go_num, by omega, HOs.out.trans (Only.of_below HB8.out (fun _ => False)) (fun _ _ h => h.elim), HBs.out.keep HB8.out, Lib.hid (bits_step HB1.out HB2.out H0.out (H1.out.trans (bits_val HPl.out (HAn.out a3 HM3.out.symm)).symm)).1, Lib.hid (bits_step HB1.out HB2.out H0.out (H1.out.trans (bits_val HPl.out (HAn.out a3 HM3.out.symm)).symm)).2⟩
                      case measure => simp [intOf]; omega
                    · have g1 : w8.cell? ⟨w1.heap.size + 1, 1, none⟩ = some (.slice (some ⟨w1.heap.size, 0, none⟩) hs.length hs.length) := (HBs.out.keep HB8.out).cells.cell 1
                      have g2 : w8.cell? ⟨w1.heap.size, k, none⟩ = some (.slice (some ⟨wq.heap.size + 1, 0, none⟩) hs.length hs.length) := by rw [(HBs.out.keep HB8.out).edges.cell hlk, if_pos (by omega), HRB.out]
                      have g3 : w8.cell? ⟨wq.heap.size + 1, m, none⟩ = some (.int .i64 1) := by have := ((HBs.out.keep HB8.out).rows k (by omega)).cell hlm; rw [HRB.out, H1.out] at this; exact this
                      have g4 : w8.frozen? ⟨wq.heap.size + 1, m, none⟩ = false := by have := ((HBs.out.keep HB8.out).rows k (by omega)).frozen m; rw [HRB.out] at this; exact this
                      have hset := (HBs.out.keep HB8.out).set (i := k) (j := m) (by omega) 3
                      rw [HRB.out] at hset
                      have HBt := Lib.hid hset
                      have HOt : Hid (Only wW (w8.setCell ⟨wq.heap.size + 1, m, none⟩ (.int .i64 3)) (fun c => c = wq.heap.size + 1)) := Lib.hid ((HOs.out.trans (Only.of_below HB8.out (fun _ => False)) (fun _ _ h => h.elim)).setCell (.inl rfl) _)
                      have G0 : Hid (∀ i j, ¬ (i = k ∧ j = m) → updB (updB B' k m 1) k m 3 i j = B' i j) := Lib.hid (fun i j h => by unfold updB; rw [if_neg h]; exact H0.out i j h)
                      have G1 : Hid (updB (updB B' k m 1) k m 3 k m = 3) := Lib.hid (by simp [updB])
                      clear hset
                      go_wp2_with fail
                      go_roundw
                      case rel => exact ⟨m + 1, _, by go_num, by omega, HOt.out, HBt.out, Lib.hid (bits_step HB1.out HB2.out G0.out (G1.out.trans (bits_val HPl.out (HAy.out a3 HM3.out.symm)).symm)).1, Lib.hid (bits_step HB1.out HB2.out G0.out (G1.out.trans (bits_val HPl.out (HAy.out a3 HM3.out.symm)).symm)).2⟩
                      case measure => simp [intOf]; omega
                · have HPl := Lib.hid (show plainB hs k m = false from HPn.out (fun _ => HM1.out.symm) (fun h => absurd h (by omega)))
                  have HBs := Lib.hid (HBu'.out.keep HBc.out)
                  have HOs : Hid (Only wW (w5) (fun c => c = wq.heap.size + 1)) := Lib.hid (HOn.out.trans (Only.of_below HBc.out (fun _ => False)) (fun _ _ h => h.elim))
                  have HXs := Lib.hid (HXm.out.kept (HBc.out.block _ (by omega)))
                  have HYs := Lib.hid HYc.out
                  have HSs := Lib.hid (HSrm.out.kept (HBc.out.block _ (by omega)))
                  have HIs := Lib.hid (HIw.out.below (HBu'.out.below.trans (HBc.out.mono HBu'.out.below.size)))
                  have H1 : Hid (B' k m = 0) := Lib.hid (by rw [HB2.out m hlm, if_neg (by omega)])
                  obtain ⟨d0, d1, d2, d3, d4, d5⟩ := (HXm.out.kept (HBc.out.block _ (by omega))).acc
                  obtain ⟨e0, e1, e2, e3, e4, e5⟩ := HYc.out.acc
                  have g1 : (w5).cell? ⟨w1.heap.size + 1, 1, none⟩ = some (.slice (some ⟨w1.heap.size, 0, none⟩) hs.length hs.length) := (HBu'.out.keep HBc.out).cells.cell 1
                  have g2 : (w5).cell? ⟨w1.heap.size, k, none⟩ = some (.slice (some ⟨wq.heap.size + 1, 0, none⟩) hs.length hs.length) := by rw [(HBu'.out.keep HBc.out).edges.cell hlk, if_pos (by omega), HRB.out]
                  have g3 : (w5).cell? ⟨wq.heap.size + 1, m, none⟩ = some (.int .i64 0) := by have := ((HBu'.out.keep HBc.out).rows k (by omega)).cell hlm; rw [HRB.out, HB2.out m hlm, if_neg (by omega)] at this; exact this
                  have g4 : (w5).frozen? ⟨wq.heap.size + 1, m, none⟩ = false := by have := ((HBu'.out.keep HBc.out).rows k (by omega)).frozen m; rw [HRB.out] at this; exact this
                  have gz : wr.heap.size < (w5).heap.size := HYc.out.lt
                  go_wp2_with fail
                  refine (meets_any HIs.out HSs.out).mono ?_
                  obtain ⟨M3, hM3⟩ : ∃ M3, M3 = meet x.reads y.writes := ⟨_, rfl⟩
                  rw [← hM3]
                  have HM3 := Lib.hid hM3
                  rintro e w8 ⟨rfl, hb8⟩
                  have HB8 := Lib.hid hb8
                  have hsz8 := hb8.size
                  clear hb8 hM3
                  clear d0 d1 d2 d3 d4 d5 e0 e1 e2 e3 e4 e5 g1 g2 g3 g4
                  cases M3
                  · go_wp2_with fail
                    go_roundw
                    case rel => exact ⟨m + 1, _, by go_num, by omega, HOs.out.trans (Only.of_below HB8.out (fun _ => False)) (fun _ _ h => h.elim), HBs.out.keep HB8.out, Lib.hid (bits_step HB1.out HB2.out (fun _ _ _ => rfl) (H1.out.trans (bits_val HPl.out (HAn.out a3 HM3.out.symm)).symm)).1, Lib.hid (bits_step HB1.out HB2.out (fun _ _ _ => rfl) (H1.out.trans (bits_val HPl.out (HAn.out a3 HM3.out.symm)).symm)).2⟩
                    case measure => simp [intOf]; omega
                  · have g1 : w8.cell? ⟨w1.heap.size + 1, 1, none⟩ = some (.slice (some ⟨w1.heap.size, 0, none⟩) hs.length hs.length) := (HBs.out.keep HB8.out).cells.cell 1
                    have g2 : w8.cell? ⟨w1.heap.size, k, none⟩ = some (.slice (some ⟨wq.heap.size + 1, 0, none⟩) hs.length hs.length) := by rw [(HBs.out.keep HB8.out).edges.cell hlk, if_pos (by omega), HRB.out]
                    have g3 : w8.cell? ⟨wq.heap.size + 1, m, none⟩ = some (.int .i64 0) := by have := ((HBs.out.keep HB8.out).rows k (by omega)).cell hlm; rw [HRB.out, H1.out] at this; exact this
                    have g4 : w8.frozen? ⟨wq.heap.size + 1, m, none⟩ = false := by have := ((HBs.out.keep HB8.out).rows k (by omega)).frozen m; rw [HRB.out] at this; exact this
                    have hset := (HBs.out.keep HB8.out).set (i := k) (j := m) (by omega) 2
                    rw [HRB.out] at hset
                    have HBt := Lib.hid hset
                    have HOt : Hid (Only wW (w8.setCell ⟨wq.heap.size + 1, m, none⟩ (.int .i64 2)) (fun c => c = wq.heap.size + 1)) := Lib.hid ((HOs.out.trans (Only.of_below HB8.out (fun _ => False)) (fun _ _ h => h.elim)).setCell (.inl rfl) _)
                    have G0 : Hid (∀ i j, ¬ (i = k ∧ j = m) → updB B' k m 2 i j = B' i j) := Lib.hid (fun i j h => by unfold updB; rw [if_neg h])
                    have G1 : Hid (updB B' k m 2 k m = 2) := Lib.hid (by simp [updB])
                    clear hset
                    go_wp2_with fail
                    go_roundw
                    case rel => exact ⟨m + 1, _, by go_num, by omega, HOt.out, HBt.out, Lib.hid (bits_step HB1.out HB2.out G0.out (G1.out.trans (bits_val HPl.out (HAy.out a3 HM3.out.symm)).symm)).1, Lib.hid (bits_step HB1.out HB2.out G0.out (G1.out.trans (bits_val HPl.out (HAy.out a3 HM3.out.symm)).symm)).2⟩
                    case measure => simp [intOf]; omega
              · have HPl := Lib.hid (show plainB hs k m = true from HPy1.out a1 HM1.out.symm)
                obtain ⟨d0, d1, d2, d3, d4, d5⟩ := (HXm.out.kept (HBc.out.block _ (by omega))).acc
                obtain ⟨e0, e1, e2, e3, e4, e5⟩ := HYc.out.acc
                have g1 : (w5).cell? ⟨w1.heap.size + 1, 1, none⟩ = some (.slice (some ⟨w1.heap.size, 0, none⟩) hs.length hs.length) := (HBu'.out.keep HBc.out).cells.cell 1
                have g2 : (w5).cell? ⟨w1.heap.size, k, none⟩ = some (.slice (some ⟨wq.heap.size + 1, 0, none⟩) hs.length hs.length) := by rw [(HBu'.out.keep HBc.out).edges.cell hlk, if_pos (by omega), HRB.out]
                have g3 : (w5).cell? ⟨wq.heap.size + 1, m, none⟩ = some (.int .i64 0) := by have := ((HBu'.out.keep HBc.out).rows k (by omega)).cell hlm; rw [HRB.out, HB2.out m hlm, if_neg (by omega)] at this; exact this
                have g4 : (w5).frozen? ⟨wq.heap.size + 1, m, none⟩ = false := by have := ((HBu'.out.keep HBc.out).rows k (by omega)).frozen m; rw [HRB.out] at this; exact this
                have gz : wr.heap.size < (w5).heap.size := HYc.out.lt
                have hset := (HBu'.out.keep HBc.out).set (i := k) (j := m) (by omega) 1
                rw [HRB.out] at hset
                have HBs := Lib.hid hset
                have HOs : Hid (Only wW ((w5).setCell ⟨wq.heap.size + 1, m, none⟩ (.int .i64 1)) (fun c => c = wq.heap.size + 1)) := Lib.hid ((HOn.out.trans (Only.of_below HBc.out (fun _ => False)) (fun _ _ h => h.elim)).setCell (.inl rfl) _)
                have HXs : Hid (Cells ((w5).setCell ⟨wq.heap.size + 1, m, none⟩ (.int .i64 1)) wq.heap.size 29 (accCells x (.slice Ar x.reads.length cr) (.slice Aw x.writes.length cw))) := Lib.hid ((HXm.out.kept (HBc.out.block _ (by omega))).kept (Below.heap_setCell _ _ _ _ (by show wq.heap.size ≠ wq.heap.size + 1; omega)))
                have HYs : Hid (Cells ((w5).setCell ⟨wq.heap.size + 1, m, none⟩ (.int .i64 1)) wr.heap.size 29 (accCells y (.slice Br y.reads.length dr) (.slice Bw y.writes.length dw))) := Lib.hid (HYc.out.kept (Below.heap_setCell _ _ _ _ (by show wr.heap.size ≠ wq.heap.size + 1; omega)))
                have HSs : Hid (SetAt Try.prog 3 4 ((w5).setCell ⟨wq.heap.size + 1, m, none⟩ (.int .i64 1)) sr x.reads) := Lib.hid ((HSrm.out.kept (HBc.out.block _ (by omega))).kept (Below.heap_setCell _ _ _ _ (by show sr ≠ wq.heap.size + 1; omega)))
                have HIs : Hid (Ints ((w5).setCell ⟨wq.heap.size + 1, m, none⟩ (.int .i64 1)) (.slice Bw y.writes.length dw) y.writes) := Lib.hid (HIw.out.below ((HBu'.out.below.trans (HBc.out.mono HBu'.out.below.size)).setCell (by show w.heap.size ≤ wq.heap.size + 1; omega) _))
                have H0 : Hid (∀ i j, ¬ (i = k ∧ j = m) → updB B' k m 1 i j = B' i j) := Lib.hid (fun i j h => by unfold updB; rw [if_neg h])
                have H1 : Hid (updB B' k m 1 k m = 1) := Lib.hid (by simp [updB])
                clear hset
                go_wp2_with fail
                refine (meets_any HIs.out HSs.out).mono ?_
                obtain ⟨M3, hM3⟩ : ∃ M3, M3 = meet x.reads y.writes := ⟨_, rfl⟩
                rw [← hM3]
                have HM3 := Lib.hid hM3
                rintro e w8 ⟨rfl, hb8⟩
                have HB8 := Lib.hid hb8
                have hsz8 := hb8.size
                clear hb8 hM3
                clear d0 d1 d2 d3 d4 d5 e0 e1 e2 e3 e4 e5 g1 g2 g3 g4
                cases M3
                · go_wp2_with fail
                  go_roundw
                  case rel => exact ⟨m + 1, _, by go_num, by omega, HOs.out.trans (Only.of_below HB8.out (fun _ => False)) (fun _ _ h => h.elim), HBs.out.keep HB8.out, Lib.hid (bits_step HB1.out HB2.out H0.out (H1.out.trans (bits_val HPl.out (HAn.out a3 HM3.out.symm)).symm)).1, Lib.hid (bits_step HB1.out HB2.out H0.out (H1.out.trans (bits_val HPl.out (HAn.out a3 HM3.out.symm)).symm)).2⟩
                  case measure => simp [intOf]; omega
                · have g1 : w8.cell? ⟨w1.heap.size + 1, 1, none⟩ = some (.slice (some ⟨w1.heap.size, 0, none⟩) hs.length hs.length) := (HBs.out.keep HB8.out).cells.cell 1
                  have g2 : w8.cell? ⟨w1.heap.size, k, none⟩ = some (.slice (some ⟨wq.heap.size + 1, 0, none⟩) hs.length hs.length) := by rw [(HBs.out.keep HB8.out).edges.cell hlk, if_pos (by omega), HRB.out]
                  have g3 : w8.cell? ⟨wq.heap.size + 1, m, none⟩ = some (.int .i64 1) := by have := ((HBs.out.keep HB8.out).rows k (by omega)).cell hlm; rw [HRB.out, H1.out] at this; exact this
                  have g4 : w8.frozen? ⟨wq.heap.size + 1, m, none⟩ = false := by have := ((HBs.out.keep HB8.out).rows k (by omega)).frozen m; rw [HRB.out] at this; exact this
                  have hset := (HBs.out.keep HB8.out).set (i := k) (j := m) (by omega) 3
                  rw [HRB.out] at hset
                  have HBt := Lib.hid hset
                  have HOt : Hid (Only wW (w8.setCell ⟨wq.heap.size + 1, m, none⟩ (.int .i64 3)) (fun c => c = wq.heap.size + 1)) := Lib.hid ((HOs.out.trans (Only.of_below HB8.out (fun _ => False)) (fun _ _ h => h.elim)).setCell (.inl rfl) _)
                  have G0 : Hid (∀ i j, ¬ (i = k ∧ j = m) → updB (updB B' k m 1) k m 3 i j = B' i j) := Lib.hid (fun i j h => by unfold updB; rw [if_neg h]; exact H0.out i j h)
                  have G1 : Hid (updB (updB B' k m 1) k m 3 k m = 3) := Lib.hid (by simp [updB])
                  clear hset
                  go_wp2_with fail
                  go_roundw
                  case rel => exact ⟨m + 1, _, by go_num, by omega, HOt.out, HBt.out, Lib.hid (bits_step HB1.out HB2.out G0.out (G1.out.trans (bits_val HPl.out (HAy.out a3 HM3.out.symm)).symm)).1, Lib.hid (bits_step HB1.out HB2.out G0.out (G1.out.trans (bits_val HPl.out (HAy.out a3 HM3.out.symm)).symm)).2⟩
                  case measure => simp [intOf]; omega
            · by_cases a2 : x.stamp ≤ y.snap
              · go_wp2_with fail
                refine (meets_any (HIr.out.below (HBu'.out.below.trans (HBc.out.mono HBu'.out.below.size))) (HSwm.out.kept (HBc.out.block _ (by omega)))).mono ?_
                obtain ⟨M2, hM2⟩ : ∃ M2, M2 = meet x.writes y.reads := ⟨_, rfl⟩
                rw [← hM2]
                have HM2 := Lib.hid hM2
                rintro e w6 ⟨rfl, hbn⟩
                have HBn := Lib.hid (HBc.out.trans (hbn.mono HBc.out.size))
                have HYn := Lib.hid (HYc.out.kept (hbn.block _ HYc.out.lt))
                clear hbn hM2 HBc HYc d0 d1 d2 d3 d4 d5 g1 g2 g3 g4
                have HBc := Lib.hid HBn.out
                have HYc := Lib.hid HYn.out
                clear HBn HYn
                cases M2
                · have HPl := Lib.hid (show plainB hs k m = false from HPn.out (fun h => absurd h (by omega)) (fun _ => HM2.out.symm))
                  have HBs := Lib.hid (HBu'.out.keep HBc.out)
                  have HOs : Hid (Only wW (w6) (fun c => c = wq.heap.size + 1)) := Lib.hid (HOn.out.trans (Only.of_below HBc.out (fun _ => False)) (fun _ _ h => h.elim))
                  have HXs := Lib.hid (HXm.out.kept (HBc.out.block _ (by omega)))
                  have HYs := Lib.hid HYc.out
                  have HSs := Lib.hid (HSrm.out.kept (HBc.out.block _ (by omega)))
                  have HIs := Lib.hid (HIw.out.below (HBu'.out.below.trans (HBc.out.mono HBu'.out.below.size)))
                  have H1 : Hid (B' k m = 0) := Lib.hid (by rw [HB2.out m hlm, if_neg (by omega)])
                  obtain ⟨d0, d1, d2, d3, d4, d5⟩ := (HXm.out.kept (HBc.out.block _ (by omega))).acc
                  obtain ⟨e0, e1, e2, e3, e4, e5⟩ := HYc.out.acc
                  have g1 : (w6).cell? ⟨w1.heap.size + 1, 1, none⟩ = some (.slice (some ⟨w1.heap.size, 0, none⟩) hs.length hs.length) := (HBu'.out.keep HBc.out).cells.cell 1
                  have g2 : (w6).cell? ⟨w1.heap.size, k, none⟩ = some (.slice (some ⟨wq.heap.size + 1, 0, none⟩) hs.length hs.length) := by rw [(HBu'.out.keep HBc.out).edges.cell hlk, if_pos (by omega), HRB.out]
                  have g3 : (w6).cell? ⟨wq.heap.size + 1, m, none⟩ = some (.int .i64 0) := by have := ((HBu'.out.keep HBc.out).rows k (by omega)).cell hlm; rw [HRB.out, HB2.out m hlm, if_neg (by omega)] at this; exact this
                  have g4 : (w6).frozen? ⟨wq.heap.size + 1, m, none⟩ = false := by have := ((HBu'.out.keep HBc.out).rows k (by omega)).frozen m; rw [HRB.out] at this; exact this
                  have gz : wr.heap.size < (w6).heap.size := HYc.out.lt
                  go_wp2_with fail
                  refine (meets_any HIs.out HSs.out).mono ?_
                  obtain ⟨M3, hM3⟩ : ∃ M3, M3 = meet x.reads y.writes := ⟨_, rfl⟩
                  rw [← hM3]
                  have HM3 := Lib.hid hM3
                  rintro e w8 ⟨rfl, hb8⟩
                  have HB8 := Lib.hid hb8
                  have hsz8 := hb8.size
                  clear hb8 hM3
                  clear d0 d1 d2 d3 d4 d5 e0 e1 e2 e3 e4 e5 g1 g2 g3 g4
                  cases M3
                  · go_wp2_with fail
                    go_roundw
                    case rel => exact ⟨m + 1, _, by go_num, by omega, HOs.out.trans (Only.of_below HB8.out (fun _ => False)) (fun _ _ h => h.elim), HBs.out.keep HB8.out, Lib.hid (bits_step HB1.out HB2.out (fun _ _ _ => rfl) (H1.out.trans (bits_val HPl.out (HAn.out a3 HM3.out.symm)).symm)).1, Lib.hid (bits_step HB1.out HB2.out (fun _ _ _ => rfl) (H1.out.trans (bits_val HPl.out (HAn.out a3 HM3.out.symm)).symm)).2⟩
                    case measure => simp [intOf]; omega
                  · have g1 : w8.cell? ⟨w1.heap.size + 1, 1, none⟩ = some (.slice (some ⟨w1.heap.size, 0, none⟩) hs.length hs.length) := (HBs.out.keep HB8.out).cells.cell 1
                    have g2 : w8.cell? ⟨w1.heap.size, k, none⟩ = some (.slice (some ⟨wq.heap.size + 1, 0, none⟩) hs.length hs.length) := by rw [(HBs.out.keep HB8.out).edges.cell hlk, if_pos (by omega), HRB.out]
                    have g3 : w8.cell? ⟨wq.heap.size + 1, m, none⟩ = some (.int .i64 0) := by have := ((HBs.out.keep HB8.out).rows k (by omega)).cell hlm; rw [HRB.out, H1.out] at this; exact this
                    have g4 : w8.frozen? ⟨wq.heap.size + 1, m, none⟩ = false := by have := ((HBs.out.keep HB8.out).rows k (by omega)).frozen m; rw [HRB.out] at this; exact this
                    have hset := (HBs.out.keep HB8.out).set (i := k) (j := m) (by omega) 2
                    rw [HRB.out] at hset
                    have HBt := Lib.hid hset
                    have HOt : Hid (Only wW (w8.setCell ⟨wq.heap.size + 1, m, none⟩ (.int .i64 2)) (fun c => c = wq.heap.size + 1)) := Lib.hid ((HOs.out.trans (Only.of_below HB8.out (fun _ => False)) (fun _ _ h => h.elim)).setCell (.inl rfl) _)
                    have G0 : Hid (∀ i j, ¬ (i = k ∧ j = m) → updB B' k m 2 i j = B' i j) := Lib.hid (fun i j h => by unfold updB; rw [if_neg h])
                    have G1 : Hid (updB B' k m 2 k m = 2) := Lib.hid (by simp [updB])
                    clear hset
                    go_wp2_with fail
                    go_roundw
                    case rel => exact ⟨m + 1, _, by go_num, by omega, HOt.out, HBt.out, Lib.hid (bits_step HB1.out HB2.out G0.out (G1.out.trans (bits_val HPl.out (HAy.out a3 HM3.out.symm)).symm)).1, Lib.hid (bits_step HB1.out HB2.out G0.out (G1.out.trans (bits_val HPl.out (HAy.out a3 HM3.out.symm)).symm)).2⟩
                    case measure => simp [intOf]; omega
                · have HPl := Lib.hid (show plainB hs k m = true from HPy2.out a2 HM2.out.symm)
                  obtain ⟨d0, d1, d2, d3, d4, d5⟩ := (HXm.out.kept (HBc.out.block _ (by omega))).acc
                  obtain ⟨e0, e1, e2, e3, e4, e5⟩ := HYc.out.acc
                  have g1 : (w6).cell? ⟨w1.heap.size + 1, 1, none⟩ = some (.slice (some ⟨w1.heap.size, 0, none⟩) hs.length hs.length) := (HBu'.out.keep HBc.out).cells.cell 1
                  have g2 : (w6).cell? ⟨w1.heap.size, k, none⟩ = some (.slice (some ⟨wq.heap.size + 1, 0, none⟩) hs.length hs.length) := by rw [(HBu'.out.keep HBc.out).edges.cell hlk, if_pos (by omega), HRB.out]
                  have g3 : (w6).cell? ⟨wq.heap.size + 1, m, none⟩ = some (.int .i64 0) := by have := ((HBu'.out.keep HBc.out).rows k (by omega)).cell hlm; rw [HRB.out, HB2.out m hlm, if_neg (by omega)] at this; exact this
                  have g4 : (w6).frozen? ⟨wq.heap.size + 1, m, none⟩ = false := by have := ((HBu'.out.keep HBc.out).rows k (by omega)).frozen m; rw [HRB.out] at this; exact this
                  have gz : wr.heap.size < (w6).heap.size := HYc.out.lt
                  have hset := (HBu'.out.keep HBc.out).set (i := k) (j := m) (by omega) 1
                  rw [HRB.out] at hset
                  have HBs := Lib.hid hset
                  have HOs : Hid (Only wW ((w6).setCell ⟨wq.heap.size + 1, m, none⟩ (.int .i64 1)) (fun c => c = wq.heap.size + 1)) := Lib.hid ((HOn.out.trans (Only.of_below HBc.out (fun _ => False)) (fun _ _ h => h.elim)).setCell (.inl rfl) _)
                  have HXs : Hid (Cells ((w6).setCell ⟨wq.heap.size + 1, m, none⟩ (.int .i64 1)) wq.heap.size 29 (accCells x (.slice Ar x.reads.length cr) (.slice Aw x.writes.length cw))) := Lib.hid ((HXm.out.kept (HBc.out.block _ (by omega))).kept (Below.heap_setCell _ _ _ _ (by show wq.heap.size ≠ wq.heap.size + 1; omega)))
                  have HYs : Hid (Cells ((w6).setCell ⟨wq.heap.size + 1, m, none⟩ (.int .i64 1)) wr.heap.size 29 (accCells y (.slice Br y.reads.length dr) (.slice Bw y.writes.length dw))) := Lib.hid (HYc.out.kept (Below.heap_setCell _ _ _ _ (by show wr.heap.size ≠ wq.heap.size + 1; omega)))
                  have HSs : Hid (SetAt Try.prog 3 4 ((w6).setCell ⟨wq.heap.size + 1, m, none⟩ (.int .i64 1)) sr x.reads) := Lib.hid ((HSrm.out.kept (HBc.out.block _ (by omega))).kept (Below.heap_setCell _ _ _ _ (by show sr ≠ wq.heap.size + 1; omega)))
                  have HIs : Hid (Ints ((w6).setCell ⟨wq.heap.size + 1, m, none⟩ (.int .i64 1)) (.slice Bw y.writes.length dw) y.writes) := Lib.hid (HIw.out.below ((HBu'.out.below.trans (HBc.out.mono HBu'.out.below.size)).setCell (by show w.heap.size ≤ wq.heap.size + 1; omega) _))
                  have H0 : Hid (∀ i j, ¬ (i = k ∧ j = m) → updB B' k m 1 i j = B' i j) := Lib.hid (fun i j h => by unfold updB; rw [if_neg h])
                  have H1 : Hid (updB B' k m 1 k m = 1) := Lib.hid (by simp [updB])
                  clear hset
                  go_wp2_with fail
                  refine (meets_any HIs.out HSs.out).mono ?_
                  obtain ⟨M3, hM3⟩ : ∃ M3, M3 = meet x.reads y.writes := ⟨_, rfl⟩
                  rw [← hM3]
                  have HM3 := Lib.hid hM3
                  rintro e w8 ⟨rfl, hb8⟩
                  have HB8 := Lib.hid hb8
                  have hsz8 := hb8.size
                  clear hb8 hM3
                  clear d0 d1 d2 d3 d4 d5 e0 e1 e2 e3 e4 e5 g1 g2 g3 g4
                  cases M3
                  · go_wp2_with fail
                    go_roundw
                    case rel => exact ⟨m + 1, _, by go_num, by omega, HOs.out.trans (Only.of_below HB8.out (fun _ => False)) (fun _ _ h => h.elim), HBs.out.keep HB8.out, Lib.hid (bits_step HB1.out HB2.out H0.out (H1.out.trans (bits_val HPl.out (HAn.out a3 HM3.out.symm)).symm)).1, Lib.hid (bits_step HB1.out HB2.out H0.out (H1.out.trans (bits_val HPl.out (HAn.out a3 HM3.out.symm)).symm)).2⟩
                    case measure => simp [intOf]; omega
                  · have g1 : w8.cell? ⟨w1.heap.size + 1, 1, none⟩ = some (.slice (some ⟨w1.heap.size, 0, none⟩) hs.length hs.length) := (HBs.out.keep HB8.out).cells.cell 1
                    have g2 : w8.cell? ⟨w1.heap.size, k, none⟩ = some (.slice (some ⟨wq.heap.size + 1, 0, none⟩) hs.length hs.length) := by rw [(HBs.out.keep HB8.out).edges.cell hlk, if_pos (by omega), HRB.out]
                    have g3 : w8.cell? ⟨wq.heap.size + 1, m, none⟩ = some (.int .i64 1) := by have := ((HBs.out.keep HB8.out).rows k (by omega)).cell hlm; rw [HRB.out, H1.out] at this; exact this
                    have g4 : w8.frozen? ⟨wq.heap.size + 1, m, none⟩ = false := by have := ((HBs.out.keep HB8.out).rows k (by omega)).frozen m; rw [HRB.out] at this; exact this
                    have hset := (HBs.out.keep HB8.out).set (i := k) (j := m) (by omega) 3
                    rw [HRB.out] at hset
                    have HBt := Lib.hid hset
                    have HOt : Hid (Only wW (w8.setCell ⟨wq.heap.size + 1, m, none⟩ (.int .i64 3)) (fun c => c = wq.heap.size + 1)) := Lib.hid ((HOs.out.trans (Only.of_below HB8.out (fun _ => False)) (fun _ _ h => h.elim)).setCell (.inl rfl) _)
                    have G0 : Hid (∀ i j, ¬ (i = k ∧ j = m) → updB (updB B' k m 1) k m 3 i j = B' i j) := Lib.hid (fun i j h => by unfold updB; rw [if_neg h]; exact H0.out i j h)
                    have G1 : Hid (updB (updB B' k m 1) k m 3 k m = 3) := Lib.hid (by simp [updB])
                    clear hset
                    go_wp2_with fail
                    go_roundw
                    case rel => exact ⟨m + 1, _, by go_num, by omega, HOt.out, HBt.out, Lib.hid (bits_step HB1.out HB2.out G0.out (G1.out.trans (bits_val HPl.out (HAy.out a3 HM3.out.symm)).symm)).1, Lib.hid (bits_step HB1.out HB2.out G0.out (G1.out.trans (bits_val HPl.out (HAy.out a3 HM3.out.symm)).symm)).2⟩
                    case measure => simp [intOf]; omega
              · have HPl := Lib.hid (show plainB hs k m = false from HPn.out (fun h => absurd h (by omega)) (fun h => absurd h (by omega)))
                have HBs := Lib.hid (HBu'.out.keep HBc.out)
                have HOs : Hid (Only wW (wr.alloc (.cells #[.int .i64 y.mode, .int .i64 y.snap, .bool true, .int .i64 y.stamp, .slice Br y.reads.length dr, .slice Bw y.writes.length dw] 29)) (fun c => c = wq.heap.size + 1)) := Lib.hid (HOn.out.trans (Only.of_below HBc.out (fun _ => False)) (fun _ _ h => h.elim))
                have HXs := Lib.hid (HXm.out.kept (HBc.out.block _ (by omega)))
                have HYs := Lib.hid HYc.out
                have HSs := Lib.hid (HSrm.out.kept (HBc.out.block _ (by omega)))
                have HIs := Lib.hid (HIw.out.below (HBu'.out.below.trans (HBc.out.mono HBu'.out.below.size)))
                have H1 : Hid (B' k m = 0) := Lib.hid (by rw [HB2.out m hlm, if_neg (by omega)])
                go_wp2_with fail
                refine (meets_any HIs.out HSs.out).mono ?_
                obtain ⟨M3, hM3⟩ : ∃ M3, M3 = meet x.reads y.writes := ⟨_, rfl⟩
                rw [← hM3]
                have HM3 := Lib.hid hM3
                rintro e w8 ⟨rfl, hb8⟩
                have HB8 := Lib.hid hb8
                have hsz8 := hb8.size
                clear hb8 hM3
                clear d0 d1 d2 d3 d4 d5 g1 g2 g3 g4
                cases M3
                · go_wp2_with fail
                  go_roundw
                  case rel => exact ⟨m + 1, _, by go_num, by omega, HOs.out.trans (Only.of_below HB8.out (fun _ => False)) (fun _ _ h => h.elim), HBs.out.keep HB8.out, Lib.hid (bits_step HB1.out HB2.out (fun _ _ _ => rfl) (H1.out.trans (bits_val HPl.out (HAn.out a3 HM3.out.symm)).symm)).1, Lib.hid (bits_step HB1.out HB2.out (fun _ _ _ => rfl) (H1.out.trans (bits_val HPl.out (HAn.out a3 HM3.out.symm)).symm)).2⟩
                  case measure => simp [intOf]; omega
                · have g1 : w8.cell? ⟨w1.heap.size + 1, 1, none⟩ = some (.slice (some ⟨w1.heap.size, 0, none⟩) hs.length hs.length) := (HBs.out.keep HB8.out).cells.cell 1
                  have g2 : w8.cell? ⟨w1.heap.size, k, none⟩ = some (.slice (some ⟨wq.heap.size + 1, 0, none⟩) hs.length hs.length) := by rw [(HBs.out.keep HB8.out).edges.cell hlk, if_pos (by omega), HRB.out]
                  have g3 : w8.cell? ⟨wq.heap.size + 1, m, none⟩ = some (.int .i64 0) := by have := ((HBs.out.keep HB8.out).rows k (by omega)).cell hlm; rw [HRB.out, H1.out] at this; exact this
                  have g4 : w8.frozen? ⟨wq.heap.size + 1, m, none⟩ = false := by have := ((HBs.out.keep HB8.out).rows k (by omega)).frozen m; rw [HRB.out] at this; exact this
                  have hset := (HBs.out.keep HB8.out).set (i := k) (j := m) (by omega) 2
                  rw [HRB.out] at hset
                  have HBt := Lib.hid hset
                  have HOt : Hid (Only wW (w8.setCell ⟨wq.heap.size + 1, m, none⟩ (.int .i64 2)) (fun c => c = wq.heap.size + 1)) := Lib.hid ((HOs.out.trans (Only.of_below HB8.out (fun _ => False)) (fun _ _ h => h.elim)).setCell (.inl rfl) _)
                  have G0 : Hid (∀ i j, ¬ (i = k ∧ j = m) → updB B' k m 2 i j = B' i j) := Lib.hid (fun i j h => by unfold updB; rw [if_neg h])
                  have G1 : Hid (updB B' k m 2 k m = 2) := Lib.hid (by simp [updB])
                  clear hset
                  go_wp2_with fail
                  go_roundw
                  case rel => exact ⟨m + 1, _, by go_num, by omega, HOt.out, HBt.out, Lib.hid (bits_step HB1.out HB2.out G0.out (G1.out.trans (bits_val HPl.out (HAy.out a3 HM3.out.symm)).symm)).1, Lib.hid (bits_step HB1.out HB2.out G0.out (G1.out.trans (bits_val HPl.out (HAy.out a3 HM3.out.symm)).symm)).2⟩
                  case measure => simp [intOf]; omega
          · by_cases a1 : x.stamp < y.stamp
            · go_wp2_with fail
              refine (meets_any (HIw.out.below (HBu'.out.below.trans (HBc.out.mono HBu'.out.below.size))) (HSwm.out.kept (HBc.out.block _ (by omega)))).mono ?_
              obtain ⟨M1, hM1⟩ : ∃ M1, M1 = meet x.writes y.writes := ⟨_, rfl⟩
              rw [← hM1]
              have HM1 := Lib.hid hM1
              rintro e w5 ⟨rfl, hbn⟩
              have HBn := Lib.hid (HBc.out.trans (hbn.mono HBc.out.size))
              have HYn := Lib.hid (HYc.out.kept (hbn.block _ HYc.out.lt))
              clear hbn hM1 HBc HYc d0 d1 d2 d3 d4 d5 g1 g2 g3 g4
              have HBc := Lib.hid HBn.out
              have HYc := Lib.hid HYn.out
              clear HBn HYn
              cases M1
              · by_cases a2 : x.stamp ≤ y.snap
                · obtain ⟨d0, d1, d2, d3, d4, d5⟩ := (HXm.out.kept (HBc.out.block _ (by omega))).acc
                  obtain ⟨e0, e1, e2, e3, e4, e5⟩ := HYc.out.acc
                  have g1 : (w5).cell? ⟨w1.heap.size + 1, 1, none⟩ = some (.slice (some ⟨w1.heap.size, 0, none⟩) hs.length hs.length) := (HBu'.out.keep HBc.out).cells.cell 1
                  have g2 : (w5).cell? ⟨w1.heap.size, k, none⟩ = some (.slice (some ⟨wq.heap.size + 1, 0, none⟩) hs.length hs.length) := by rw [(HBu'.out.keep HBc.out).edges.cell hlk, if_pos (by omega), HRB.out]
                  have g3 : (w5).cell? ⟨wq.heap.size + 1, m, none⟩ = some (.int .i64 0) := by have := ((HBu'.out.keep HBc.out).rows k (by omega)).cell hlm; rw [HRB.out, HB2.out m hlm, if_neg (by omega)] at this; exact this
                  have g4 : (w5).frozen? ⟨wq.heap.size + 1, m, none⟩ = false := by have := ((HBu'.out.keep HBc.out).rows k (by omega)).frozen m; rw [HRB.out] at this; exact this
                  have gz : wr.heap.size < (w5).heap.size := HYc.out.lt
                  go_wp2_with fail
                  refine (meets_any (HIr.out.below (HBu'.out.below.trans (HBc.out.mono HBu'.out.below.size))) (HSwm.out.kept (HBc.out.block _ (by omega)))).mono ?_
                  obtain ⟨M2, hM2⟩ : ∃ M2, M2 = meet x.writes y.reads := ⟨_, rfl⟩
                  rw [← hM2]
                  have HM2 := Lib.hid hM2
                  rintro e w6 ⟨rfl, hbn⟩
                  have HBn := Lib.hid (HBc.out.trans (hbn.mono HBc.out.size))
                  have HYn := Lib.hid (HYc.out.kept (hbn.block _ HYc.out.lt))
                  clear hbn hM2 HBc HYc d0 d1 d2 d3 d4 d5 e0 e1 e2 e3 e4 e5 gz g1 g2 g3 g4
                  have HBc := Lib.hid HBn.out
                  have HYc := Lib.hid HYn.out
                  clear HBn HYn
                  cases M2
                  · have HPl := Lib.hid (show plainB hs k m = false from HPn.out (fun _ => HM1.out.symm) (fun _ => HM2.out.symm))
                    have HBs := Lib.hid (HBu'.out.keep HBc.out)
                    have HOs : Hid (Only wW (w6) (fun c => c = wq.heap.size + 1)) := Lib.hid (HOn.out.trans (Only.of_below HBc.out (fun _ => False)) (fun _ _ h => h.elim))
                    have HXs := Lib.hid (HXm.out.kept (HBc.out.block _ (by omega)))
                    have HYs := Lib.hid HYc.out
                    have HSs := Lib.hid (HSrm.out.kept (HBc.out.block _ (by omega)))
                    have HIs := Lib.hid (HIw.out.below (HBu'.out.below.trans (HBc.out.mono HBu'.out.below.size)))
                    have H1 : Hid (B' k m = 0) := Lib.hid (by rw [HB2.out m hlm, if_neg (by omega)])
                    obtain ⟨d0, d1, d2, d3, d4, d5⟩ := (HXm.out.kept (HBc.out.block _ (by omega))).acc
                    obtain ⟨e0, e1, e2, e3, e4, e5⟩ := HYc.out.acc
                    have g1 : (w6).cell? ⟨w1.heap.size + 1, 1, none⟩ = some (.slice (some ⟨w1.heap.size, 0, none⟩) hs.length hs.length) := (HBu'.out.keep HBc.out).cells.cell 1
                    have g2 : (w6).cell? ⟨w1.heap.size, k, none⟩ = some (.slice (some ⟨wq.heap.size + 1, 0, none⟩) hs.length hs.length) := by rw [(HBu'.out.keep HBc.out).edges.cell hlk, if_pos (by omega), HRB.out]
                    have g3 : (w6).cell? ⟨wq.heap.size + 1, m, none⟩ = some (.int .i64 0) := by have := ((HBu'.out.keep HBc.out).rows k (by omega)).cell hlm; rw [HRB.out, HB2.out m hlm, if_neg (by omega)] at this; exact this
                    have g4 : (w6).frozen? ⟨wq.heap.size + 1, m, none⟩ = false := by have := ((HBu'.out.keep HBc.out).rows k (by omega)).frozen m; rw [HRB.out] at this; exact this
                    have gz : wr.heap.size < (w6).heap.size := HYc.out.lt
                    go_wp2_with fail
                    go_roundw
                    case rel => exact ⟨m + 1, _, by go_num, by omega, HOs.out, HBs.out, Lib.hid (bits_step HB1.out HB2.out (fun _ _ _ => rfl) (H1.out.trans (bits_val HPl.out (HAf.out (by omega))).symm)).1, Lib.hid (bits_step HB1.out HB2.out (fun _ _ _ => rfl) (H1.out.trans (bits_val HPl.out (HAf.out (by omega))).symm)).2⟩
                    case measure => simp [intOf]; omega
                  · have HPl := Lib.hid (show plainB hs k m = true from HPy2.out a2 HM2.out.symm)
                    obtain ⟨d0, d1, d2, d3, d4, d5⟩ := (HXm.out.kept (HBc.out.block _ (by omega))).acc
                    obtain ⟨e0, e1, e2, e3, e4, e5⟩ := HYc.out.acc
                    have g1 : (w6).cell? ⟨w1.heap.size + 1, 1, none⟩ = some (.slice (some ⟨w1.heap.size, 0, none⟩) hs.length hs.length) := (HBu'.out.keep HBc.out).cells.cell 1
                    have g2 : (w6).cell? ⟨w1.heap.size, k, none⟩ = some (.slice (some ⟨wq.heap.size + 1, 0, none⟩) hs.length hs.length) := by rw [(HBu'.out.keep HBc.out).edges.cell hlk, if_pos (by omega), HRB.out]
                    have g3 : (w6).cell? ⟨wq.heap.size + 1, m, none⟩ = some (.int .i64 0) := by have := ((HBu'.out.keep HBc.out).rows k (by omega)).cell hlm; rw [HRB.out, HB2.out m hlm, if_neg (by omega)] at this; exact this
                    have g4 : (w6).frozen? ⟨wq.heap.size + 1, m, none⟩ = false := by have := ((HBu'.out.keep HBc.out).rows k (by omega)).frozen m; rw [HRB.out] at this; exact this
                    have gz : wr.heap.size < (w6).heap.size := HYc.out.lt
                    have hset := (HBu'.out.keep HBc.out).set (i := k) (j := m) (by omega) 1
                    rw [HRB.out] at hset
                    have HBs := Lib.hid hset
                    have HOs : Hid (Only wW ((w6).setCell ⟨wq.heap.size + 1, m, none⟩ (.int .i64 1)) (fun c => c = wq.heap.size + 1)) := Lib.hid ((HOn.out.trans (Only.of_below HBc.out (fun _ => False)) (fun _ _ h => h.elim)).setCell (.inl rfl) _)
                    have HXs : Hid (Cells ((w6).setCell ⟨wq.heap.size + 1, m, none⟩ (.int .i64 1)) wq.heap.size 29 (accCells x (.slice Ar x.reads.length cr) (.slice Aw x.writes.length cw))) := Lib.hid ((HXm.out.kept (HBc.out.block _ (by omega))).kept (Below.heap_setCell _ _ _ _ (by show wq.heap.size ≠ wq.heap.size + 1; omega)))
                    have HYs : Hid (Cells ((w6).setCell ⟨wq.heap.size + 1, m, none⟩ (.int .i64 1)) wr.heap.size 29 (accCells y (.slice Br y.reads.length dr) (.slice Bw y.writes.length dw))) := Lib.hid (HYc.out.kept (Below.heap_setCell _ _ _ _ (by show wr.heap.size ≠ wq.heap.size + 1; omega)))
                    have HSs : Hid (SetAt Try.prog 3 4 ((w6).setCell ⟨wq.heap.size + 1, m, none⟩ (.int .i64 1)) sr x.reads) := Lib.hid ((HSrm.out.kept (HBc.out.block _ (by omega))).kept (Below.heap_setCell _ _ _ _ (by show sr ≠ wq.heap.size + 1; omega)))
                    have HIs : Hid (Ints ((w6).setCell ⟨wq.heap.size + 1, m, none⟩ (.int .i64 1)) (.slice Bw y.writes.length dw) y.writes) := Lib.hid (HIw.out.below ((HBu'.out.below.trans (HBc.out.mono HBu'.out.below.size)).setCell (by show w.heap.size ≤ wq.heap.size + 1; omega) _))
                    have H0 : Hid (∀ i j, ¬ (i = k ∧ j = m) → updB B' k m 1 i j = B' i j) := Lib.hid (fun i j h => by unfold updB; rw [if_neg h])
                    have H1 : Hid (updB B' k m 1 k m = 1) := Lib.hid (by simp [updB])
                    clear hset
                    go_wp2_with fail
                    go_roundw
                    case rel => exact ⟨m + 1, _, by go_num, by omega, HOs.out, HBs.out, Lib.hid (bits_step HB1.out HB2.out H0.out (H1.out.trans (bits_val HPl.out (HAf.out (by omega))).symm)).1, Lib.hid (bits_step HB1.out HB2.out H0.out (H1.out.trans (bits_val HPl.out (HAf.out (by omega))).symm)).2⟩
                    case measure => simp [intOf]; omega
                · have HPl := Lib.hid (show plainB hs k m = false from HPn.out (fun _ => HM1.out.symm) (fun h => absurd h (by omega)))
                  have HBs := Lib.hid (HBu'.out.keep HBc.out)
                  have HOs : Hid (Only wW (w5) (fun c => c = wq.heap.size + 1)) := Lib.hid (HOn.out.trans (Only.of_below HBc.out (fun _ => False)) (fun _ _ h => h.elim))
                  have HXs := Lib.hid (HXm.out.kept (HBc.out.block _ (by omega)))
                  have HYs := Lib.hid HYc.out
                  have HSs := Lib.hid (HSrm.out.kept (HBc.out.block _ (by omega)))
                  have HIs := Lib.hid (HIw.out.below (HBu'.out.below.trans (HBc.out.mono HBu'.out.below.size)))
                  have H1 : Hid (B' k m = 0) := Lib.hid (by rw [HB2.out m hlm, if_neg (by omega)])
                  obtain ⟨d0, d1, d2, d3, d4, d5⟩ := (HXm.out.kept (HBc.out.block _ (by omega))).acc
                  obtain ⟨e0, e1, e2, e3, e4, e5⟩ := HYc.out.acc
                  have g1 : (w5).cell? ⟨w1.heap.size + 1, 1, none⟩ = some (.slice (some ⟨w1.heap.size, 0, none⟩) hs.length hs.length) := (HBu'.out.keep HBc.out).cells.cell 1
                  have g2 : (w5).cell? ⟨w1.heap.size, k, none⟩ = some (.slice (some ⟨wq.heap.size + 1, 0, none⟩) hs.length hs.length) := by rw [(HBu'.out.keep HBc.out).edges.cell hlk, if_pos (by omega), HRB.out]
                  have g3 : (w5).cell? ⟨wq.heap.size + 1, m, none⟩ = some (.int .i64 0) := by have := ((HBu'.out.keep HBc.out).rows k (by omega)).cell hlm; rw [HRB.out, HB2.out m hlm, if_neg (by omega)] at this; exact this
                  have g4 : (w5).frozen? ⟨wq.heap.size + 1, m, none⟩ = false := by have := ((HBu'.out.keep HBc.out).rows k (by omega)).frozen m; rw [HRB.out] at this; exact this
                  have gz : wr.heap.size < (w5).heap.size := HYc.out.lt
                  go_wp2_with fail
                  go_roundw
                  case rel => exact ⟨m + 1, _, by go_num, by omega, HOs.out, HBs.out, Lib.hid (bits_step HB1.out HB2.out (fun _ _ _ => rfl) (H1.out.trans (bits_val HPl.out (HAf.out (by omega))).symm)).1, Lib.hid (bits_step HB1.out HB2.out (fun _ _ _ => rfl) (H1.out.trans (bits_val HPl.out (HAf.out (by omega))).symm)).2⟩
                  case measure => simp [intOf]; omega
              · have HPl := Lib.hid (show plainB hs k m = true from HPy1.out a1 HM1.out.symm)
                obtain ⟨d0, d1, d2, d3, d4, d5⟩ := (HXm.out.kept (HBc.out.block _ (by omega))).acc
                obtain ⟨e0, e1, e2, e3, e4, e5⟩ := HYc.out.acc
                have g1 : (w5).cell? ⟨w1.heap.size + 1, 1, none⟩ = some (.slice (some ⟨w1.heap.size, 0, none⟩) hs.length hs.length) := (HBu'.out.keep HBc.out).cells.cell 1
                have g2 : (w5).cell? ⟨w1.heap.size, k, none⟩ = some (.slice (some ⟨wq.heap.size + 1, 0, none⟩) hs.length hs.length) := by rw [(HBu'.out.keep HBc.out).edges.cell hlk, if_pos (by omega), HRB.out]
                have g3 : (w5).cell? ⟨wq.heap.size + 1, m, none⟩ = some (.int .i64 0) := by have := ((HBu'.out.keep HBc.out).rows k (by omega)).cell hlm; rw [HRB.out, HB2.out m hlm, if_neg (by omega)] at this; exact this
                have g4 : (w5).frozen? ⟨wq.heap.size + 1, m, none⟩ = false := by have := ((HBu'.out.keep HBc.out).rows k (by omega)).frozen m; rw [HRB.out] at this; exact this
                have gz : wr.heap.size < (w5).heap.size := HYc.out.lt
                have hset := (HBu'.out.keep HBc.out).set (i := k) (j := m) (by omega) 1
                rw [HRB.out] at hset
                have HBs := Lib.hid hset
                have HOs : Hid (Only wW ((w5).setCell ⟨wq.heap.size + 1, m, none⟩ (.int .i64 1)) (fun c => c = wq.heap.size + 1)) := Lib.hid ((HOn.out.trans (Only.of_below HBc.out (fun _ => False)) (fun _ _ h => h.elim)).setCell (.inl rfl) _)
                have HXs : Hid (Cells ((w5).setCell ⟨wq.heap.size + 1, m, none⟩ (.int .i64 1)) wq.heap.size 29 (accCells x (.slice Ar x.reads.length cr) (.slice Aw x.writes.length cw))) := Lib.hid ((HXm.out.kept (HBc.out.block _ (by omega))).kept (Below.heap_setCell _ _ _ _ (by show wq.heap.size ≠ wq.heap.size + 1; omega)))
                have HYs : Hid (Cells ((w5).setCell ⟨wq.heap.size + 1, m, none⟩ (.int .i64 1)) wr.heap.size 29 (accCells y (.slice Br y.reads.length dr) (.slice Bw y.writes.length dw))) := Lib.hid (HYc.out.kept (Below.heap_setCell _ _ _ _ (by show wr.heap.size ≠ wq.heap.size + 1; omega)))
                have HSs : Hid (SetAt Try.prog 3 4 ((w5).setCell ⟨wq.heap.size + 1, m, none⟩ (.int .i64 1)) sr x.reads) := Lib.hid ((HSrm.out.kept (HBc.out.block _ (by omega))).kept (Below.heap_setCell _ _ _ _ (by show sr ≠ wq.heap.size + 1; omega)))
                have HIs : Hid (Ints ((w5).setCell ⟨wq.heap.size + 1, m, none⟩ (.int .i64 1)) (.slice Bw y.writes.length dw) y.writes) := Lib.hid (HIw.out.below ((HBu'.out.below.trans (HBc.out.mono HBu'.out.below.size)).setCell (by show w.heap.size ≤ wq.heap.size + 1; omega) _))
                have H0 : Hid (∀ i j, ¬ (i = k ∧ j = m) → updB B' k m 1 i j = B' i j) := Lib.hid (fun i j h => by unfold updB; rw [if_neg h])
                have H1 : Hid (updB B' k m 1 k m = 1) := Lib.hid (by simp [updB])
                clear hset
                go_wp2_with fail
                go_roundw
                case rel => exact ⟨m + 1, _, by go_num, by omega, HOs.out, HBs.out, Lib.hid (bits_step HB1.out HB2.out H0.out (H1.out.trans (bits_val HPl.out (HAf.out (by omega))).symm)).1, Lib.hid (bits_step HB1.out HB2.out H0.out (H1.out.trans (bits_val HPl.out (HAf.out (by omega))).symm)).2⟩
                case measure => simp [intOf]; omega
            · by_cases a2 : x.stamp ≤ y.snap
              · go_wp2_with fail
                refine (meets_any (HIr.out.below (HBu'.out.below.trans (HBc.out.mono HBu'.out.below.size))) (HSwm.out.kept (HBc.out.block _ (by omega)))).mono ?_
                obtain ⟨M2, hM2⟩ : ∃ M2, M2 = meet x.writes y.reads := ⟨_, rfl⟩
                rw [← hM2]
                have HM2 := Lib.hid hM2
                rintro e w6 ⟨rfl, hbn⟩
                have HBn := Lib.hid (HBc.out.trans (hbn.mono HBc.out.size))
                have HYn := Lib.hid (HYc.out.kept (hbn.block _ HYc.out.lt))
                clear hbn hM2 HBc HYc d0 d1 d2 d3 d4 d5 g1 g2 g3 g4
                have HBc := Lib.hid HBn.out
                have HYc := Lib.hid HYn.out
                clear HBn HYn
                cases M2
                · have HPl := Lib.hid (show plainB hs k m = false from HPn.out (fun h => absurd h (by omega)) (fun _ => HM2.out.symm))
                  have HBs := Lib.hid (HBu'.out.keep HBc.out)
                  have HOs : Hid (Only wW (w6) (fun c => c = wq.heap.size + 1)) := Lib.hid (HOn.out.trans (Only.of_below HBc.out (fun _ => False)) (fun _ _ h => h.elim))
                  have HXs := Lib.hid (HXm.out.kept (HBc.out.block _ (by omega)))
                  have HYs := Lib.hid HYc.out
                  have HSs := Lib.hid (HSrm.out.kept (HBc.out.block _ (by omega)))
                  have HIs := Lib.hid (HIw.out.below (HBu'.out.below.trans (HBc.out.mono HBu'.out.below.size)))
                  have H1 : Hid (B' k m = 0) := Lib.hid (by rw [HB2.out m hlm, if_neg (by omega)])
                  obtain ⟨d0, d1, d2, d3, d4, d5⟩ := (HXm.out.kept (HBc.out.block _ (by omega))).acc
                  obtain ⟨e0, e1, e2, e3, e4, e5⟩ := HYc.out.acc
                  have g1 : (w6).cell? ⟨w1.heap.size + 1, 1, none⟩ = some (.slice (some ⟨w1.heap.size, 0, none⟩) hs.length hs.length) := (HBu'.out.keep HBc.out).cells.cell 1
                  have g2 : (w6).cell? ⟨w1.heap.size, k, none⟩ = some (.slice (some ⟨wq.heap.size + 1, 0, none⟩) hs.length hs.length) := by rw [(HBu'.out.keep HBc.out).edges.cell hlk, if_pos (by omega), HRB.out]
                  have g3 : (w6).cell? ⟨wq.heap.size + 1, m, none⟩ = some (.int .i64 0) := by have := ((HBu'.out.keep HBc.out).rows k (by omega)).cell hlm; rw [HRB.out, HB2.out m hlm, if_neg (by omega)] at this; exact this
                  have g4 : (w6).frozen? ⟨wq.heap.size + 1, m, none⟩ = false := by have := ((HBu'.out.keep HBc.out).rows k (by omega)).frozen m; rw [HRB.out] at this; exact this
                  have gz : wr.heap.size < (w6).heap.size := HYc.out.lt
                  go_wp2_with fail
                  go_roundw
                  case rel => exact ⟨m + 1, _, by go_num, by omega, HOs.out, HBs.out, Lib.hid (bits_step HB1.out HB2.out (fun _ _ _ => rfl) (H1.out.trans (bits_val HPl.out (HAf.out (by omega))).symm)).1, Lib.hid (bits_step HB1.out HB2.out (fun _ _ _ => rfl) (H1.out.trans (bits_val HPl.out (HAf.out (by omega))).symm)).2⟩
                  case measure => simp [intOf]; omega
                · have HPl := Lib.hid (show plainB hs k m = true from HPy2.out a2 HM2.out.symm)
                  obtain ⟨d0, d1, d2, d3, d4, d5⟩ := (HXm.out.kept (HBc.out.block _ (by omega))).acc
                  obtain ⟨e0, e1, e2, e3, e4, e5⟩ := HYc.out.acc
                  have g1 : (w6).cell? ⟨w1.heap.size + 1, 1, none⟩ = some (.slice (some ⟨w1.heap.size, 0, none⟩) hs.length hs.length) := (HBu'.out.keep HBc.out).cells.cell 1
                  have g2 : (w6).cell? ⟨w1.heap.size, k, none⟩ = some (.slice (some ⟨wq.heap.size + 1, 0, none⟩) hs.length hs.length) := by rw [(HBu'.out.keep HBc.out).edges.cell hlk, if_pos (by omega), HRB.out]
                  have g3 : (w6).cell? ⟨wq.heap.size + 1, m, none⟩ = some (.int .i64 0) := by have := ((HBu'.out.keep HBc.out).rows k (by omega)).cell hlm; rw [HRB.out, HB2.out m hlm, if_neg (by omega)] at this; exact this
                  have g4 : (w6).frozen? ⟨wq.heap.size + 1, m, none⟩ = false := by have := ((HBu'.out.keep HBc.out).rows k (by omega)).frozen m; rw [HRB.out] at this; exact this
                  have gz : wr.heap.size < (w6).heap.size := HYc.out.lt
                  have hset := (HBu'.out.keep HBc.out).set (i := k) (j := m) (by omega) 1
                  rw [HRB.out] at hset
                  have HBs := Lib.hid hset
                  have HOs : Hid (Only wW ((w6).setCell ⟨wq.heap.size + 1, m, none⟩ (.int .i64 1)) (fun c => c = wq.heap.size + 1)) := Lib.hid ((HOn.out.trans (Only.of_below HBc.out (fun _ => False)) (fun _ _ h => h.elim)).setCell (.inl rfl) _)
                  have HXs : Hid (Cells ((w6).setCell ⟨wq.heap.size + 1, m, none⟩ (.int .i64 1)) wq.heap.size 29 (accCells x (.slice Ar x.reads.length cr) (.slice Aw x.writes.length cw))) := Lib.hid ((HXm.out.kept (HBc.out.block _ (by omega))).kept (Below.heap_setCell _ _ _ _ (by show wq.heap.size ≠ wq.heap.size + 1; omega)))
                  have HYs : Hid (Cells ((w6).setCell ⟨wq.heap.size + 1, m, none⟩ (.int .i64 1)) wr.heap.size 29 (accCells y (.slice Br y.reads.length dr) (.slice Bw y.writes.length dw))) := Lib.hid (HYc.out.kept (Below.heap_setCell _ _ _ _ (by show wr.heap.size ≠ wq.heap.size + 1; omega)))
                  have HSs : Hid (SetAt Try.prog 3 4 ((w6).setCell ⟨wq.heap.size + 1, m, none⟩ (.int .i64 1)) sr x.reads) := Lib.hid ((HSrm.out.kept (HBc.out.block _ (by omega))).kept (Below.heap_setCell _ _ _ _ (by show sr ≠ wq.heap.size + 1; omega)))
                  have HIs : Hid (Ints ((w6).setCell ⟨wq.heap.size + 1, m, none⟩ (.int .i64 1)) (.slice Bw y.writes.length dw) y.writes) := Lib.hid (HIw.out.below ((HBu'.out.below.trans (HBc.out.mono HBu'.out.below.size)).setCell (by show w.heap.size ≤ wq.heap.size + 1; omega) _))
                  have H0 : Hid (∀ i j, ¬ (i = k ∧ j = m) → updB B' k m 1 i j = B' i j) := Lib.hid (fun i j h => by unfold updB; rw [if_neg h])
                  have H1 : Hid (updB B' k m 1 k m = 1) := Lib.hid (by simp [updB])
                  clear hset
                  go_wp2_with fail
                  go_roundw
                  case rel => exact ⟨m + 1, _, by go_num, by omega, HOs.out, HBs.out, Lib.hid (bits_step HB1.out HB2.out H0.out (H1.out.trans (bits_val HPl.out (HAf.out (by omega))).symm)).1, Lib.hid (bits_step HB1.out HB2.out H0.out (H1.out.trans (bits_val HPl.out (HAf.out (by omega))).symm)).2⟩
                  case measure => simp [intOf]; omega
              · have HPl := Lib.hid (show plainB hs k m = false from HPn.out (fun h => absurd h (by omega)) (fun h => absurd h (by omega)))
                have HBs := Lib.hid (HBu'.out.keep HBc.out)
                have HOs : Hid (Only wW (wr.alloc (.cells #[.int .i64 y.mode, .int .i64 y.snap, .bool true, .int .i64 y.stamp, .slice Br y.reads.length dr, .slice Bw y.writes.length dw] 29)) (fun c => c = wq.heap.size + 1)) := Lib.hid (HOn.out.trans (Only.of_below HBc.out (fun _ => False)) (fun _ _ h => h.elim))
                have HXs := Lib.hid (HXm.out.kept (HBc.out.block _ (by omega)))
                have HYs := Lib.hid HYc.out
                have HSs := Lib.hid (HSrm.out.kept (HBc.out.block _ (by omega)))
                have HIs := Lib.hid (HIw.out.below (HBu'.out.below.trans (HBc.out.mono HBu'.out.below.size)))
                have H1 : Hid (B' k m = 0) := Lib.hid (by rw [HB2.out m hlm, if_neg (by omega)])
                go_wp2_with fail
                go_roundw
                case rel => exact ⟨m + 1, _, by go_num, by omega, HOs.out, HBs.out, Lib.hid (bits_step HB1.out HB2.out (fun _ _ _ => rfl) (H1.out.trans (bits_val HPl.out (HAf.out (by omega))).symm)).1, Lib.hid (bits_step HB1.out HB2.out (fun _ _ _ => rfl) (H1.out.trans (bits_val HPl.out (HAf.out (by omega))).symm)).2⟩
                case measure => simp [intOf]; omega
        · obtain rfl : m = hs.length := by omega
          go_wp2_with fail
          go_roundw
          case rel => exact ⟨k + 1, _, B', by go_num, by omega, HBu'.out, Lib.hid (fun i j hi hj => by
            by_cases e : i = k
            · subst e; rw [HB2.out j hj, if_pos hj]
            · exact HB1.out i j (by omega) hj)⟩
          case measure => simp [intOf]; omega
    · obtain rfl : k = hs.length := by omega
      go_wp2_with fail
      go_ret
      exact ⟨by unfold IsGraph; rw [if_pos HV.out]; exact ⟨_, rfl, HBu.out.graph HBits.out, HBu.out.g_ge⟩, HBu.out.below⟩
end Go.Proofs.Ytlfpkikmofgjfaa
