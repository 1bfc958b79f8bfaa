/- The walks of dangerous, structure, Dangerous. -/
import Derived.Test.YtlfpkikmofgjfaaWalkG

namespace Go.Proofs.Ytlfpkikmofgjfaa
open Go.RowKit

theorem cell1 {w : World} {a : Addr} {u : Value} (h : w.cell? a = some u) (o : Obj) : (w.alloc o).cell? a = some u := (World.cell?_alloc_some w a o (by rw [h]; rfl)).trans h
theorem cell1d {w : World} {a : Addr} {u : Value} (h : w.cell? a = some u) (o : Obj) : (w.alloc o).drew.cell? a = some u := cell1 h o
theorem cell2 {w : World} {a : Addr} {u : Value} (h : w.cell? a = some u) (o p : Obj) : ((w.alloc o).alloc p).cell? a = some u := cell1 (cell1 h o) p
theorem cell2d {w : World} {a : Addr} {u : Value} (h : w.cell? a = some u) (o p : Obj) : ((w.alloc o).alloc p).drew.cell? a = some u := cell2 h o p
theorem cell3 {w : World} {a : Addr} {u : Value} (h : w.cell? a = some u) (o p q : Obj) : (((w.alloc o).alloc p).alloc q).cell? a = some u := cell1 (cell2 h o p) q
theorem cell3d {w : World} {a : Addr} {u : Value} (h : w.cell? a = some u) (o p q : Obj) : (((w.alloc o).alloc p).alloc q).drew.cell? a = some u := cell3 h o p q
theorem below3 (w : World) (o1 o2 o3 : Obj) : Below w.heap.size w ((((w.alloc o1).alloc o2).alloc o3).drew) := ((((Below.refl _ _).alloc (Nat.le_refl _) _).alloc (by simp) _).alloc (by simp; omega) _).drew
set_option maxRecDepth 100000 in
set_option maxHeartbeats 4000000 in
theorem dangerous_any {w : World} {g : Nat} {v : Value} {hs : List Acc} (i j k : Nat) (hi : i < hs.length) (hj : j < hs.length) (hk : k < hs.length) (hg : Graph w g v hs) (hh : Hist w v hs) (_hv : Valid hs) :
    Calls Try.prog 84 #[.pointer (some ⟨g, 0, none⟩), .int .i64 i, .int .i64 j, .int .i64 k] w fun e w' => e = .returned (.bool (structB hs i j k)) ∧ Below w.heap.size w w' := by
  obtain ⟨A, c, rfl, hm, hcap, hc⟩ := hh.shape
  obtain ⟨eb, hgc, heb, hr⟩ := hg
  obtain ⟨b, o, vr, vw, rfl, ha⟩ := hc i hi
  obtain ⟨b', o', ur, uw, e', hb⟩ := hc j hj
  injection e' with e'
  injection e' with e1 e2
  subst e1 e2
  obtain ⟨b', o', tr, tw, e', hd⟩ := hc k hk
  injection e' with e'
  injection e' with e1 e2
  subst e1 e2
  obtain ⟨rb1, p1, p2, p3⟩ := hr i hi
  obtain ⟨rb2, q1, q2, q3⟩ := hr j hj
  have hglt := hgc.lt
  have hblt := ha.lt
  have hg1 : g < w.heap.size + 1 := by omega
  have hg2 : g < w.heap.size + 2 := by omega
  have hg3 : g < w.heap.size + 1 + 1 := by omega
  have hb1 : b < w.heap.size + 1 := by omega
  have hb2 : b < w.heap.size + 2 := by omega
  have hb3 : b < w.heap.size + 1 + 1 := by omega
  have g0 : w.cell? ⟨g, 0, none⟩ = some (.slice (some ⟨b, o, none⟩) hs.length c) := hgc.cell 0
  have g1 : w.cell? ⟨g, 1, none⟩ = some (.slice (some ⟨eb, 0, none⟩) hs.length hs.length) := hgc.cell 1
  have p4 := p3 j hj
  have q4 := q3 k hk
  have hA1 := and_two' hs i j
  have hA2 := and_two' hs j k
  obtain ⟨Ar, cr, rfl, hrm⟩ := ha.rd.r.shape
  obtain ⟨Aw, cw, rfl, hwm⟩ := ha.rd.w.shape
  obtain ⟨Br, dr, rfl, hsm⟩ := hb.rd.r.shape
  obtain ⟨Bw, dw, rfl, hxm⟩ := hb.rd.w.shape
  obtain ⟨Cr, er, rfl, hym⟩ := hd.rd.r.shape
  obtain ⟨Cw, ew, rfl, hzm⟩ := hd.rd.w.shape
  have hi64 : (i : Int) < hs.length := by omega
  have HS := Lib.hid (show structB hs i j k = (antiB hs i j && antiB hs j k && decide ((tx hs k).stamp < (tx hs j).stamp) && (decide (i = k) || (if (tx hs i).writes ≠ [] then decide ((tx hs k).stamp < (tx hs i).stamp) else decide ((tx hs k).stamp ≤ (tx hs i).snap)))) from rfl)
  have HDn : Hid (antiB hs i j = true → (tx hs i).done = true) := Lib.hid (fun h => (anti_iff.1 h).di)
  have HRx := Lib.hid ha.rd
  obtain ⟨_, _, c0, c1, c2, c3, c4, c5⟩ := ha
  obtain ⟨_, _, d0, d1, d2, d3, d4, d5⟩ := hb
  obtain ⟨_, _, e0, e1, e2, e3, e4, e5⟩ := hd
  generalize hx : tx hs i = x at *
  generalize hy : tx hs j = y at *
  generalize hz : tx hs k = z at *
  have HX := Lib.hid hx
  clear hc hr p3 q3 hh hgc hx hy hz
  generalize antiB hs i j = A1 at *
  generalize antiB hs j k = A2 at *
  generalize bitsOf hs i j = x1 at *
  generalize bitsOf hs j k = x2 at *
  cases A1
  · go_enter Try.func84, Try.ntmps84
    go_wp2_with fail
    go_ret
    exact ⟨ret_bool (by rw [HS.out]; rfl), Below.refl _ _⟩
  cases A2
  · go_enter Try.func84, Try.ntmps84
    go_wp2_with fail
    go_ret
    exact ⟨ret_bool (by rw [HS.out]; rfl), Below.refl _ _⟩
  go_enter Try.func84, Try.ntmps84
  go_wp2_with fail
  go_region_held3 (fun w' => w'.cell? ⟨g, 0, none⟩ = some (.slice (some ⟨b, o, none⟩) hs.length c) ∧ w'.cell? ⟨b, o + i * 6, none⟩ = some (.int .i64 x.mode) ∧ w'.cell? ⟨b, o + i * 6 + 1, none⟩ = some (.int .i64 x.snap) ∧ w'.cell? ⟨b, o + i * 6 + 2, none⟩ = some (.bool x.done) ∧ w'.cell? ⟨b, o + i * 6 + 3, none⟩ = some (.int .i64 x.stamp) ∧ w'.cell? ⟨b, o + i * 6 + 4, none⟩ = some (.slice Ar x.reads.length cr) ∧ w'.cell? ⟨b, o + i * 6 + 5, none⟩ = some (.slice Aw x.writes.length cw) ∧ w'.cell? ⟨b, o + j * 6, none⟩ = some (.int .i64 y.mode) ∧ w'.cell? ⟨b, o + j * 6 + 1, none⟩ = some (.int .i64 y.snap) ∧ w'.cell? ⟨b, o + j * 6 + 2, none⟩ = some (.bool y.done) ∧ w'.cell? ⟨b, o + j * 6 + 3, none⟩ = some (.int .i64 y.stamp) ∧ w'.cell? ⟨b, o + j * 6 + 4, none⟩ = some (.slice Br y.reads.length dr) ∧ w'.cell? ⟨b, o + j * 6 + 5, none⟩ = some (.slice Bw y.writes.length dw) ∧ w'.cell? ⟨b, o + k * 6, none⟩ = some (.int .i64 z.mode) ∧ w'.cell? ⟨b, o + k * 6 + 1, none⟩ = some (.int .i64 z.snap) ∧ w'.cell? ⟨b, o + k * 6 + 2, none⟩ = some (.bool z.done) ∧ w'.cell? ⟨b, o + k * 6 + 3, none⟩ = some (.int .i64 z.stamp) ∧ w'.cell? ⟨b, o + k * 6 + 4, none⟩ = some (.slice Cr z.reads.length er) ∧ w'.cell? ⟨b, o + k * 6 + 5, none⟩ = some (.slice Cw z.writes.length ew)) ((simp only [World.cell?_drew]; and_intros <;> (first | (with_reducible exact cell3 (by assumption) _ _ _) | (with_reducible exact cell2 (by assumption) _ _) | (with_reducible exact cell1 (by assumption) _) | assumption))) (fail)
  all_goals
    clear c0 c1 c2 c3 c4 c5 d0 d1 d2 d3 d4 d5 e0 e1 e2 e3 e4 e5 g0 g1 p1 p4 q1 q4 hA1 hA2 hg1 hg2 hg3 hb1 hb2 hb3
    by_cases t1 : y.stamp ≤ z.stamp
    · have HF := Lib.hid (show structB hs i j k = false by rw [HS.out, decide_eq_false (by omega)]; rfl)
      go_wp2_with fail
      go_ret
      exact ⟨ret_bool HF.out.symm, below3 _ _ _ _⟩
    by_cases t2 : i = k
    · have t2b : ((i : Int) == k) = true := beq_iff_eq.2 (by omega)
      have HF := Lib.hid (show structB hs i j k = true by rw [HS.out, decide_eq_true t2, decide_eq_true (by omega)]; rfl)
      clear t2
      go_wp2_with fail
      go_ret
      exact ⟨ret_bool HF.out.symm, below3 _ _ _ _⟩
    have t2b : ((i : Int) == k) = false := beq_eq_false_iff_ne.2 (by omega)
    have HS2 := Lib.hid (show structB hs i j k = (if x.writes ≠ [] then decide (z.stamp < x.stamp) else decide (z.stamp ≤ x.snap)) by rw [HS.out, decide_eq_false t2, decide_eq_true (by omega)]; rfl)
    go_wp2_with fail
    refine (writes_any (HRx.out.below (below3 _ _ _ _))).mono ?_
    obtain ⟨bx, hbx⟩ : ∃ bx, bx = x.writer := ⟨_, rfl⟩
    rw [← hbx]
    have HX5 := Lib.hid hbx
    rintro e w5 ⟨rfl, hb5⟩
    obtain ⟨hc5, hf5⟩ := bcell hb5
    have HB5 := Lib.hid ((below3 _ _ _ _).trans (hb5.mono (below3 _ _ _ _).size))
    have hz5 : w.heap.size + 3 ≤ w5.heap.size := by
      have h1 := hb5.size
      simp at h1
      omega
    have hy0 : w.heap.size < w5.heap.size := by omega
    have hy1 : w.heap.size + 1 < w5.heap.size := by omega
    have hy2 : w.heap.size + 1 + 1 < w5.heap.size := by omega
    clear hb5 hbx
    cases bx
    · have HF := Lib.hid (show structB hs i j k = decide (z.stamp ≤ x.snap) by
        rw [HS2.out, if_neg]
        intro hw
        have := Acc.writer_iff.2 ⟨HDn.out trivial, hw⟩
        rw [← HX5.out] at this
        cases this)
      go_wp2_with fail
      refine (writes_any (HRx.out.below HB5.out)).mono ?_
      rw [← HX5.out]
      rintro e w6 ⟨rfl, hb6⟩
      obtain ⟨hc6, hf6⟩ := bcell hb6
      have hz6 : w.heap.size + 3 ≤ w6.heap.size := by have := hb6.size; omega
      have HB6 := Lib.hid (HB5.out.trans (hb6.mono HB5.out.size))
      clear hb6
      go_wp2_with fail
      go_ret
      exact ⟨ret_bool HF.out.symm, HB6.out⟩
    · have HF := Lib.hid (show structB hs i j k = decide (z.stamp < x.stamp) by rw [HS2.out, if_pos (Acc.writer_iff.1 HX5.out.symm).2])
      by_cases t3 : z.stamp < x.stamp
      · rw [decide_eq_true t3] at HF
        go_wp2_with fail
        go_ret
        exact ⟨ret_bool HF.out.symm, HB5.out⟩
      · rw [decide_eq_false t3] at HF
        go_wp2_with fail
        refine (writes_any (HRx.out.below HB5.out)).mono ?_
        rw [← HX5.out]
        rintro e w6 ⟨rfl, hb6⟩
        obtain ⟨hc6, hf6⟩ := bcell hb6
        have hz6 : w.heap.size + 3 ≤ w6.heap.size := by have := hb6.size; omega
        have HB6 := Lib.hid (HB5.out.trans (hb6.mono HB5.out.size))
        clear hb6
        go_wp2_with fail
        go_ret
        exact ⟨ret_bool (by rw [HF.out]; exact decide_eq_false (by omega)), HB6.out⟩
end Go.Proofs.Ytlfpkikmofgjfaa
