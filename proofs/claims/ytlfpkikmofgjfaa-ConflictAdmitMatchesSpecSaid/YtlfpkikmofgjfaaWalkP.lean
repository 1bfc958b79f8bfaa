/- The walk of Admit. -/
import Derived.Test.YtlfpkikmofgjfaaWalkO
namespace Go.Proofs.Ytlfpkikmofgjfaa
open Go.RowKit

/-- The last stamp or snapshot among the first. -/
def lastTo (hs : List Acc) (k : Nat) : Int := lastL (hs.take k)
theorem lastTo_succ {hs : List Acc} {k : Nat} (hk : k < hs.length) : lastTo hs (k + 1) = max (max (lastTo hs k) (tx hs k).stamp) (tx hs k).snap := by
  unfold lastTo lastL
  rw [List.take_add_one, List.getElem?_eq_getElem hk, List.foldl_append, tx_of hk]
  rfl
theorem lastTo_all (hs : List Acc) : lastTo hs hs.length = lastL hs := by unfold lastTo; rw [List.take_length]
theorem max3_if (L a b : Int) : (if (if L < a then a else L) < b then b else if L < a then a else L) = max (max L a) b := by
  simp only [Int.max_def]
  split <;> split <;> split <;> (try split) <;> omega
/-- Somebody among the first has written an item of i after its snapshot. -/
def loseB (hs : List Acc) (i k : Nat) : Bool := (tx hs k).done && meet (tx hs i).writes (tx hs k).writes && decide ((tx hs i).snap < (tx hs k).stamp)
def losesTo (hs : List Acc) (i k : Nat) : Bool := anyUpto k (loseB hs i)
theorem losesTo_succ (hs : List Acc) (i k : Nat) : losesTo hs i (k + 1) = (losesTo hs i k || loseB hs i k) := by
  unfold losesTo anyUpto
  rw [List.range_succ, List.any_append]
  simp
theorem losesTo_all (hs : List Acc) (i : Nat) : losesTo hs i hs.length = losesB hs i := rfl
theorem loseB_writer (hs : List Acc) (i k : Nat) : loseB hs i k = ((tx hs k).writer && decide ((tx hs i).snap < (tx hs k).stamp) && meet (tx hs i).writes (tx hs k).writes) := by
  unfold loseB Acc.writer
  by_cases h : (tx hs k).writes = []
  · have : meet (tx hs i).writes (tx hs k).writes = false := by
      rw [← Bool.not_eq_true, meet_iff]
      rintro ⟨x, h1, h2⟩
      rw [h] at h2
      cases h2
    rw [this]
    simp
  · have : (tx hs k).writes.isEmpty = false := by simpa using h
    rw [this]
    cases (tx hs k).done <;> cases meet (tx hs i).writes (tx hs k).writes <;> simp
theorem Cloned.drew {W w1 : World} {hs : List Acc} {gb cap : Nat} {fr fw : Nat → Value} (c : Cloned W w1 hs gb cap fr fw) : Cloned W w1.drew hs gb cap fr fw :=
  ⟨c.below.drew, c.new, c.lt, c.len, c.cap, c.reads, c.cells, c.frozen⟩
/-- What Admit answers when only the structures are left to ask. -/
theorem admit_last {hs : List Acc} {q : Nat} (hv : checkL hs = 0) (hq : q < hs.length) (hd : (tx hs q).done = false) (hle : stampL hs q ≤ 1073741824) (hlo : losesB hs q = false) :
    admitL hs q = if (tx hs q).mode = 1 ∧ hurtsB (withL hs q (stampL hs q)) q = true then (0, 272) else (stampL hs q, 0) := by
  unfold admitL
  rw [if_neg (by simp [hv]), if_neg (by rw [Int.toNat_natCast, hd]; simp; omega), Int.toNat_natCast, if_neg (by omega), if_neg (by rw [hlo]; simp)]
/-- The loop of Admit over the others. -/
def AdmSt (w1 : World) (hs : List Acc) (q xb sb : Nat) (x : Acc) (cs : Array Value) (m wins i : Value) (wr : World) : Prop :=
  ∃ k : Nat, i = .int .i64 k ∧ k ≤ hs.length ∧ m = .int .i64 (lastTo hs k) ∧ wins = .bool (!losesTo hs q k) ∧ Cells wr xb 29 cs ∧ SetAt Try.prog 3 4 wr sb x.writes ∧ Below w1.heap.size w1 wr
set_option maxRecDepth 100000 in
set_option maxHeartbeats 4000000 in
theorem admit_any {w : World} {v : Value} {hs : List Acc} {i : Int} (k : Hist w v hs) (hi64 : W64 i) :
    Calls Try.prog 38 #[v, .int .i64 i] w fun e w' => e = .returned (.tuple #[.int .i64 (admitL hs i).1, .int .i64 (admitL hs i).2]) ∧ Below w.heap.size w w' := by
  have HW := Lib.hid ((Below.refl w.heap.size w).alloc (Nat.le_refl _) (.cells #[.int .i64 i] 3))
  have HK := Lib.hid (k.alloc (.cells #[.int .i64 i] 3))
  have b1 : (w.alloc (.cells #[.int .i64 i] 3)).cell? ⟨w.heap.size, 0, none⟩ = some (.int .i64 i) := (Cells.made w 3 #[.int .i64 i]).cell 0
  have hsz0 : (w.alloc (.cells #[.int .i64 i] 3)).heap.size = w.heap.size + 1 := by simp
  have HCk := Lib.hid (check_any HK.out)
  obtain ⟨A, c, rfl, hm, hcap, hc⟩ := k.shape
  have HC := Lib.hid hc
  clear k hc
  by_cases hv : checkL hs = 0
  case' neg =>
    have HR := Lib.hid (show admitL hs i = (0, checkL hs) by unfold admitL; rw [if_pos hv])
    have hvb : (checkL hs != 0) = true := by simp [hv]
    clear hv
    go_enter Try.func38, Try.ntmps38
    go_wp2_with fail
    refine HCk.out.mono ?_
    rintro e w1 ⟨rfl, hb⟩
    rw [hsz0] at hb
    have HB := Lib.hid (HW.out.trans (hb.mono (by omega)))
    clear hb
    go_wp2_with fail
    refine bodyPost_ret (v := .tuple #[.int .i64 0, .int .i64 (checkL hs)]) (by simp [results, Try.results38, go_sem]) rfl ⟨by rw [HR.out], HB.out⟩
  have HV := Lib.hid hv
  have HVal := Lib.hid (checkL_zero.1 hv)
  rw [hv] at HCk
  clear hv
  by_cases hr : 0 ≤ i ∧ i < hs.length
  case' neg =>
    have HR := Lib.hid (show admitL hs i = (0, 1) by
      unfold admitL
      rw [if_neg (by simp [HV.out]), if_pos]
      omega)
    have hr2 : i < 0 ∨ (¬ i < 0 ∧ (hs.length : Int) ≤ i) := by omega
    clear hr
    go_enter Try.func38, Try.ntmps38
    go_wp2_with fail
    refine HCk.out.mono ?_
    rintro e w1 ⟨rfl, hb⟩
    have c1 : w1.cell? ⟨w.heap.size, 0, none⟩ = some (.int .i64 i) := (hb.cell (p := ⟨w.heap.size, 0, none⟩) (by rw [hsz0]; simp)).trans b1
    rw [hsz0] at hb
    have HB := Lib.hid (HW.out.trans (hb.mono (by omega)))
    clear hb
    rcases hr2 with hr2 | ⟨hr2, hr3⟩
    · go_wp2_with fail
      refine bodyPost_ret (v := .tuple #[.int .i64 0, .int .i64 1]) (by simp [results, Try.results38, go_sem]) rfl ⟨by rw [HR.out], HB.out⟩
    · go_wp2_with fail
      refine bodyPost_ret (v := .tuple #[.int .i64 0, .int .i64 1]) (by simp [results, Try.results38, go_sem]) rfl ⟨by rw [HR.out], HB.out⟩
  obtain ⟨hi0, hi1⟩ := hr
  obtain ⟨q, rfl⟩ : ∃ q : Nat, i = q := ⟨i.toNat, by omega⟩
  have hq : q < hs.length := by omega
  obtain ⟨b, o, vr, vw, rfl, ha⟩ := HC.out q hq
  obtain ⟨Ar, cr, rfl, hrm⟩ := ha.rd.r.shape
  obtain ⟨Aw, cw, rfl, hwm⟩ := ha.rd.w.shape
  obtain ⟨x, hx⟩ : ∃ x, x = tx hs q := ⟨_, rfl⟩
  rw [← hx] at ha hrm hwm
  have HX := Lib.hid hx
  have HA := Lib.hid ha
  have hbl := ha.lt
  clear hx ha hi0 hi1
  cases hd : x.done
  case' true =>
    have HR := Lib.hid (show admitL hs q = (0, 1) by
      unfold admitL
      rw [if_neg (by simp [HV.out]), if_pos]
      exact .inr (.inr (by rw [Int.toNat_natCast, ← HX.out]; exact hd)))
    go_enter Try.func38, Try.ntmps38
    go_wp2_with fail
    refine HCk.out.mono ?_
    rintro e w1 ⟨rfl, hb⟩
    have c1 : w1.cell? ⟨w.heap.size, 0, none⟩ = some (.int .i64 q) := (hb.cell (p := ⟨w.heap.size, 0, none⟩) (by rw [hsz0]; simp)).trans b1
    rw [hsz0] at hb
    have HB := Lib.hid (HW.out.trans (hb.mono (by omega)))
    clear hb
    have c2 := (HA.out.below HB.out).c2
    rw [hd] at c2
    go_wp2_with fail
    refine bodyPost_ret (v := .tuple #[.int .i64 0, .int .i64 1]) (by simp [results, Try.results38, go_sem]) rfl ⟨by rw [HR.out], HB.out⟩
  by_cases hw0 : x.writes = []
  · have HSt := Lib.hid (show stampL hs q = 0 by unfold stampL; rw [← HX.out, if_pos hw0])
    have HLo := Lib.hid (show losesB hs q = false by
      unfold losesB
      rw [anyUpto_not]
      intro k hk
      have : meet (tx hs q).writes (tx hs k).writes = false := by
        rw [← Bool.not_eq_true, meet_iff]
        rintro ⟨y, h1, h2⟩
        rw [← HX.out, hw0] at h1
        cases h1
      rw [this]
      simp)
    have hwl : x.writes.length = 0 := by rw [hw0]; rfl
    clear hw0
    go_enter Try.func38, Try.ntmps38
    go_wp2_with fail
    refine HCk.out.mono ?_
    rintro e w1 ⟨rfl, hb⟩
    have c1 : w1.cell? ⟨w.heap.size, 0, none⟩ = some (.int .i64 q) := (hb.cell (p := ⟨w.heap.size, 0, none⟩) (by rw [hsz0]; simp)).trans b1
    have hz1 := hb.size
    rw [hsz0] at hb hz1
    have HB := Lib.hid (HW.out.trans (hb.mono (by omega)))
    have hbx := Lib.hid (show Below (w.alloc (.cells #[.int .i64 (q : Int)] 3)).heap.size (w.alloc (.cells #[.int .i64 (q : Int)] 3)) w1 by rw [hsz0]; exact hb)
    clear hb
    obtain ⟨lt, _, c0, e1, e2, e3, e4, e5⟩ := HA.out.below HB.out
    rw [hd] at e2
    rw [hwl] at e5
    have l1 : w.heap.size < w1.heap.size := by omega
    have HLe := Lib.hid (show stampL hs q ≤ 1073741824 by rw [HSt.out]; omega)
    have HBa := Lib.hid (fun o => HB.out.alloc (show w.heap.size ≤ w1.heap.size by omega) o)
    have HKa := Lib.hid (fun o => (HK.out.below (hbx.out)).alloc o)
    by_cases hmo : x.mode = 1
    · rw [hmo] at c0
      have HSw : Hid (W64 0) := Lib.hid rfl
      have HBt := Lib.hid (HBa.out (.cells #[.int .i64 1, .int .i64 x.snap, .bool false, .int .i64 x.stamp, .slice Ar x.reads.length cr, .slice Aw 0 cw] 29))
      have HKt := Lib.hid (HKa.out (.cells #[.int .i64 1, .int .i64 x.snap, .bool false, .int .i64 x.stamp, .slice Ar x.reads.length cr, .slice Aw 0 cw] 29))
      have c1t := (World.cell?_alloc_lt w1 (.cells #[.int .i64 1, .int .i64 x.snap, .bool false, .int .i64 x.stamp, .slice Ar x.reads.length cr, .slice Aw 0 cw] 29) ⟨w.heap.size, 0, none⟩ l1).trans c1
      have ltw : w.heap.size < (w1.alloc (.cells #[.int .i64 1, .int .i64 x.snap, .bool false, .int .i64 x.stamp, .slice Ar x.reads.length cr, .slice Aw 0 cw] 29)).heap.size := by simp; omega
      go_wp2_with fail
      refine (clone_any HKt.out (by omega) HVal.out.len).mono ?_
      rintro e w3 ⟨gb, cap, fr, fw, rfl, hcl⟩
      have HCl := Lib.hid hcl
      have t1 : w3.cell? ⟨w.heap.size, 0, none⟩ = some (.int .i64 q) := by
        rw [hcl.below.cell (p := ⟨w.heap.size, 0, none⟩) ltw]
        exact c1t
      have f2 : w3.cell? ⟨gb, q * 6 + 2, none⟩ = some (.bool x.done) := by rw [hcl.cells q 2 hq (by omega), ← HX.out]; rfl
      have f3 : w3.cell? ⟨gb, q * 6 + 3, none⟩ = some (.int .i64 x.stamp) := by rw [hcl.cells q 3 hq (by omega), ← HX.out]; rfl
      have g2 := hcl.frozen (q * 6 + 2)
      have g3 := hcl.frozen (q * 6 + 3)
      have gne : gb ≠ w.heap.size := by have := hcl.new; omega
      clear hcl
      go_wp2_with fail
      go_region
      have HC2 := Lib.hid (HCl.out.set hq (s := (0 : Int)) HSw.out (.inl rfl)).drew
      have HVw := Lib.hid (show Valid (withL hs q (0 : Int)) by rw [← HSt.out]; exact HVal.out.commit hq HLe.out HLo.out)
      have hv4 := Lib.hid (checkL_zero.2 HVw.out)
      have HLw := Lib.hid (withL_length hs q (0 : Int))
      have HHurt := Lib.hid (structQ_hurts (withL hs q (0 : Int)) q)
      have HAd := Lib.hid (admit_last HV.out hq (by rw [← HX.out]; exact hd) HLe.out HLo.out)
      rw [← HX.out, HSt.out] at HAd
      have hH4 := HC2.out.hist
      rw [HLw.out] at hH4
      have HH4 := Lib.hid hH4
      have HG4 := Lib.hid (graph_any hH4)
      have HB4 := Lib.hid (HBt.out.trans (HC2.out.below.mono HBt.out.size))
      have t4 : (((w3.setCell ⟨gb, q * 6 + 2, none⟩ (.bool true)).setCell ⟨gb, q * 6 + 3, none⟩ (.int .i64 (0 : Int))).drew).cell? ⟨w.heap.size, 0, none⟩ = some (.int .i64 q) := by
        rw [HC2.out.below.cell (p := ⟨w.heap.size, 0, none⟩) ltw]
        exact c1t
      clear hH4 HCl t1 f2 f3 g2 g3
      go_wp2_with fail
      refine HG4.out.mono ?_
      rintro e w5 ⟨hg, hb5⟩
      unfold IsGraph at hg
      rw [if_pos hv4.out] at hg
      obtain ⟨g4, rfl, hgr, hge⟩ := hg
      have HGr := Lib.hid hgr
      have HH5 := Lib.hid (HH4.out.below hb5)
      have hz4 := HB4.out.size
      have hz5 := hb5.size
      have hl4 : w.heap.size < (((w3.setCell ⟨gb, q * 6 + 2, none⟩ (.bool true)).setCell ⟨gb, q * 6 + 3, none⟩ (.int .i64 (0 : Int))).drew).heap.size := Nat.lt_of_lt_of_le ltw HC2.out.below.size
      have t5 : w5.cell? ⟨w.heap.size, 0, none⟩ = some (.int .i64 q) := (hb5.cell (p := ⟨w.heap.size, 0, none⟩) hl4).trans t4
      have hl5 : w.heap.size < w5.heap.size := Nat.lt_of_lt_of_le hl4 hz5
      have HB5 := Lib.hid (HB4.out.trans (hb5.mono hz4))
      clear hgr hb5 hge hz4 hz5 hl4 t4
      go_wp2_with fail
      refine (structure_at q hl5 t5 HGr.out HH5.out HVw.out).mono ?_
      rintro e w6 ⟨rfl, hb6⟩
      have HB6 := Lib.hid (HB5.out.trans (hb6.mono (by omega)))
      clear hb6
      cases htr : tripleOf (withL hs q (0 : Int)).length (structQ (withL hs q (0 : Int)) q) with
      | none =>
        have HR := Lib.hid (show admitL hs q = ((0 : Int), 0) by
          rw [HAd.out, if_neg]
          rintro ⟨_, h⟩
          rw [← HHurt.out, htr] at h
          cases h)
        clear htr
        unfold tripleV
        go_wp2_with fail
        refine bodyPost_ret (v := .tuple #[.int .i64 (0 : Int), .int .i64 0]) (by simp [results, Try.results38, go_sem]) rfl ⟨by rw [HR.out], HB6.out.alloc (by have := HB6.out.size; omega) _⟩
      | some p =>
        obtain ⟨a, b', c'⟩ := p
        have HR := Lib.hid (show admitL hs q = (0, 272) by
          rw [HAd.out, if_pos]
          exact ⟨hmo, by rw [← HHurt.out, htr]; rfl⟩)
        clear htr
        unfold tripleV
        go_wp2_with fail
        refine bodyPost_ret (v := .tuple #[.int .i64 0, .int .i64 272]) (by simp [results, Try.results38, go_sem]) rfl ⟨by rw [HR.out], HB6.out.alloc (by have := HB6.out.size; omega) _⟩
    · have HR := Lib.hid (show admitL hs q = (0, 0) by
        unfold admitL
        rw [if_neg (by simp [HV.out]), if_neg (by rw [Int.toNat_natCast, ← HX.out, hd]; simp; omega), Int.toNat_natCast, if_neg (by have := HLe.out; omega), if_neg (by rw [HLo.out]; simp), if_neg (by rw [← HX.out]; exact fun h => hmo h.1), HSt.out])
      have hmb : (x.mode == 1) = false := by simpa using hmo
      clear hmo
      go_wp2_with fail
      refine bodyPost_ret (v := .tuple #[.int .i64 0, .int .i64 0]) (by simp [results, Try.results38, go_sem]) rfl ⟨by rw [HR.out], HBa.out _⟩
  · have hwl : 0 < x.writes.length := List.length_pos_iff.2 hw0
    have HStq := Lib.hid (show stampL hs q = lastL hs + 1 by unfold stampL; rw [← HX.out, if_neg hw0])
    have HNd : Hid (x.writes.Nodup ∧ x.writes.length ≤ 1000000) := Lib.hid (by
      have f := HVal.out.at hq
      have i := HVal.out.items q hq
      rw [← HX.out] at f i
      exact ⟨nodup_of_rising f.writes, by omega⟩)
    have HBd : Hid (∀ k, k < hs.length → -1000000000 ≤ (tx hs k).stamp ∧ (tx hs k).stamp ≤ 1073741824 ∧ -1000000000 ≤ (tx hs k).snap ∧ (tx hs k).snap ≤ 1073741824) := Lib.hid (fun k hk => by
      have f := HVal.out.at hk
      have h1 := f.stamp_nn
      have h3 := f.snap
      cases hw : (tx hs k).writer with
      | true =>
        have := f.writer hw
        omega
      | false =>
        have := f.other hw
        omega)
    clear hw0
    go_enter Try.func38, Try.ntmps38
    go_wp2_with fail
    refine HCk.out.mono ?_
    rintro e w1 ⟨rfl, hb⟩
    have c1 : w1.cell? ⟨w.heap.size, 0, none⟩ = some (.int .i64 q) := (hb.cell (p := ⟨w.heap.size, 0, none⟩) (by rw [hsz0]; simp)).trans b1
    have hz1 := hb.size
    have HK1 := Lib.hid (HK.out.below hb)
    rw [hsz0] at hb hz1
    have HB := Lib.hid (HW.out.trans (hb.mono (by omega)))
    clear hb
    obtain ⟨lt, hrd, c0, e1, e2, e3, e4, e5⟩ := HA.out.below HB.out
    have HRd := Lib.hid hrd
    rw [hd] at e2
    have l1 : w.heap.size < w1.heap.size := by omega
    have hXc := Cells.made w1 29 (accCells x (.slice Ar x.reads.length cr) (.slice Aw x.writes.length cw))
    unfold accCells at hXc
    rw [hd] at hXc
    have HXc := Lib.hid hXc
    clear hrd hXc
    go_wp2_with fail
    refine (of_any (HRd.out.w.alloc _) HNd.out.1 HNd.out.2).mono ?_
    rintro e w2 ⟨sb, rfl, hsb, hset, hb2⟩
    have HB2 := Lib.hid (((Below.refl w1.heap.size w1).alloc (Nat.le_refl _) _).trans (hb2.mono (by simp)))
    have hX2 := Lib.hid (HXc.out.kept (hb2.block _ HXc.out.lt))
    have HSet2 := Lib.hid hset
    clear hset hb2 hsb
    go_wp2_with fail
    go_loopw [7, 10, 49] (fun m wins i wr => AdmSt w1 hs q w1.heap.size sb x #[.int .i64 x.mode, .int .i64 x.snap, .bool false, .int .i64 x.stamp, .slice Ar x.reads.length cr, .slice Aw x.writes.length cw] m wins i wr) (fun _ _ i _ => hs.length - (intOf i).toNat)
    case atStart => exact ⟨0, rfl, by omega, rfl, rfl, hX2.out, HSet2.out, HB2.out⟩
    case round =>
      obtain ⟨k, rfl, hk, rfl, rfl, hxc, hst, hB1⟩ := hrel
      clear HB2 hX2 HSet2
      have HB1 := Lib.hid hB1
      have HSet := Lib.hid hst
      have HXr := Lib.hid hxc
      have hsz := hB1.size
      have hxl := hxc.lt
      have x1 : wr.cell? ⟨w1.heap.size, 1, none⟩ = some (.int .i64 x.snap) := hxc.cell 1
      clear hB1 hst hxc
      by_cases hlk : k < hs.length
      · obtain ⟨b', o', ur, uw, e', ha⟩ := HC.out k hlk
        injection e' with e'
        injection e' with e1' e2'
        subst e1' e2'
        obtain ⟨Br, dr, rfl, hsm⟩ := ha.rd.r.shape
        obtain ⟨Bw, dw, rfl, hxm⟩ := ha.rd.w.shape
        obtain ⟨lt', hrd', d0, d1, d2, d3, d4, d5⟩ := ha.below (HB.out.trans (HB1.out.mono HB.out.size))
        have HRy := Lib.hid hrd'
        have hbd := HBd.out k hlk
        have HLt := Lib.hid (lastTo_succ hlk)
        have HLs := Lib.hid (losesTo_succ hs q k)
        have HLw := Lib.hid (loseB_writer hs q k)
        rw [← HX.out] at HLw
        obtain ⟨y, hy⟩ : ∃ y, y = tx hs k := ⟨_, rfl⟩
        rw [← hy] at d0 d1 d2 d3 d4 d5 HRy hbd HLt HLw hsm hxm
        clear hrd' ha hy
        generalize lastTo hs k = L at *
        obtain ⟨M, hM⟩ : ∃ M, (if (if L < y.stamp then y.stamp else L) < y.snap then y.snap else if L < y.stamp then y.stamp else L) = M := ⟨_, rfl⟩
        have HM : Hid (lastTo hs (k + 1) = M) := Lib.hid (by rw [HLt.out, ← hM, max3_if])
        cases hlo : losesTo hs q k with
        | true =>
          rw [hlo] at HLs
          clear hlo
          go_wp2_with fail
          go_roundw
          case rel => exact ⟨k + 1, by go_num, by omega, by rw [HM.out], by rw [HLs.out]; rfl, HXr.out.kept (Below.heap_alloc _ _ _ HXr.out.lt), HSet.out.kept (Below.heap_alloc _ _ _ HSet.out.lt), HB1.out.alloc hsz _⟩
          case measure => simp [intOf]; omega
        | false =>
          rw [hlo] at HLs
          clear hlo
          go_wp2_with fail
          refine (writes_any (HRy.out.below ((Below.refl _ _).alloc (Nat.le_refl _) _))).mono ?_
          rintro e w3 ⟨rfl, hb3⟩
          have hY := Cells.made wr 29 #[.int .i64 y.mode, .int .i64 y.snap, .bool y.done, .int .i64 y.stamp, .slice Br y.reads.length dr, .slice Bw y.writes.length dw]
          have hY3 := hY.kept (hb3.block _ hY.lt)
          have y3 : w3.cell? ⟨wr.heap.size, 3, none⟩ = some (.int .i64 y.stamp) := hY3.cell 3
          have y5 : w3.cell? ⟨wr.heap.size, 5, none⟩ = some (.slice Bw y.writes.length dw) := hY3.cell 5
          have HX3 := Lib.hid ((HXr.out.kept (Below.heap_alloc wr (.cells #[.int .i64 y.mode, .int .i64 y.snap, .bool y.done, .int .i64 y.stamp, .slice Br y.reads.length dr, .slice Bw y.writes.length dw] 29) _ HXr.out.lt)).kept (hb3.block _ (by simp; omega)))
          have x3 : w3.cell? ⟨w1.heap.size, 1, none⟩ = some (.int .i64 x.snap) := HX3.out.cell 1
          have HSet3 := Lib.hid ((HSet.out.kept (Below.heap_alloc wr (.cells #[.int .i64 y.mode, .int .i64 y.snap, .bool y.done, .int .i64 y.stamp, .slice Br y.reads.length dr, .slice Bw y.writes.length dw] 29) _ HSet.out.lt)).kept (hb3.block _ (by have := HSet.out.lt; simp; omega)))
          have hs3 := hb3.size
          simp only [World.size_alloc] at hs3
          have HB3 := Lib.hid ((HB1.out.alloc hsz _).trans (hb3.mono (by simp; omega)))
          have HRy3 := Lib.hid ((HRy.out.below ((Below.refl _ _).alloc (Nat.le_refl _) _)).below hb3)
          clear hb3 hY hY3 d0 d1 d2 d3 d4 d5
          cases hw : y.writer with
          | false =>
            rw [hw] at HLw
            have HL2 : Hid (losesTo hs q (k + 1) = false) := Lib.hid (by rw [HLs.out, HLw.out]; rfl)
            clear hw
            go_wp2_with fail
            go_roundw
            case rel => exact ⟨k + 1, by go_num, by omega, by rw [HM.out], by rw [HL2.out]; rfl, HX3.out, HSet3.out, HB3.out⟩
            case measure => simp [intOf]; omega
          | true =>
            rw [hw] at HLw
            clear hw
            by_cases hsn : x.snap < y.stamp
            · rw [decide_eq_true hsn] at HLw
              have HL2 : Hid (losesTo hs q (k + 1) = meet x.writes y.writes) := Lib.hid (by rw [HLs.out, HLw.out]; simp)
              go_wp2_with fail
              refine (meets_any HRy3.out.w HSet3.out).mono ?_
              rintro e w4 ⟨rfl, hb4⟩
              have HX4 := Lib.hid (HX3.out.kept (hb4.block _ HX3.out.lt))
              have HSet4 := Lib.hid (HSet3.out.kept (hb4.block _ HSet3.out.lt))
              have HB4 := Lib.hid (HB3.out.trans (hb4.mono HB3.out.size))
              clear hb4
              go_wp2_with fail
              go_roundw
              case rel => exact ⟨k + 1, by go_num, by omega, by rw [HM.out], by rw [HL2.out], HX4.out, HSet4.out, HB4.out⟩
              case measure => simp [intOf]; omega
            · rw [decide_eq_false hsn] at HLw
              have HL2 : Hid (losesTo hs q (k + 1) = false) := Lib.hid (by rw [HLs.out, HLw.out]; rfl)
              have hsn' : y.stamp ≤ x.snap := by omega
              go_wp2_with fail
              go_roundw
              case rel => exact ⟨k + 1, by go_num, by omega, by rw [HM.out], by rw [HL2.out]; rfl, HX3.out, HSet3.out, HB3.out⟩
              case measure => simp [intOf]; omega
      · obtain rfl : k = hs.length := by omega
        rw [lastTo_all, losesTo_all]
        have hL0 := lastL_nn hs
        have hL1 : lastL hs ≤ 1073741824 := lastL_le (by omega) (fun i hi => ⟨(HBd.out i hi).2.1, (HBd.out i hi).2.2.2⟩)
        have hc1t := (HB1.out.cell (p := ⟨w.heap.size, 0, none⟩) l1).trans c1
        have HBt := Lib.hid (HB.out.trans (HB1.out.mono HB.out.size))
        have HKt := Lib.hid (HK1.out.below HB1.out)
        have t0 := (HA.out.below HBt.out).c0
        have ltw : w.heap.size < wr.heap.size := by omega
        have HSt := HStq
        generalize lastL hs = L at hL0 hL1 HSt ⊢
        clear HStq
        by_cases hmx : 1073741824 < L + 1
        · have HR := Lib.hid (show admitL hs q = (0, 2) by
            unfold admitL
            rw [if_neg (by simp [HV.out]), if_neg (by rw [Int.toNat_natCast, ← HX.out, hd]; simp; omega), Int.toNat_natCast, if_pos (by rw [HSt.out]; exact hmx)])
          go_wp2_with fail
          refine bodyPost_ret (v := .tuple #[.int .i64 0, .int .i64 2]) (by simp [results, Try.results38, go_sem]) rfl ⟨by rw [HR.out], HBt.out⟩
        have HLe := Lib.hid (show stampL hs q ≤ 1073741824 by rw [HSt.out]; omega)
        cases hlo : losesB hs q with
        | true =>
          have HR := Lib.hid (show admitL hs q = (0, 271) by
            unfold admitL
            rw [if_neg (by simp [HV.out]), if_neg (by rw [Int.toNat_natCast, ← HX.out, hd]; simp; omega), Int.toNat_natCast, if_neg (by have := HLe.out; omega), if_pos hlo])
          clear hlo
          go_wp2_with fail
          refine bodyPost_ret (v := .tuple #[.int .i64 0, .int .i64 271]) (by simp [results, Try.results38, go_sem]) rfl ⟨by rw [HR.out], HBt.out⟩
        | false =>
          have HLo := Lib.hid hlo
          clear hlo
          have c1t : wr.cell? ⟨w.heap.size, 0, none⟩ = some (.int .i64 q) := hc1t
          clear hc1t x1
          by_cases hmo : x.mode = 1
          · rw [hmo] at t0
            have HSw : Hid (W64 (L + 1)) := Lib.hid (wfI (by omega) (by omega))
            go_wp2_with fail
            refine (clone_any HKt.out (by omega) HVal.out.len).mono ?_
            rintro e w3 ⟨gb, cap, fr, fw, rfl, hcl⟩
            have HCl := Lib.hid hcl
            have t1 : w3.cell? ⟨w.heap.size, 0, none⟩ = some (.int .i64 q) := by
              rw [hcl.below.cell (p := ⟨w.heap.size, 0, none⟩) ltw]
              exact c1t
            have f2 : w3.cell? ⟨gb, q * 6 + 2, none⟩ = some (.bool x.done) := by rw [hcl.cells q 2 hq (by omega), ← HX.out]; rfl
            have f3 : w3.cell? ⟨gb, q * 6 + 3, none⟩ = some (.int .i64 x.stamp) := by rw [hcl.cells q 3 hq (by omega), ← HX.out]; rfl
            have g2 := hcl.frozen (q * 6 + 2)
            have g3 := hcl.frozen (q * 6 + 3)
            have gne : gb ≠ w.heap.size := by have := hcl.new; omega
            clear hcl
            go_wp2_with fail
            go_region
            have HC2 := Lib.hid (HCl.out.set hq (s := (L + 1)) HSw.out (.inl rfl)).drew
            have HVw := Lib.hid (show Valid (withL hs q (L + 1)) by rw [← HSt.out]; exact HVal.out.commit hq HLe.out HLo.out)
            have hv4 := Lib.hid (checkL_zero.2 HVw.out)
            have HLw := Lib.hid (withL_length hs q (L + 1))
            have HHurt := Lib.hid (structQ_hurts (withL hs q (L + 1)) q)
            have HAd := Lib.hid (admit_last HV.out hq (by rw [← HX.out]; exact hd) HLe.out HLo.out)
            rw [← HX.out, HSt.out] at HAd
            have hH4 := HC2.out.hist
            rw [HLw.out] at hH4
            have HH4 := Lib.hid hH4
            have HG4 := Lib.hid (graph_any hH4)
            have HB4 := Lib.hid (HBt.out.trans (HC2.out.below.mono HBt.out.size))
            have t4 : (((w3.setCell ⟨gb, q * 6 + 2, none⟩ (.bool true)).setCell ⟨gb, q * 6 + 3, none⟩ (.int .i64 (L + 1))).drew).cell? ⟨w.heap.size, 0, none⟩ = some (.int .i64 q) := by
              rw [HC2.out.below.cell (p := ⟨w.heap.size, 0, none⟩) ltw]
              exact c1t
            clear hH4 HCl t1 f2 f3 g2 g3
            go_wp2_with fail
            refine HG4.out.mono ?_
            rintro e w5 ⟨hg, hb5⟩
            unfold IsGraph at hg
            rw [if_pos hv4.out] at hg
            obtain ⟨g4, rfl, hgr, hge⟩ := hg
            have HGr := Lib.hid hgr
            have HH5 := Lib.hid (HH4.out.below hb5)
            have hz4 := HB4.out.size
            have hz5 := hb5.size
            have hl4 : w.heap.size < (((w3.setCell ⟨gb, q * 6 + 2, none⟩ (.bool true)).setCell ⟨gb, q * 6 + 3, none⟩ (.int .i64 (L + 1))).drew).heap.size := Nat.lt_of_lt_of_le ltw HC2.out.below.size
            have t5 : w5.cell? ⟨w.heap.size, 0, none⟩ = some (.int .i64 q) := (hb5.cell (p := ⟨w.heap.size, 0, none⟩) hl4).trans t4
            have hl5 : w.heap.size < w5.heap.size := Nat.lt_of_lt_of_le hl4 hz5
            have HB5 := Lib.hid (HB4.out.trans (hb5.mono hz4))
            clear hgr hb5 hge hz4 hz5 hl4 t4
            go_wp2_with fail
            refine (structure_at q hl5 t5 HGr.out HH5.out HVw.out).mono ?_
            rintro e w6 ⟨rfl, hb6⟩
            have HB6 := Lib.hid (HB5.out.trans (hb6.mono (by omega)))
            clear hb6
            cases htr : tripleOf (withL hs q (L + 1)).length (structQ (withL hs q (L + 1)) q) with
            | none =>
              have HR := Lib.hid (show admitL hs q = ((L + 1), 0) by
                rw [HAd.out, if_neg]
                rintro ⟨_, h⟩
                rw [← HHurt.out, htr] at h
                cases h)
              clear htr
              unfold tripleV
              go_wp2_with fail
              refine bodyPost_ret (v := .tuple #[.int .i64 (L + 1), .int .i64 0]) (by simp [results, Try.results38, go_sem]) rfl ⟨by rw [HR.out], HB6.out.alloc (by have := HB6.out.size; omega) _⟩
            | some p =>
              obtain ⟨a, b', c'⟩ := p
              have HR := Lib.hid (show admitL hs q = (0, 272) by
                rw [HAd.out, if_pos]
                exact ⟨hmo, by rw [← HHurt.out, htr]; rfl⟩)
              clear htr
              unfold tripleV
              go_wp2_with fail
              refine bodyPost_ret (v := .tuple #[.int .i64 0, .int .i64 272]) (by simp [results, Try.results38, go_sem]) rfl ⟨by rw [HR.out], HB6.out.alloc (by have := HB6.out.size; omega) _⟩
          · have HR := Lib.hid (show admitL hs q = (L + 1, 0) by
              rw [admit_last HV.out hq (by rw [← HX.out]; exact hd) HLe.out HLo.out, if_neg (by rw [← HX.out]; exact fun h => hmo h.1), HSt.out])
            have hmb : (x.mode == 1) = false := by simpa using hmo
            clear hmo
            go_wp2_with fail
            refine bodyPost_ret (v := .tuple #[.int .i64 (L + 1), .int .i64 0]) (by simp [results, Try.results38, go_sem]) rfl ⟨by rw [HR.out], HBt.out⟩
end Go.Proofs.Ytlfpkikmofgjfaa
