/- The walks of writes, writer, concurrent, formed: of a transaction by value. -/
import Derived.Test.YtlfpkikmofgjfaaWalkA
namespace Go.Proofs.Ytlfpkikmofgjfaa
open Go.RowKit

/-- A transaction by value. -/
def accV (x : Acc) (vr vw : Value) : Value := .agg #[.int .i64 x.mode, .int .i64 x.snap, .bool x.done, .int .i64 x.stamp, vr, vw]
theorem Ints.shape {w : World} {v : Value} {xs : List Int} (h : Ints w v xs) : ∃ A c, v = .slice A xs.length c ∧ xs.length ≤ 9223372036854775807 := by
  obtain ⟨_, A, c, e, hm, _, _⟩ := h
  exact ⟨A, c, e, hm⟩
theorem isEmpty_dec (l : List Int) : (!l.isEmpty) = decide (0 < l.length) := by cases l <;> simp
set_option maxHeartbeats 1000000 in
theorem writes_any {w : World} {x : Acc} {vr vw : Value} (h : Reads w x vr vw) :
    Calls Try.prog 45 #[accV x vr vw] w fun e w' => e = .returned (.bool x.writer) ∧ Below w.heap.size w w' := by
  obtain ⟨Aw, cw, rfl, hm⟩ := h.w.shape
  clear h
  have HR := Lib.hid (show x.writer = (x.done && decide (0 < x.writes.length)) by rw [Acc.writer, isEmpty_dec])
  unfold accV
  obtain ⟨mode, snap, done, stamp, reads, writes⟩ := x
  cases done
  · go_enter Try.func45, Try.ntmps45
    go_wp2
    go_ret
    exact ⟨ret_bool (by rw [HR.out]; rfl), (Below.refl _ _).alloc (Nat.le_refl _) _⟩
  · go_enter Try.func45, Try.ntmps45
    go_wp2
    go_ret
    exact ⟨ret_bool (by rw [HR.out]; simp), (Below.refl _ _).alloc (Nat.le_refl _) _⟩
set_option maxHeartbeats 1000000 in
theorem writer_any {w : World} {x : Acc} {vr vw : Value} (h : Reads w x vr vw) :
    Calls Try.prog 76 #[accV x vr vw] w fun e w' => e = .returned (.bool x.writer) ∧ Below w.heap.size w w' := by
  obtain ⟨Aw, cw, rfl, hm⟩ := h.w.shape
  clear h
  have HR := Lib.hid (show x.writer = (x.done && decide (0 < x.writes.length)) by rw [Acc.writer, isEmpty_dec])
  unfold accV
  obtain ⟨mode, snap, done, stamp, reads, writes⟩ := x
  cases done
  · go_enter Try.func76, Try.ntmps76
    go_wp2
    go_ret
    exact ⟨ret_bool (by rw [HR.out]; rfl), (Below.refl _ _).alloc (Nat.le_refl _) _⟩
  · go_enter Try.func76, Try.ntmps76
    go_wp2
    go_ret
    exact ⟨ret_bool (by rw [HR.out]; simp), (Below.refl _ _).alloc (Nat.le_refl _) _⟩
set_option maxHeartbeats 1000000 in
theorem concurrent_any {w : World} {x y : Acc} {vr vw ur uw : Value} :
    Calls Try.prog 46 #[accV x vr vw, accV y ur uw] w fun e w' => e = .returned (.bool (decide (x.snap < y.stamp ∧ y.snap < x.stamp))) ∧ Below w.heap.size w w' := by
  unfold accV
  obtain ⟨xm, xs, xd, xt, xr, xw⟩ := x
  obtain ⟨ym, ys, yd, yt, yr, yw⟩ := y
  simp only
  have hB : Below w.heap.size w ((w.alloc (.cells #[.int .i64 xm, .int .i64 xs, .bool xd, .int .i64 xt, vr, vw] 29)).alloc (.cells #[.int .i64 ym, .int .i64 ys, .bool yd, .int .i64 yt, ur, uw] 29)) :=
    ((Below.refl _ _).alloc (Nat.le_refl _) _).alloc (by simp) _
  by_cases h1 : xs < yt
  · by_cases h2 : ys < xt
    · go_enter Try.func46, Try.ntmps46
      go_wp2
      go_ret
      exact ⟨ret_bool (by simp [h1, h2]), hB⟩
    · go_enter Try.func46, Try.ntmps46
      go_wp2
      go_ret
      exact ⟨ret_bool (by simp [h2]), hB⟩
  · go_enter Try.func46, Try.ntmps46
    go_wp2
    go_ret
    exact ⟨ret_bool (by rw [decide_eq_false (by omega : ¬ xs < yt)]; rfl), hB⟩
theorem formed_no {x : Acc} (h : ¬ Formed x) : formedB x = false := by rw [← Bool.not_eq_true, formed_iff]; exact h
theorem formed_tail {x : Acc} (h1 : 0 ≤ x.mode ∧ x.mode ≤ 2) (h2 : 0 ≤ x.snap ∧ x.snap ≤ 1073741824) (h3 : rising x.reads = true) (h4 : rising x.writes = true) (h5 : x.mode = 2 → x.writes = []) :
    formedB x = if x.writer = true then decide (x.snap < x.stamp ∧ x.stamp ≤ 1073741824) else decide (x.stamp = 0) := by
  unfold formedB
  have e1 : decide (0 ≤ x.mode ∧ x.mode ≤ 2 ∧ 0 ≤ x.snap ∧ x.snap ≤ 1073741824) = true := decide_eq_true ⟨h1.1, h1.2, h2.1, h2.2⟩
  have e2 : (!(decide (x.mode = 2) && !x.writes.isEmpty)) = true := by
    by_cases hm : x.mode = 2
    · rw [h5 hm]; simp
    · simp [hm]
  rw [e1, h3, h4, e2]
  simp only [Bool.and_self, Bool.true_and]
theorem formed_num {x : Acc} (h : x.mode < 0 ∨ 2 < x.mode ∨ x.snap < 0 ∨ 1073741824 < x.snap) : formedB x = false := formed_no fun f => by have := f.mode; have := f.snap; omega
theorem formed_read {x : Acc} (h1 : x.mode = 2) (h2 : 0 < x.writes.length) : formedB x = false := formed_no fun f => by rw [f.read h1] at h2; simp at h2
theorem formed_writer {x : Acc} (h1 : 0 ≤ x.mode) (h1' : x.mode ≤ 2) (h2 : 0 ≤ x.snap) (h2' : x.snap ≤ 1073741824) (h3 : rising x.reads = true) (h4 : rising x.writes = true) (h5 : x.mode ≠ 2) (h6 : x.writer = true) :
    formedB x = (decide (x.snap < x.stamp) && decide (x.stamp ≤ 1073741824)) := by
  rw [formed_tail ⟨h1, h1'⟩ ⟨h2, h2'⟩ h3 h4 (fun e => absurd e h5), if_pos h6, Bool.decide_and]
theorem formed_other {x : Acc} (h1 : 0 ≤ x.mode) (h1' : x.mode ≤ 2) (h2 : 0 ≤ x.snap) (h2' : x.snap ≤ 1073741824) (h3 : rising x.reads = true) (h4 : rising x.writes = true) (h5 : x.mode ≠ 2 ∨ ¬ 0 < x.writes.length) (h6 : x.writer = false) :
    formedB x = decide (x.stamp = 0) := by
  rw [formed_tail ⟨h1, h1'⟩ ⟨h2, h2'⟩ h3 h4 (fun e => by rcases h5 with h | h; exact absurd e h; exact List.length_eq_zero_iff.1 (by omega)), if_neg (by simp [h6])]
set_option maxHeartbeats 2000000 in
theorem formed_any {w : World} {x : Acc} {vr vw : Value} (h : Reads w x vr vw) :
    Calls Try.prog 43 #[accV x vr vw] w fun e w' => e = .returned (.bool (formedB x)) ∧ Below w.heap.size w w' := by
  obtain ⟨mode, snap, done, stamp, reads, writes⟩ := x
  obtain ⟨Aw, cw, rfl, hm⟩ := h.w.shape
  have hr0 : Ints w vr reads := h.r
  have hw0 : Ints w (.slice Aw writes.length cw) writes := h.w
  obtain ⟨o, ho⟩ : ∃ o, o = Obj.cells #[.int .i64 mode, .int .i64 snap, .bool done, .int .i64 stamp, vr, .slice Aw writes.length cw] 29 := ⟨_, rfl⟩
  have hB0 : Below w.heap.size w (w.alloc o) := (Below.refl _ _).alloc (Nat.le_refl _) _
  have HRr := Lib.hid (ascending_any (hr0.alloc o))
  have HRw : Hid (∀ n, Calls Try.prog 77 #[.slice Aw writes.length cw] ((w.alloc o).drewN n) fun e w' => e = .returned (.bool (rising writes)) ∧ ∃ m, w' = ((w.alloc o).drewN n).drewN m) := Lib.hid fun n => ascending_any ((hw0.alloc o).drewN n)
  rw [ho] at HRr HRw hB0
  have HH := Lib.hid (show Reads w ⟨mode, snap, done, stamp, reads, writes⟩ vr (.slice Aw writes.length cw) from h)
  clear h ho hr0 hw0
  clear o
  have HB0 := Lib.hid hB0
  clear hB0
  unfold accV
  simp only
  obtain ⟨r1, hr1⟩ : ∃ r1, r1 = rising reads := ⟨_, rfl⟩
  obtain ⟨r2, hr2⟩ : ∃ r2, r2 = rising writes := ⟨_, rfl⟩
  rw [← hr1] at HRr
  rw [← hr2] at HRw
  have H1 := Lib.hid hr1
  have H2 := Lib.hid hr2
  clear hr1 hr2
  go_enter Try.func43, Try.ntmps43
  go_wp2_with fail
  · go_ret
    exact ⟨ret_bool (formed_num (by simp only; omega)).symm, HB0.out⟩
  · go_ret
    exact ⟨ret_bool (formed_num (by simp only; omega)).symm, HB0.out⟩
  · go_ret
    exact ⟨ret_bool (formed_num (by simp only; omega)).symm, HB0.out⟩
  · go_ret
    exact ⟨ret_bool (formed_num (by simp only; omega)).symm, HB0.out⟩
  refine HRr.out.mono ?_
  cases r1
  · rintro e w1 ⟨rfl, n1, rfl⟩
    go_wp2_with fail
    go_ret
    exact ⟨ret_bool (formed_no (fun f => by have := f.reads; rw [← H1.out] at this; cases this)).symm, Below.drewN' HB0.out _⟩
  rintro e w1 ⟨rfl, n1, rfl⟩
  go_wp2_with fail
  refine (HRw.out _).mono ?_
  cases r2
  · rintro e w2 ⟨rfl, n2, rfl⟩
    go_wp2_with fail
    go_ret
    exact ⟨ret_bool (formed_no (fun f => by have := f.writes; rw [← H2.out] at this; cases this)).symm, Below.drewN' HB0.out _⟩
  rintro e w2 ⟨rfl, n2, rfl⟩
  go_wp2_with fail
  · obtain rfl : mode = 2 := by assumption
    go_ret
    exact ⟨ret_bool (formed_read rfl (by assumption)).symm, Below.drewN' HB0.out _⟩
  · obtain rfl : mode = 2 := by assumption
    have HL : Hid (¬ 0 < writes.length) := Lib.hid (by assumption)
    obtain ⟨b, hb⟩ : ∃ b, b = (⟨2, snap, done, stamp, reads, writes⟩ : Acc).writer := ⟨_, rfl⟩
    obtain rfl : b = false := by
      rw [hb, Acc.writer, isEmpty_dec, decide_eq_false HL.out]
      exact Bool.and_false _
    have H3 := Lib.hid hb
    clear hb
    refine (writes_any (HH.out.below (Below.drewN' HB0.out _))).mono ?_
    rw [← H3.out]
    rintro e w3 ⟨rfl, hb3⟩
    have HB3 := Lib.hid ((Below.drewN' HB0.out (n1 + n2)).trans (hb3.mono (Below.drewN' HB0.out (n1 + n2)).size))
    have hc3 := hb3
    obtain ⟨hc, hf⟩ := bcell hb3
    have hz : w.heap.size + 1 ≤ w3.heap.size := by have := hb3.size; simp at this; omega
    clear hb3 hc3
    have HR := Lib.hid (formed_other (x := ⟨2, snap, done, stamp, reads, writes⟩) (by simp only; omega) (by simp only; omega) (by simp only; omega) (by simp only; omega) H1.out.symm H2.out.symm (.inr HL.out) H3.out.symm)
    go_wp2_with fail
    go_ret
    exact ⟨ret_bool (by rw [HR.out]; rfl), HB3.out⟩
  · have HL : Hid (mode ≠ 2) := Lib.hid (by assumption)
    obtain ⟨b, hb⟩ : ∃ b, b = (⟨mode, snap, done, stamp, reads, writes⟩ : Acc).writer := ⟨_, rfl⟩
    have H3 := Lib.hid hb
    clear hb
    refine (writes_any (HH.out.below (Below.drewN' HB0.out _))).mono ?_
    rw [← H3.out]
    rintro e w3 ⟨rfl, hb3⟩
    have HB3 := Lib.hid ((Below.drewN' HB0.out (n1 + n2)).trans (hb3.mono (Below.drewN' HB0.out (n1 + n2)).size))
    have hc3 := hb3
    obtain ⟨hc, hf⟩ := bcell hb3
    have hz : w.heap.size + 1 ≤ w3.heap.size := by have := hb3.size; simp at this; omega
    clear hb3 hc3
    cases b
    · have HR := Lib.hid (formed_other (x := ⟨mode, snap, done, stamp, reads, writes⟩) (by simp only; omega) (by simp only; omega) (by simp only; omega) (by simp only; omega) H1.out.symm H2.out.symm (.inl HL.out) H3.out.symm)
      go_wp2_with fail
      go_ret
      exact ⟨ret_bool (by rw [HR.out]; rfl), HB3.out⟩
    · have HR := Lib.hid (formed_writer (x := ⟨mode, snap, done, stamp, reads, writes⟩) (by simp only; omega) (by simp only; omega) (by simp only; omega) (by simp only; omega) H1.out.symm H2.out.symm HL.out H3.out.symm)
      by_cases c1 : snap < stamp
      · go_wp2_with fail
        go_ret
        exact ⟨ret_bool (by rw [HR.out]; simp only [decide_eq_true c1, Bool.true_and]), HB3.out⟩
      · go_wp2_with fail
        go_ret
        exact ⟨ret_bool (by rw [HR.out, decide_eq_false (by omega : ¬ snap < stamp)]; rfl), HB3.out⟩
set_option maxHeartbeats 2000000 in
theorem rformed_any {w : World} {x : Acc} {vr vw : Value} (h : Reads w x vr vw) :
    Calls Try.prog 59 #[accV x vr vw] w fun e w' => e = .returned (.bool (formedB x)) ∧ Below w.heap.size w w' := by
  obtain ⟨mode, snap, done, stamp, reads, writes⟩ := x
  obtain ⟨Aw, cw, rfl, hm⟩ := h.w.shape
  have hr0 : Ints w vr reads := h.r
  have hw0 : Ints w (.slice Aw writes.length cw) writes := h.w
  obtain ⟨o, ho⟩ : ∃ o, o = Obj.cells #[.int .i64 mode, .int .i64 snap, .bool done, .int .i64 stamp, vr, .slice Aw writes.length cw] 29 := ⟨_, rfl⟩
  have hB0 : Below w.heap.size w (w.alloc o) := (Below.refl _ _).alloc (Nat.le_refl _) _
  have HRr := Lib.hid (rising_any (hr0.alloc o))
  have HRw : Hid (∀ n, Calls Try.prog 82 #[.slice Aw writes.length cw] ((w.alloc o).drewN n) fun e w' => e = .returned (.bool (rising writes)) ∧ ∃ m, w' = ((w.alloc o).drewN n).drewN m) := Lib.hid fun n => rising_any ((hw0.alloc o).drewN n)
  rw [ho] at HRr HRw hB0
  have HH := Lib.hid (show Reads w ⟨mode, snap, done, stamp, reads, writes⟩ vr (.slice Aw writes.length cw) from h)
  clear h ho hr0 hw0
  clear o
  have HB0 := Lib.hid hB0
  clear hB0
  unfold accV
  simp only
  obtain ⟨r1, hr1⟩ : ∃ r1, r1 = rising reads := ⟨_, rfl⟩
  obtain ⟨r2, hr2⟩ : ∃ r2, r2 = rising writes := ⟨_, rfl⟩
  rw [← hr1] at HRr
  rw [← hr2] at HRw
  have H1 := Lib.hid hr1
  have H2 := Lib.hid hr2
  clear hr1 hr2
  go_enter Try.func59, Try.ntmps59
  go_wp2_with fail
  refine HRr.out.mono ?_
  rintro e w1 ⟨rfl, n1, rfl⟩
  go_wp2_with fail
  refine (HRw.out _).mono ?_
  rintro e w2 ⟨rfl, n2, rfl⟩
  cases r1
  · have HR := Lib.hid (formed_no (x := ⟨mode, snap, done, stamp, reads, writes⟩) (fun f => by have := f.reads; rw [← H1.out] at this; cases this))
    go_wp2_with fail
    all_goals
      go_ret
      exact ⟨ret_bool HR.out.symm, Below.drewN' HB0.out _⟩
  cases r2
  · have HR := Lib.hid (formed_no (x := ⟨mode, snap, done, stamp, reads, writes⟩) (fun f => by have := f.writes; rw [← H2.out] at this; cases this))
    go_wp2_with fail
    all_goals
      go_ret
      exact ⟨ret_bool HR.out.symm, Below.drewN' HB0.out _⟩
  cases done
  · go_wp2_with fail
    · obtain rfl : mode = 2 := by assumption
      go_ret
      exact ⟨ret_bool (formed_read rfl (by assumption)).symm, Below.drewN' HB0.out _⟩
    · obtain rfl : mode = 2 := by assumption
      have HR := Lib.hid (formed_other (x := ⟨2, snap, false, stamp, reads, writes⟩) (by simp only; omega) (by simp only; omega) (by simp only; omega) (by simp only; omega) H1.out.symm H2.out.symm (.inr (by assumption)) rfl)
      go_ret
      exact ⟨ret_bool (by rw [HR.out]; rfl), Below.drewN' HB0.out _⟩
    · have HR := Lib.hid (formed_other (x := ⟨mode, snap, false, stamp, reads, writes⟩) (by simp only; omega) (by simp only; omega) (by simp only; omega) (by simp only; omega) H1.out.symm H2.out.symm (.inl (by assumption)) rfl)
      go_ret
      exact ⟨ret_bool (by rw [HR.out]; rfl), Below.drewN' HB0.out _⟩
    · go_ret
      exact ⟨ret_bool (formed_num (by simp only; omega)).symm, Below.drewN' HB0.out _⟩
    · go_ret
      exact ⟨ret_bool (formed_num (by simp only; omega)).symm, Below.drewN' HB0.out _⟩
    · go_ret
      exact ⟨ret_bool (formed_num (by simp only; omega)).symm, Below.drewN' HB0.out _⟩
    · go_ret
      exact ⟨ret_bool (formed_num (by simp only; omega)).symm, Below.drewN' HB0.out _⟩
  · by_cases l0 : 0 < writes.length
    · have HW : Hid ((⟨mode, snap, true, stamp, reads, writes⟩ : Acc).writer = true) := Lib.hid (Acc.writer_iff.2 ⟨rfl, List.length_pos_iff.1 l0⟩)
      go_wp2_with fail
      · obtain rfl : mode = 2 := by assumption
        go_ret
        exact ⟨ret_bool (formed_read rfl l0).symm, Below.drewN' HB0.out _⟩
      · have hlt : snap < stamp := by assumption
        have HR := Lib.hid (formed_writer (x := ⟨mode, snap, true, stamp, reads, writes⟩) (by simp only; omega) (by simp only; omega) (by simp only; omega) (by simp only; omega) H1.out.symm H2.out.symm (by assumption) HW.out)
        go_ret
        exact ⟨ret_bool (by rw [HR.out]; simp only [decide_eq_true hlt, Bool.true_and]), Below.drewN' HB0.out _⟩
      · have HR := Lib.hid (formed_writer (x := ⟨mode, snap, true, stamp, reads, writes⟩) (by simp only; omega) (by simp only; omega) (by simp only; omega) (by simp only; omega) H1.out.symm H2.out.symm (by assumption) HW.out)
        go_ret
        exact ⟨ret_bool (by rw [HR.out]; simp only; rw [decide_eq_false (by omega : ¬ snap < stamp)]; rfl), Below.drewN' HB0.out _⟩
      · go_ret
        exact ⟨ret_bool (formed_num (by simp only; omega)).symm, Below.drewN' HB0.out _⟩
      · go_ret
        exact ⟨ret_bool (formed_num (by simp only; omega)).symm, Below.drewN' HB0.out _⟩
      · go_ret
        exact ⟨ret_bool (formed_num (by simp only; omega)).symm, Below.drewN' HB0.out _⟩
      · go_ret
        exact ⟨ret_bool (formed_num (by simp only; omega)).symm, Below.drewN' HB0.out _⟩
    · have HW : Hid ((⟨mode, snap, true, stamp, reads, writes⟩ : Acc).writer = false) := Lib.hid (by rw [Acc.writer, isEmpty_dec, decide_eq_false l0]; rfl)
      go_wp2_with fail
      · obtain rfl : mode = 2 := by assumption
        have HR := Lib.hid (formed_other (x := ⟨2, snap, true, stamp, reads, writes⟩) (by simp only; omega) (by simp only; omega) (by simp only; omega) (by simp only; omega) H1.out.symm H2.out.symm (.inr l0) HW.out)
        go_ret
        exact ⟨ret_bool (by rw [HR.out]; rfl), Below.drewN' HB0.out _⟩
      · have HR := Lib.hid (formed_other (x := ⟨mode, snap, true, stamp, reads, writes⟩) (by simp only; omega) (by simp only; omega) (by simp only; omega) (by simp only; omega) H1.out.symm H2.out.symm (.inl (by assumption)) HW.out)
        go_ret
        exact ⟨ret_bool (by rw [HR.out]; rfl), Below.drewN' HB0.out _⟩
      · go_ret
        exact ⟨ret_bool (formed_num (by simp only; omega)).symm, Below.drewN' HB0.out _⟩
      · go_ret
        exact ⟨ret_bool (formed_num (by simp only; omega)).symm, Below.drewN' HB0.out _⟩
      · go_ret
        exact ⟨ret_bool (formed_num (by simp only; omega)).symm, Below.drewN' HB0.out _⟩
      · go_ret
        exact ⟨ret_bool (formed_num (by simp only; omega)).symm, Below.drewN' HB0.out _⟩
end Go.Proofs.Ytlfpkikmofgjfaa
