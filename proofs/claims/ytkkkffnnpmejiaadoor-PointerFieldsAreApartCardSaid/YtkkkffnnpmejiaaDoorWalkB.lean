/- The walks of the pointers: Right, Line, Gen, and of the headers. -/
import Derived.Test.YtkkkffnnpmejiaaDoorWalkA
namespace Go.Proofs.YtkkkffnnpmejiaaDoor
open Go.RowKit

theorem Laid.alloc {w : World} (h : Laid w) (o : Obj) : Laid (w.alloc o) := h.below ((Below.refl _ _).alloc (Nat.le_refl _) _)
/-- What a call hands on: the tables, and an old block's cell. -/
theorem hand {w w1 : World} (hb : Below w.heap.size w w1) {p : Addr} {v : Value} (hp : w.cell? p = some v) : w1.cell? p = some v := (hb.cell (World.block_lt_of_cell? w p hp)).trans hp

set_option maxHeartbeats 400000 in
theorem right_any (p : Int) (w : World) (hl : Laid w) :
    Calls Tryd.prog 20 #[.int .i64 p] w fun e w' => e = .returned (.bool (right p)) ∧ Below w.heap.size w w' := by
  have hL := hl
  obtain ⟨z1, p0, p1, p2, p3, h0, h1, h2, h3, h4, h5⟩ := hl
  have z0 : 0 < w.heap.size := by omega
  have hLa := hL.alloc (.cells #[.int .i64 p] 3)
  have hca : (w.alloc (.cells #[.int .i64 p] 3)).cell? ⟨w.heap.size, 0, none⟩ = some (.int .i64 p) := by simp
  by_cases c0 : p = 0
  · subst c0
    go_enter Tryd.func20, Tryd.ntmps20
    go_wp2
    go_ret
    exact ⟨rfl, (Below.refl _ _).alloc (Nat.le_refl _) _⟩
  have e0 : (p == 0) = false := by simp [c0]
  by_cases c1 : 0 ≤ p ∧ p < 4294967296
  · obtain ⟨c1, c2⟩ := c1
    have e1 : p / 4294967296 = 0 := by omega
    go_enter Tryd.func20, Tryd.ntmps20
    go_wp2_with (first | (go_at_call 45; go_in) | (go_at_call 43; go_in))
    refine (ofc_line p _ _ hca c1 (by omega)).mono ?_
    rintro e w1 ⟨rfl, hb1⟩
    have hL1 := hLa.below hb1
    have hc1 := hand hb1 hca
    simp only [World.size_alloc] at hb1
    have hB1 := bl1 hb1
    clear hb1 hLa hca
    obtain ⟨y1, q0, q1, q2, q3, g0, g1, g2, g3, g4, g5⟩ := hL1
    have y0 : 0 < w1.heap.size := by omega
    by_cases c3 : 0 < p % 4096
    · go_wp2_with (first | (go_at_call 45; go_in) | (go_at_call 43; go_in))
      refine (ofc_gen p _ _ hc1 c1 c2).mono ?_
      rintro e w2 ⟨rfl, hb2⟩
      have hB2 := hB1.trans (hb2.mono hB1.size)
      by_cases c4 : 0 < p / 4096
      all_goals
        go_wp2
        go_ret
        exact ⟨ret_bool (by unfold right; first | (rw [decide_eq_decide]; omega) | exact (decide_eq_true (by omega)).symm | exact (decide_eq_false (by omega)).symm), hB2⟩
    · go_wp2
      go_ret
      exact ⟨ret_bool (by simp [right]; omega), hB1⟩
  · by_cases c2 : p / 4294967296 = 0
    all_goals
      go_enter Tryd.func20, Tryd.ntmps20
      go_wp2
      all_goals
        go_ret
        exact ⟨ret_bool (by simp [right]; omega), (Below.refl _ _).alloc (Nat.le_refl _) _⟩

theorem right_lt {p : Int} (h : right p = true) : 0 ≤ p ∧ p < 4294967296 := by simp [right] at h; omega
theorem bl2 {w w1 w3 : World} {o : Obj} (h1 : Below w.heap.size w w1) (h3 : Below (w1.alloc o).drew.heap.size (w1.alloc o).drew w3) : Below w.heap.size w w3 :=
  h1.trans ((((Below.refl _ _).alloc (Nat.le_refl _) o).drew.trans (h3.mono (by show _ ≤ (w1.alloc o).heap.size; simp))).mono h1.size)
theorem bl3 {w w3 : World} {o : Obj} (h3 : Below (w.alloc o).drew.heap.size (w.alloc o).drew w3) : Below w.heap.size w w3 := bl2 (Below.refl _ _) h3
theorem word_yes (x : Int) (w : World) (h0 : 0 ≤ x) (h1 : x ≤ 1099511627775) : Calls Tryd.prog 43 #[.int .i64 x] w fun e w' => e = .returned (.bool true) ∧ w = w' := by
  go_enter Tryd.func43, Tryd.ntmps43
  go_wp2
  go_ret
  exact ⟨rfl, rfl⟩
theorem word_no (x : Int) (w : World) (h : x < 0 ∨ 1099511627775 < x) : Calls Tryd.prog 43 #[.int .i64 x] w fun e w' => e = .returned (.bool false) ∧ w = w' := by
  rcases h with h | h
  · go_enter Tryd.func43, Tryd.ntmps43
    go_wp2
    go_ret
    exact ⟨rfl, rfl⟩
  · have h' : ¬ x ≤ 1099511627775 := by omega
    go_enter Tryd.func43, Tryd.ntmps43
    go_wp2
    go_ret
    exact ⟨rfl, rfl⟩
set_option maxHeartbeats 400000 in
theorem line_any (p : Int) (w : World) (hl : Laid w) :
    Calls Tryd.prog 18 #[.int .i64 p] w fun e w' => e = .returned (.int .i64 (line p)) ∧ Below w.heap.size w w' := by
  by_cases c : right p = true
  · have hp := right_lt c
    have er : line p = p % 4096 := by simp [line, c]
    rw [er]
    clear er
    have hr := Lib.hid (right_any p w hl)
    have hC := Lib.hid c
    clear c
    go_enter Tryd.func18, Tryd.ntmps18
    go_wp2_with (go_at_call 20; refine hr.out.mono ?_; rw [hC.out]; rintro e w1 ⟨rfl, hb1⟩)
    have hL1 := hl.below hb1
    clear hl hr
    obtain ⟨y1, q0, q1, q2, q3, g0, g1, g2, g3, g4, g5⟩ := hL1
    have y0 : 0 < w1.heap.size := by omega
    go_region_held3 (fun w' => w'.cell? ⟨0, 0, none⟩ = some (.int .i64 0) ∧ w'.cell? ⟨0, 1, none⟩ = some (.int .i64 12)) (go_keep)
      (first | (go_at_call 45; refine (of_any _ _).mono ?_; rintro e w2 ⟨rfl, rfl⟩) | (go_at_call 50; refine (ofc_line p _ _ ?hq hp.1 (by omega)).mono ?_; (case hq => simp); have hH := ‹(_ : World).cell? ⟨0, 0, none⟩ = some (Value.int .i64 0) ∧ (_ : World).cell? _ = some _›; rintro e w3 ⟨rfl, hb3⟩; have k0 := hand hb3 hH.1; have k1 := hand hb3 hH.2; clear hH))
    go_wp2
    go_ret
    exact ⟨rfl, bl2 hb1 hb3⟩
  · have er : line p = 0 := by simp [line, c]
    rw [er]
    clear er
    have hr := Lib.hid (right_any p w hl)
    have hC := Lib.hid ((Bool.not_eq_true _).mp c)
    clear c hl
    go_enter Tryd.func18, Tryd.ntmps18
    go_wp2_with (go_at_call 20; refine hr.out.mono ?_; rw [hC.out]; rintro e w1 ⟨rfl, hb1⟩)
    go_ret
    exact ⟨rfl, hb1⟩
set_option maxHeartbeats 400000 in
theorem gen_any (p : Int) (w : World) (hl : Laid w) :
    Calls Tryd.prog 19 #[.int .i64 p] w fun e w' => e = .returned (.int .i64 (gen p)) ∧ Below w.heap.size w w' := by
  by_cases c : right p = true
  · have hp := right_lt c
    have er : gen p = p / 4096 := by simp [gen, c]
    rw [er]
    clear er
    have hr := Lib.hid (right_any p w hl)
    have hC := Lib.hid c
    clear c
    go_enter Tryd.func19, Tryd.ntmps19
    go_wp2_with (go_at_call 20; refine hr.out.mono ?_; rw [hC.out]; rintro e w1 ⟨rfl, hb1⟩)
    have hL1 := hl.below hb1
    clear hl hr
    obtain ⟨y1, q0, q1, q2, q3, g0, g1, g2, g3, g4, g5⟩ := hL1
    have y0 : 0 < w1.heap.size := by omega
    go_region_held3 (fun w' => w'.cell? ⟨0, 2, none⟩ = some (.int .i64 12) ∧ w'.cell? ⟨0, 3, none⟩ = some (.int .i64 20)) (go_keep)
      (first | (go_at_call 45; refine (of_any _ _).mono ?_; rintro e w2 ⟨rfl, rfl⟩) | (go_at_call 50; refine (ofc_gen p _ _ ?hq hp.1 (by omega)).mono ?_; (case hq => simp); have hH := ‹(_ : World).cell? ⟨0, 2, none⟩ = some (Value.int .i64 12) ∧ (_ : World).cell? _ = some _›; rintro e w3 ⟨rfl, hb3⟩; have k0 := hand hb3 hH.1; have k1 := hand hb3 hH.2; clear hH))
    go_wp2
    go_ret
    exact ⟨rfl, bl2 hb1 hb3⟩
  · have er : gen p = 0 := by simp [gen, c]
    rw [er]
    clear er
    have hr := Lib.hid (right_any p w hl)
    have hC := Lib.hid ((Bool.not_eq_true _).mp c)
    clear c hl
    go_enter Tryd.func19, Tryd.ntmps19
    go_wp2_with (go_at_call 20; refine hr.out.mono ?_; rw [hC.out]; rintro e w1 ⟨rfl, hb1⟩)
    go_ret
    exact ⟨rfl, hb1⟩
theorem formed_lt {p : Int} (h : formed p = true) : 0 ≤ p ∧ p < 134217728 := by simp [formed] at h; omega
set_option maxHeartbeats 400000 in
theorem formed_any (p : Int) (w : World) (hl : Laid w) :
    Calls Tryd.prog 24 #[.int .i64 p] w fun e w' => e = .returned (.bool (formed p)) ∧ Below w.heap.size w w' := by
  obtain ⟨y1, q0, q1, q2, q3, g0, g1, g2, g3, g4, g5⟩ := hl
  have y0 : 0 < w.heap.size := by omega
  by_cases c1 : 0 ≤ p ∧ p < 134217728
  · obtain ⟨c1, c2⟩ := c1
    have e1 : p / 134217728 = 0 := by omega
    go_enter Tryd.func24, Tryd.ntmps24
    go_wp2
    go_region_held3 (fun w' => w'.cell? ⟨1, 2, none⟩ = some (.int .i64 4) ∧ w'.cell? ⟨1, 3, none⟩ = some (.int .i64 3)) (go_keep)
      (first | (go_at_call 43; refine (word_yes p _ c1 (by omega)).mono ?_; rintro e w2 ⟨rfl, rfl⟩) | (go_at_call 45; refine (of_any _ _).mono ?_; rintro e w2 ⟨rfl, rfl⟩) | (go_at_call 50; refine (ofc_class p _ _ ?hq c1 (by omega)).mono ?_; (case hq => simp); have hH := ‹(_ : World).cell? ⟨1, 2, none⟩ = some (Value.int .i64 4) ∧ (_ : World).cell? _ = some _›; rintro e w3 ⟨rfl, hb3⟩; have k0 := hand hb3 hH.1; have k1 := hand hb3 hH.2; clear hH))
    all_goals
      go_wp2
      go_ret
      exact ⟨ret_bool (by unfold formed; rw [decide_eq_decide]; omega), bl3 hb3⟩
  · have ef : formed p = false := by unfold formed; exact decide_eq_false (by omega)
    rw [ef]
    clear ef
    by_cases c3 : 0 ≤ p ∧ p ≤ 1099511627775
    · obtain ⟨c3, c4⟩ := c3
      have e1 : (p / 134217728 == 0) = false := by simp; omega
      go_enter Tryd.func24, Tryd.ntmps24
      go_wp2
      go_quiet ((go_at_call 43; exact Calls.quiet_of_same ((word_yes p _ c3 c4).mono fun _ _ h => ⟨h.1, h.2.symm⟩)))
      go_wp2
      go_ret
      exact ⟨rfl, below_drewN (Below.refl _ _) _⟩
    · have hno := word_no p
      go_enter Tryd.func24, Tryd.ntmps24
      go_wp2
      go_quiet ((go_at_call 43; exact Calls.quiet_of_same ((hno _ (by omega)).mono fun _ _ h => ⟨h.1, h.2.symm⟩)))
      go_wp2
      go_ret
      exact ⟨rfl, below_drewN (Below.refl _ _) _⟩
set_option maxHeartbeats 400000 in
theorem header0_any (p : Int) (w : World) (hl : Laid w) :
    Calls Tryd.prog 49 #[.int .i64 p, .int .i64 0] w fun e w' => e = .returned (.int .i64 (kind p)) ∧ Below w.heap.size w w' := by
  by_cases c : formed p = true
  · have hp := formed_lt c
    have er : kind p = p % 16 := by simp [kind, c]
    rw [er]
    clear er
    have hr := Lib.hid (formed_any p w hl)
    have hC := Lib.hid c
    clear c
    go_enter Tryd.func49, Tryd.ntmps49
    go_wp2_with (go_at_call 24; refine hr.out.mono ?_; rw [hC.out]; rintro e w1 ⟨rfl, hb1⟩)
    have hL1 := hl.below hb1
    clear hl hr
    obtain ⟨y1, q0, q1, q2, q3, g0, g1, g2, g3, g4, g5⟩ := hL1
    have y0 : 0 < w1.heap.size := by omega
    go_region_held3 (fun w' => w'.cell? ⟨1, 0, none⟩ = some (.int .i64 0) ∧ w'.cell? ⟨1, 1, none⟩ = some (.int .i64 4)) (go_keep)
      (first | (go_at_call 45; refine (of_any _ _).mono ?_; rintro e w2 ⟨rfl, rfl⟩) | (go_at_call 50; refine (ofc_kind p _ _ ?hq hp.1 (by omega)).mono ?_; (case hq => simp); have hH := ‹(_ : World).cell? ⟨1, 0, none⟩ = some (Value.int .i64 0) ∧ (_ : World).cell? _ = some _›; rintro e w3 ⟨rfl, hb3⟩; have k0 := hand hb3 hH.1; have k1 := hand hb3 hH.2; clear hH))
    go_wp2
    go_ret
    exact ⟨rfl, bl2 hb1 hb3⟩
  · have er : kind p = 0 := by simp [kind, c]
    rw [er]
    clear er
    have hr := Lib.hid (formed_any p w hl)
    have hC := Lib.hid ((Bool.not_eq_true _).mp c)
    clear c hl
    go_enter Tryd.func49, Tryd.ntmps49
    go_wp2_with (go_at_call 24; refine hr.out.mono ?_; rw [hC.out]; rintro e w1 ⟨rfl, hb1⟩)
    go_ret
    exact ⟨rfl, hb1⟩
set_option maxHeartbeats 400000 in
theorem header1_any (p : Int) (w : World) (hl : Laid w) :
    Calls Tryd.prog 49 #[.int .i64 p, .int .i64 1] w fun e w' => e = .returned (.int .i64 (class_ p)) ∧ Below w.heap.size w w' := by
  by_cases c : formed p = true
  · have hp := formed_lt c
    have er : class_ p = p / 16 % 8 := by simp [class_, c]
    rw [er]
    clear er
    have hr := Lib.hid (formed_any p w hl)
    have hC := Lib.hid c
    clear c
    go_enter Tryd.func49, Tryd.ntmps49
    go_wp2_with (go_at_call 24; refine hr.out.mono ?_; rw [hC.out]; rintro e w1 ⟨rfl, hb1⟩)
    have hL1 := hl.below hb1
    clear hl hr
    obtain ⟨y1, q0, q1, q2, q3, g0, g1, g2, g3, g4, g5⟩ := hL1
    have y0 : 0 < w1.heap.size := by omega
    go_region_held3 (fun w' => w'.cell? ⟨1, 2, none⟩ = some (.int .i64 4) ∧ w'.cell? ⟨1, 3, none⟩ = some (.int .i64 3)) (go_keep)
      (first | (go_at_call 45; refine (of_any _ _).mono ?_; rintro e w2 ⟨rfl, rfl⟩) | (go_at_call 50; refine (ofc_class p _ _ ?hq hp.1 (by omega)).mono ?_; (case hq => simp); have hH := ‹(_ : World).cell? ⟨1, 2, none⟩ = some (Value.int .i64 4) ∧ (_ : World).cell? _ = some _›; rintro e w3 ⟨rfl, hb3⟩; have k0 := hand hb3 hH.1; have k1 := hand hb3 hH.2; clear hH))
    go_wp2
    go_ret
    exact ⟨rfl, bl2 hb1 hb3⟩
  · have er : class_ p = 0 := by simp [class_, c]
    rw [er]
    clear er
    have hr := Lib.hid (formed_any p w hl)
    have hC := Lib.hid ((Bool.not_eq_true _).mp c)
    clear c hl
    go_enter Tryd.func49, Tryd.ntmps49
    go_wp2_with (go_at_call 24; refine hr.out.mono ?_; rw [hC.out]; rintro e w1 ⟨rfl, hb1⟩)
    go_ret
    exact ⟨rfl, hb1⟩
set_option maxHeartbeats 400000 in
theorem header2_any (p : Int) (w : World) (hl : Laid w) :
    Calls Tryd.prog 49 #[.int .i64 p, .int .i64 2] w fun e w' => e = .returned (.int .i64 (generation p)) ∧ Below w.heap.size w w' := by
  by_cases c : formed p = true
  · have hp := formed_lt c
    have er : generation p = p / 128 := by simp [generation, c]
    rw [er]
    clear er
    have hr := Lib.hid (formed_any p w hl)
    have hC := Lib.hid c
    clear c
    go_enter Tryd.func49, Tryd.ntmps49
    go_wp2_with (go_at_call 24; refine hr.out.mono ?_; rw [hC.out]; rintro e w1 ⟨rfl, hb1⟩)
    have hL1 := hl.below hb1
    clear hl hr
    obtain ⟨y1, q0, q1, q2, q3, g0, g1, g2, g3, g4, g5⟩ := hL1
    have y0 : 0 < w1.heap.size := by omega
    go_region_held3 (fun w' => w'.cell? ⟨1, 4, none⟩ = some (.int .i64 7) ∧ w'.cell? ⟨1, 5, none⟩ = some (.int .i64 20)) (go_keep)
      (first | (go_at_call 45; refine (of_any _ _).mono ?_; rintro e w2 ⟨rfl, rfl⟩) | (go_at_call 50; refine (ofc_hgen p _ _ ?hq hp.1 (by omega)).mono ?_; (case hq => simp); have hH := ‹(_ : World).cell? ⟨1, 4, none⟩ = some (Value.int .i64 7) ∧ (_ : World).cell? _ = some _›; rintro e w3 ⟨rfl, hb3⟩; have k0 := hand hb3 hH.1; have k1 := hand hb3 hH.2; clear hH))
    go_wp2
    go_ret
    exact ⟨rfl, bl2 hb1 hb3⟩
  · have er : generation p = 0 := by simp [generation, c]
    rw [er]
    clear er
    have hr := Lib.hid (formed_any p w hl)
    have hC := Lib.hid ((Bool.not_eq_true _).mp c)
    clear c hl
    go_enter Tryd.func49, Tryd.ntmps49
    go_wp2_with (go_at_call 24; refine hr.out.mono ?_; rw [hC.out]; rintro e w1 ⟨rfl, hb1⟩)
    go_ret
    exact ⟨rfl, hb1⟩
theorem kind_any (p : Int) (w : World) (hl : Laid w) :
    Calls Tryd.prog 21 #[.int .i64 p] w fun e w' => e = .returned (.int .i64 (kind p)) ∧ Below w.heap.size w w' := by
  have hr := Lib.hid (header0_any p w hl)
  clear hl
  go_enter Tryd.func21, Tryd.ntmps21
  go_wp2_with (go_at_call 49; refine hr.out.mono ?_; rintro e w1 ⟨rfl, hb1⟩)
  go_ret
  exact ⟨rfl, hb1⟩
theorem class_any (p : Int) (w : World) (hl : Laid w) :
    Calls Tryd.prog 22 #[.int .i64 p] w fun e w' => e = .returned (.int .i64 (class_ p)) ∧ Below w.heap.size w w' := by
  have hr := Lib.hid (header1_any p w hl)
  clear hl
  go_enter Tryd.func22, Tryd.ntmps22
  go_wp2_with (go_at_call 49; refine hr.out.mono ?_; rintro e w1 ⟨rfl, hb1⟩)
  go_ret
  exact ⟨rfl, hb1⟩
theorem generation_any (p : Int) (w : World) (hl : Laid w) :
    Calls Tryd.prog 23 #[.int .i64 p] w fun e w' => e = .returned (.int .i64 (generation p)) ∧ Below w.heap.size w w' := by
  have hr := Lib.hid (header2_any p w hl)
  clear hl
  go_enter Tryd.func23, Tryd.ntmps23
  go_wp2_with (go_at_call 49; refine hr.out.mono ?_; rintro e w1 ⟨rfl, hb1⟩)
  go_ret
  exact ⟨rfl, hb1⟩
end Go.Proofs.YtkkkffnnpmejiaaDoor
