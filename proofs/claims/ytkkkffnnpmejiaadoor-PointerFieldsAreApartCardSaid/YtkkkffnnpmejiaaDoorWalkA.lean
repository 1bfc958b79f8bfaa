import Derived.Test.YtkkkffnnpmejiaaDoorProg
import Derived.Test.YtkkkffnnpmejiaaDoorFn
import Derived.WalkKit
import Derived.WalkLawsBesides
import Derived.Deep.QuietTactic
import Derived.BigQuiet
import Derived.Lib.Hide
import Derived.Deep.RegionWith
import Derived.Deep.RegionHeld3
namespace Go.Proofs.YtkkkffnnpmejiaaDoor
open Go.RowKit

theorem ret_int {k : IntKind} {a b : Int} (h : a = b) : Ending.returned (.int k a) = .returned (.int k b) := by rw [h]
theorem ret_bool {a b : Bool} (h : a = b) : Ending.returned (.bool a) = .returned (.bool b) := by rw [h]
/-- What the program's two tables hold. -/
def Laid (w : World) : Prop := 1 < w.heap.size ∧
  w.cell? ⟨0, 0, none⟩ = some (.int .i64 0) ∧ w.cell? ⟨0, 1, none⟩ = some (.int .i64 12) ∧ w.cell? ⟨0, 2, none⟩ = some (.int .i64 12) ∧ w.cell? ⟨0, 3, none⟩ = some (.int .i64 20) ∧
  w.cell? ⟨1, 0, none⟩ = some (.int .i64 0) ∧ w.cell? ⟨1, 1, none⟩ = some (.int .i64 4) ∧ w.cell? ⟨1, 2, none⟩ = some (.int .i64 4) ∧ w.cell? ⟨1, 3, none⟩ = some (.int .i64 3) ∧
  w.cell? ⟨1, 4, none⟩ = some (.int .i64 7) ∧ w.cell? ⟨1, 5, none⟩ = some (.int .i64 20)
theorem Laid.below {w w' : World} (h : Laid w) (hb : Below w.heap.size w w') : Laid w' := by
  obtain ⟨z, p0, p1, p2, p3, h0, h1, h2, h3, h4, h5⟩ := h
  have hs := hb.size
  have hc : ∀ b o, b < w.heap.size → w'.cell? ⟨b, o, none⟩ = w.cell? ⟨b, o, none⟩ := fun b o h => hb.cell (p := ⟨b, o, none⟩) h
  have z0 : 0 < w.heap.size := by omega
  exact ⟨by omega, (hc _ _ z0).trans p0, (hc _ _ z0).trans p1, (hc _ _ z0).trans p2, (hc _ _ z0).trans p3, (hc _ _ z).trans h0, (hc _ _ z).trans h1, (hc _ _ z).trans h2, (hc _ _ z).trans h3, (hc _ _ z).trans h4, (hc _ _ z).trans h5⟩

set_option maxHeartbeats 400000 in
theorem ofc_any (x a b : Int) (p : Addr) (w : World) (hc : w.cell? p = some (.int .i64 x)) (hp : p.block < w.heap.size) (h0 : 0 ≤ x) (h1 : x ≤ 1099511627775) (ha : 0 ≤ a) (ha2 : a ≤ 40) (hb : 0 ≤ b) (hb2 : b ≤ 40) :
    Calls Tryd.prog 50 #[.agg #[.int .i64 a, .int .i64 b], .pointer (some p)] w fun e w' => e = .returned (.int .i64 (x / 2 ^ a.toNat % 2 ^ b.toNat)) ∧ Below w.heap.size w w' := by
  have hB := fld_bits x a b h0 h1 (by omega)
  have HB := Lib.hid hB
  clear hB
  go_enter Tryd.func50, Tryd.ntmps50
  go_wp2
  go_quiet (fail)
  go_wp2
  go_ret
  exact ⟨ret_int HB.out, below_drewN ((Below.refl _ _).alloc (Nat.le_refl _) _) _⟩


theorem bl1 {w w1 : World} {o : Obj} (h : Below (w.heap.size + 1) (w.alloc o) w1) : Below w.heap.size w w1 := ((Below.refl _ _).alloc (Nat.le_refl _) _).trans (h.mono (by simp))

set_option maxHeartbeats 400000 in
theorem field_any (x a b : Int) (w : World) :
    Calls Tryd.prog 10 #[.int .i64 x, .int .i64 a, .int .i64 b] w fun e w' => e = .returned (.int .i64 (fld x a b)) ∧ Below w.heap.size w w' := by
  by_cases hl : b ≤ 40 - a
  all_goals
    go_enter Tryd.func10, Tryd.ntmps10
    go_wp2_with (first | (go_at_call 50; refine (ofc_any x _ _ _ _ (by go_simp) (by go_simp) (by omega) (by omega) (by omega) (by omega) (by omega) (by omega)).mono ?_; rintro e w1 ⟨rfl, hb1⟩) | go_in)
    all_goals
      go_ret
      refine ⟨ret_int ?_, ?_⟩
      · first | (simp [fld, isW, okF]; done) | (simp [fld, isW, okF]; intros; omega) | (rw [fld, if_pos]; simp [isW, okF]; omega)
      · first | exact Below.refl _ _ | (simp only [World.heap_size_alloc] at hb1; exact bl1 hb1) | (simp at hb1; exact bl1 hb1)
set_option maxHeartbeats 400000 in
theorem with_any (x a b v : Int) (w : World) :
    Calls Tryd.prog 12 #[.int .i64 x, .int .i64 a, .int .i64 b, .int .i64 v] w fun e w' => e = .returned (.int .i64 (wth x a b v)) ∧ Below w.heap.size w w' := by
  by_cases hl : b ≤ 40 - a
  · by_cases hv : v < wrap64 (2 ^ b.toNat)
    · go_enter Tryd.func12, Tryd.ntmps12
      go_wp2
      · go_quiet (fail)
        go_wp2
        go_ret
        refine ⟨ret_int ?_, ?_⟩
        · rw [pow_wrap _ (by omega)] at hv
          rw [wth, if_pos ⟨by simp [isW]; omega, by simp [okF]; omega, by omega, by omega⟩]
          exact wth_walk x a b v (by omega) (by omega) (by omega) (by omega) (by omega) (by omega) (by omega)
        · exact below_drewN (Below.refl _ _) _
      all_goals
        go_ret
        refine ⟨ret_int ?_, Below.refl _ _⟩
        simp [wth, isW, okF]; intros; omega
    · go_enter Tryd.func12, Tryd.ntmps12
      go_wp2
      all_goals
        go_ret
        refine ⟨ret_int ?_, Below.refl _ _⟩
        first | (simp [wth, isW, okF]; intros; omega) | (rw [wth, if_neg]; rintro ⟨_, _, _, h⟩; rw [pow_wrap _ (by omega)] at hv; omega)
  · go_enter Tryd.func12, Tryd.ntmps12
    go_wp2
    all_goals
      go_ret
      refine ⟨ret_int ?_, Below.refl _ _⟩
      simp [wth, isW, okF]; intros; omega
set_option maxHeartbeats 400000 in
theorem make_any (l g : Int) (w : World) (hl : Laid w) :
    Calls Tryd.prog 14 #[.int .i64 l, .int .i64 g] w fun e w' => e = .returned (.int .i64 (mk l g)) ∧ Below w.heap.size w w' := by
  obtain ⟨z1, p0, p1, p2, p3, h0, h1, h2, h3, h4, h5⟩ := hl
  by_cases hg : g < 1048576
  all_goals
    go_enter Tryd.func14, Tryd.ntmps14
    go_wp2
    all_goals
      go_ret
      refine ⟨ret_int ?_, Below.refl _ _⟩
      first | (simp [mk]; intros; omega) | (rw [mk, if_pos (by omega), bits_or_comm, i64_join 12 _ _ (by omega) (by omega) (by omega) (by omega) (by omega) (by omega)]; omega)
theorem of_any (x : Int) (w : World) :
    Calls Tryd.prog 45 #[.int .i64 x] w fun e w' => e = .returned (.func (.func 50) #[] #[.pointer (some ⟨w.heap.size, 0, none⟩)]) ∧ w.alloc (.cells #[.int .i64 x] 3) = w' := by
  go_enter Tryd.func45, Tryd.ntmps45
  go_wp2
  go_ret
  exact ⟨rfl, rfl⟩
/-- A reader at a part, where its word lies. -/
theorem ofc_at (x a b r : Int) (p : Addr) (w : World) (ha : 0 ≤ a) (ha2 : a ≤ 40) (hb : 0 ≤ b) (hb2 : b ≤ 40) (hr : x / 2 ^ a.toNat % 2 ^ b.toNat = r) (hc : w.cell? p = some (.int .i64 x)) (h0 : 0 ≤ x) (h1 : x ≤ 1099511627775) :
    Calls Tryd.prog 50 #[.agg #[.int .i64 a, .int .i64 b], .pointer (some p)] w fun e w' => e = .returned (.int .i64 r) ∧ Below w.heap.size w w' := by
  subst hr
  exact ofc_any x a b p w hc (World.block_lt_of_cell? w p hc) h0 h1 ha ha2 hb hb2
theorem ofc_line (x : Int) (p : Addr) (w : World) (hc : w.cell? p = some (.int .i64 x)) (h0 : 0 ≤ x) (h1 : x ≤ 1099511627775) :
    Calls Tryd.prog 50 #[.agg #[.int .i64 0, .int .i64 12], .pointer (some p)] w fun e w' => e = .returned (.int .i64 (x % 4096)) ∧ Below w.heap.size w w' :=
  ofc_at x 0 12 _ p w (by decide) (by decide) (by decide) (by decide) (by simp) hc h0 h1
theorem ofc_gen (x : Int) (p : Addr) (w : World) (hc : w.cell? p = some (.int .i64 x)) (h0 : 0 ≤ x) (h1 : x < 4294967296) :
    Calls Tryd.prog 50 #[.agg #[.int .i64 12, .int .i64 20], .pointer (some p)] w fun e w' => e = .returned (.int .i64 (x / 4096)) ∧ Below w.heap.size w w' :=
  ofc_at x 12 20 _ p w (by decide) (by decide) (by decide) (by decide) (by show x / 4096 % 1048576 = _; omega) hc h0 (by omega)
theorem ofc_kind (x : Int) (p : Addr) (w : World) (hc : w.cell? p = some (.int .i64 x)) (h0 : 0 ≤ x) (h1 : x < 134217728) :
    Calls Tryd.prog 50 #[.agg #[.int .i64 0, .int .i64 4], .pointer (some p)] w fun e w' => e = .returned (.int .i64 (x % 16)) ∧ Below w.heap.size w w' :=
  ofc_at x 0 4 _ p w (by decide) (by decide) (by decide) (by decide) (by simp) hc h0 (by omega)
theorem ofc_class (x : Int) (p : Addr) (w : World) (hc : w.cell? p = some (.int .i64 x)) (h0 : 0 ≤ x) (h1 : x < 134217728) :
    Calls Tryd.prog 50 #[.agg #[.int .i64 4, .int .i64 3], .pointer (some p)] w fun e w' => e = .returned (.int .i64 (x / 16 % 8)) ∧ Below w.heap.size w w' :=
  ofc_at x 4 3 _ p w (by decide) (by decide) (by decide) (by decide) rfl hc h0 (by omega)
theorem ofc_hgen (x : Int) (p : Addr) (w : World) (hc : w.cell? p = some (.int .i64 x)) (h0 : 0 ≤ x) (h1 : x < 134217728) :
    Calls Tryd.prog 50 #[.agg #[.int .i64 7, .int .i64 20], .pointer (some p)] w fun e w' => e = .returned (.int .i64 (x / 128)) ∧ Below w.heap.size w w' :=
  ofc_at x 7 20 _ p w (by decide) (by decide) (by decide) (by decide) (by show x / 128 % 1048576 = _; omega) hc h0 (by omega)
end Go.Proofs.YtkkkffnnpmejiaaDoor
