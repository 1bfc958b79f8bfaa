/- The walks of Check, Chunk and Within, of the program and of the specification, and of Mapped. -/
import Derived.Test.YtkkkffnnpmejiaaDoorWalkD
namespace Go.Proofs.YtkkkffnnpmejiaaDoor
open Go.RowKit

/-- Where a walk stands: what was there is as it was, and the tables hold what they held. -/
structure St (w0 w : World) : Prop where
  b : Below w0.heap.size w0 w
  l : Laid w
theorem St.go {w0 w w' : World} (h : St w0 w) (k : Below w.heap.size w w') : St w0 w' := ⟨h.b.trans (k.mono h.b.size), h.l.below k⟩
theorem St.here {w : World} (h : Laid w) : St w w := ⟨Below.refl _ _, h⟩
theorem St.alloc {w0 w : World} (h : St w0 w) (o : Obj) : St w0 (w.alloc o) := h.go ((Below.refl _ _).alloc (Nat.le_refl _) _)
theorem St.drewN {w0 w : World} (h : St w0 w) (n : Nat) : St w0 (w.drewN n) := h.go (below_drewN (Below.refl _ _) n)

set_option maxHeartbeats 400000 in
theorem check_any (p h : Int) (w : World) (hl : Laid w) :
    Calls Tryd.prog 17 #[.int .i64 p, .int .i64 h] w fun e w' => e = .returned (.int .i64 (check 1 70 p h)) ∧ Below w.heap.size w w' := by
  have hS := St.here hl
  clear hl
  by_cases c0 : p = 0
  · subst c0
    have er : check 1 70 0 h = 1 := by simp [check]
    rw [er]
    clear er
    go_enter Tryd.func17, Tryd.ntmps17
    go_wp2_with fail
    go_ret
    exact ⟨rfl, hS.b⟩
  have e0 : (p == 0) = false := by simp [c0]
  by_cases c : right p = true
  case neg =>
    have er : check 1 70 p h = 1 := by simp [check, c]
    rw [er]
    have hC := Lib.hid ((Bool.not_eq_true _).mp c)
    clear c er
    go_enter Tryd.func17, Tryd.ntmps17
    go_wp2_with (go_at_call 20; refine (right_any p _ (St.l (w0 := w) (by assumption))).mono ?_; rw [hC.out]; rintro e w1 ⟨rfl, hb⟩; have hS1 : St w w1 := St.go (by assumption) hb)
    go_ret
    exact ⟨rfl, St.b (by assumption)⟩
  have hC := Lib.hid c
  by_cases d : formed h = true
  case neg =>
    have er : check 1 70 p h = 1 := by simp [check, d]
    rw [er]
    have hD := Lib.hid ((Bool.not_eq_true _).mp d)
    clear c d er
    go_enter Tryd.func17, Tryd.ntmps17
    go_wp2_with (first | (go_at_call 20; refine (right_any p _ (St.l (w0 := w) (by assumption))).mono ?_; rw [hC.out]; rintro e w1 ⟨rfl, hb⟩; have hS1 : St w w1 := St.go (by assumption) hb) | (go_at_call 24; refine (formed_any h _ (St.l (w0 := w) (by assumption))).mono ?_; rw [hD.out]; rintro e w1 ⟨rfl, hb⟩; have hS1 : St w w1 := St.go (by assumption) hb))
    go_ret
    exact ⟨rfl, St.b (by assumption)⟩
  have hD := Lib.hid d
  have er : check 1 70 p h = if kind h = 0 ∨ generation h ≠ gen p then 70 else 0 := by simp [check, c, d, c0]
  rw [er]
  clear er c d
  by_cases k0 : kind h = 0
  · rw [if_pos (.inl k0)]
    have hK := Lib.hid k0
    clear k0
    go_enter Tryd.func17, Tryd.ntmps17
    go_wp2_with (first | (go_at_call 20; refine (right_any p _ (St.l (w0 := w) (by assumption))).mono ?_; rw [hC.out]; rintro e w1 ⟨rfl, hb⟩; have hS1 : St w w1 := St.go (by assumption) hb) | (go_at_call 24; refine (formed_any h _ (St.l (w0 := w) (by assumption))).mono ?_; rw [hD.out]; rintro e w1 ⟨rfl, hb⟩; have hS1 : St w w1 := St.go (by assumption) hb) | (go_at_call 21; refine (kind_any h _ (St.l (w0 := w) (by assumption))).mono ?_; rw [hK.out]; rintro e w1 ⟨rfl, hb⟩; have hS1 : St w w1 := St.go (by assumption) hb))
    go_ret
    exact ⟨rfl, St.b (by assumption)⟩
  have ek : (kind h == 0) = false := by simp [k0]
  by_cases kg : generation h = gen p
  · rw [if_neg (by rintro (h | h); exact k0 h; exact h kg)]
    have hK := Lib.hid kg
    clear kg
    go_enter Tryd.func17, Tryd.ntmps17
    go_wp2_with (first | (go_at_call 20; refine (right_any p _ (St.l (w0 := w) (by assumption))).mono ?_; rw [hC.out]; rintro e w1 ⟨rfl, hb⟩; have hS1 : St w w1 := St.go (by assumption) hb) | (go_at_call 24; refine (formed_any h _ (St.l (w0 := w) (by assumption))).mono ?_; rw [hD.out]; rintro e w1 ⟨rfl, hb⟩; have hS1 : St w w1 := St.go (by assumption) hb) | (go_at_call 21; refine (kind_any h _ (St.l (w0 := w) (by assumption))).mono ?_; rintro e w1 ⟨rfl, hb⟩; have hS1 : St w w1 := St.go (by assumption) hb) | (go_at_call 23; refine (generation_any h _ (St.l (w0 := w) (by assumption))).mono ?_; rw [hK.out]; rintro e w1 ⟨rfl, hb⟩; have hS1 : St w w1 := St.go (by assumption) hb) | (go_at_call 19; refine (gen_any p _ (St.l (w0 := w) (by assumption))).mono ?_; rintro e w1 ⟨rfl, hb⟩; have hS1 : St w w1 := St.go (by assumption) hb))
    go_ret
    exact ⟨rfl, St.b (by assumption)⟩
  · rw [if_pos (.inr kg)]
    have ekg : (generation h != gen p) = true := by simp [kg]
    go_enter Tryd.func17, Tryd.ntmps17
    go_wp2_with (first | (go_at_call 20; refine (right_any p _ (St.l (w0 := w) (by assumption))).mono ?_; rw [hC.out]; rintro e w1 ⟨rfl, hb⟩; have hS1 : St w w1 := St.go (by assumption) hb) | (go_at_call 24; refine (formed_any h _ (St.l (w0 := w) (by assumption))).mono ?_; rw [hD.out]; rintro e w1 ⟨rfl, hb⟩; have hS1 : St w w1 := St.go (by assumption) hb) | (go_at_call 21; refine (kind_any h _ (St.l (w0 := w) (by assumption))).mono ?_; rintro e w1 ⟨rfl, hb⟩; have hS1 : St w w1 := St.go (by assumption) hb) | (go_at_call 23; refine (generation_any h _ (St.l (w0 := w) (by assumption))).mono ?_; rintro e w1 ⟨rfl, hb⟩; have hS1 : St w w1 := St.go (by assumption) hb) | (go_at_call 19; refine (gen_any p _ (St.l (w0 := w) (by assumption))).mono ?_; rintro e w1 ⟨rfl, hb⟩; have hS1 : St w w1 := St.go (by assumption) hb))
    go_ret
    exact ⟨rfl, St.b (by assumption)⟩
end Go.Proofs.YtkkkffnnpmejiaaDoor
