/- The reference's walks of anti and Edge. -/
import Derived.Test.YtlfpkikmofgjfaaWalkD
namespace Go.Proofs.Ytlfpkikmofgjfaa
open Go.RowKit

/-- All transactions of a history that is given as a slice, at one place. -/
theorem Hist.at {w : World} {v : Value} {hs : List Acc} (k : Hist w v hs) (hp : 0 < hs.length) : ∃ b o c, v = .slice (some ⟨b, o, none⟩) hs.length c ∧ hs.length ≤ 9223372036854775807 ∧ b < w.heap.size ∧ ∀ j, j < hs.length → ∃ vr vw, At w b (o + j * 6) (tx hs j) vr vw := by
  obtain ⟨A, c, rfl, hm, hcap, hc⟩ := k.shape
  obtain ⟨b, o, vr, vw, rfl, ha⟩ := hc 0 hp
  refine ⟨b, o, c, rfl, hm, ha.lt, fun j hj => ?_⟩
  obtain ⟨b', o', ur, uw, e, hb⟩ := hc j hj
  injection e with e
  injection e with e1 e2
  subst e1 e2
  exact ⟨ur, uw, hb⟩
set_option maxRecDepth 100000 in
set_option maxHeartbeats 1000000 in
theorem ranti_any {w : World} {v : Value} {hs : List Acc} (k : Hist w v hs) (i j : Nat) (hi : i < hs.length) (hj : j < hs.length) :
    Calls Try.prog 61 #[v, .int .i64 i, .int .i64 j] w fun e w' => e = .returned (.bool (antiB hs i j)) ∧ ∃ n, w' = w.drewN n := by
  obtain ⟨b, o, c, rfl, hm, hlt, hc⟩ := k.at (by omega)
  obtain ⟨vr, vw, hx⟩ := hc i hi
  obtain ⟨ur, uw, hy⟩ := hc j hj
  clear hc k
  have HMt : Hid (∀ n, Calls Try.prog 60 #[vr, uw] (w.drewN n) fun e w' => e = .returned (.bool (meet (tx hs i).reads (tx hs j).writes)) ∧ ∃ n', w' = (w.drewN n).drewN n') := Lib.hid fun n => meet_any (hx.rd.r.drewN n) (hy.rd.w.drewN n)
  have HR := Lib.hid (show antiB hs i j = (decide (i ≠ j) && (tx hs i).done && (tx hs j).done && meet (tx hs i).reads (tx hs j).writes && decide ((tx hs i).snap < (tx hs j).stamp)) from rfl)
  obtain ⟨_, _, c0, c1, c2, c3, c4, c5⟩ := hx
  obtain ⟨_, _, d0, d1, d2, d3, d4, d5⟩ := hy
  clear c0 c3 c5 d0 d1 d4
  generalize (tx hs i).done = dx at *
  generalize (tx hs j).done = dy at *
  generalize (tx hs i).snap = sx at *
  generalize (tx hs j).stamp = ty at *
  generalize meet (tx hs i).reads (tx hs j).writes = bm at *
  by_cases hij : i = j
  · have hne : ((i : Int) != (j : Int)) = false := by simp [hij]
    have hr : antiB hs i j = false := by rw [HR.out]; simp [hij]
    rw [hr]
    clear HR hr hij
    go_enter Try.func61, Try.ntmps61
    go_wp2_with fail
    go_quiet (fail)
    go_wp2_with fail
    go_ret
    exact ⟨rfl, _, rfl⟩
  have hne : ((i : Int) != (j : Int)) = true := by simp; omega
  rw [decide_eq_true hij, Bool.true_and] at HR
  clear hij
  cases dx
  · rw [HR.out]
    go_enter Try.func61, Try.ntmps61
    go_wp2_with fail
    go_quiet (fail)
    go_wp2_with fail
    go_ret
    exact ⟨rfl, _, rfl⟩
  cases dy
  · rw [HR.out]
    go_enter Try.func61, Try.ntmps61
    go_wp2_with fail
    go_quiet (fail)
    go_wp2_with fail
    go_ret
    exact ⟨rfl, _, rfl⟩
  cases bm
  · rw [HR.out]
    go_enter Try.func61, Try.ntmps61
    go_wp2_with fail
    go_quiet ((go_at_call 60; exact Calls.quiet_of (HMt.out _)))
    go_wp2_with fail
    go_ret
    exact ⟨rfl, _, rfl⟩
  rw [HR.out]
  simp only [Bool.true_and]
  go_enter Try.func61, Try.ntmps61
  go_wp2_with fail
  go_quiet ((go_at_call 60; exact Calls.quiet_of (HMt.out _)))
  go_wp2_with fail
  go_ret
  exact ⟨rfl, _, rfl⟩
end Go.Proofs.Ytlfpkikmofgjfaa
