/- The reference's walk of Edge. -/
import Derived.Test.YtlfpkikmofgjfaaRefA
namespace Go.Proofs.Ytlfpkikmofgjfaa
open Go.RowKit

set_option maxRecDepth 100000 in
set_option maxHeartbeats 2000000 in
theorem redge_any {w : World} {v : Value} {hs : List Acc} (k : Hist w v hs) (i j : Nat) (hi : i < hs.length) (hj : j < hs.length) :
    Calls Try.prog 62 #[v, .int .i64 i, .int .i64 j] w fun e w' => e = .returned (.bool (edgeB hs i j)) ∧ ∃ n, w' = w.drewN n := by
  have HK := Lib.hid k
  obtain ⟨b, o, c, rfl, hm, hlt, hc⟩ := k.at (by omega)
  obtain ⟨vr, vw, hx⟩ := hc i hi
  obtain ⟨ur, uw, hy⟩ := hc j hj
  clear hc k
  have HM1 : Hid (∀ n, Calls Try.prog 60 #[vw, uw] (w.drewN n) fun e w' => e = .returned (.bool (meet (tx hs i).writes (tx hs j).writes)) ∧ ∃ n', w' = (w.drewN n).drewN n') := Lib.hid fun n => meet_any (hx.rd.w.drewN n) (hy.rd.w.drewN n)
  have HM2 : Hid (∀ m n, Calls Try.prog 60 #[vw, ur] (w.drewN (m + n)) fun e w' => e = .returned (.bool (meet (tx hs i).writes (tx hs j).reads)) ∧ ∃ n', w' = w.drewN (m + n')) := Lib.hid fun m n => (meet_any (hx.rd.w.drewN (m + n)) (hy.rd.r.drewN (m + n))).mono fun e w' ⟨h, n', h'⟩ => ⟨h, n + n', by rw [h', World.drewN_drewN]; congr 1; omega⟩
  have HR := Lib.hid (show edgeB hs i j = (decide (i ≠ j) && (tx hs i).done && (tx hs j).done && (meet (tx hs i).writes (tx hs j).writes && decide ((tx hs i).stamp < (tx hs j).stamp) || meet (tx hs i).writes (tx hs j).reads && decide ((tx hs i).stamp ≤ (tx hs j).snap) || antiB hs i j)) from rfl)
  have HA := Lib.hid (fun n => ranti_any (HK.out.drewN n) i j hi hj)
  obtain ⟨_, _, c0, c1, c2, c3, c4, c5⟩ := hx
  obtain ⟨_, _, d0, d1, d2, d3, d4, d5⟩ := hy
  clear c0 c4 d0
  generalize (tx hs i).done = dx at *
  generalize (tx hs j).done = dy at *
  generalize (tx hs j).snap = sy at *
  generalize (tx hs i).stamp = tx' at *
  generalize (tx hs j).stamp = ty at *
  generalize meet (tx hs i).writes (tx hs j).writes = m1 at *
  generalize meet (tx hs i).writes (tx hs j).reads = m2 at *
  generalize antiB hs i j = ba at *
  by_cases hij : i = j
  · have hne : ((i : Int) == (j : Int)) = true := by simp [hij]
    have hr : edgeB hs i j = false := by rw [HR.out]; simp [hij]
    rw [hr]
    clear HR hr hij
    go_enter Try.func62, Try.ntmps62
    go_wp2_with fail
    go_ret
    exact ⟨rfl, 0, rfl⟩
  have hne : ((i : Int) == (j : Int)) = false := by simp; omega
  rw [decide_eq_true hij, Bool.true_and] at HR
  clear hij
  cases dx
  · rw [HR.out]
    go_enter Try.func62, Try.ntmps62
    go_wp2_with fail
    go_ret
    exact ⟨rfl, 0, rfl⟩
  cases dy
  · rw [HR.out]
    go_enter Try.func62, Try.ntmps62
    go_wp2_with fail
    go_ret
    exact ⟨rfl, 0, rfl⟩
  rw [HR.out]
  clear HR
  simp only [Bool.true_and]
  by_cases q1 : tx' < ty
  all_goals
    by_cases q2 : tx' ≤ sy
    all_goals
      first | rw [decide_eq_true q1] | rw [decide_eq_false q1]
      first | rw [decide_eq_true q2] | rw [decide_eq_false q2]
      cases m1 <;> cases m2
      all_goals
        simp only [Bool.true_and, Bool.false_and, Bool.false_or, Bool.true_or]
        go_enter Try.func62, Try.ntmps62
        go_wp2_with fail
        go_quiet ((go_at_call 60; exact Calls.quiet_of (HM1.out _)))
        go_wp2_with fail
        go_quiet ((go_at_call 60; exact HM2.out _ _))
        go_wp2_with fail
        refine (HA.out _).mono ?_
        rintro e w1 ⟨rfl, n1, rfl⟩
        go_wp2_with fail
        go_ret
        first | exact ⟨rfl, _, rfl⟩ | exact ⟨ret_bool (by first | (simp; done) | (simp; intro h; exfalso; omega)), _, rfl⟩
end Go.Proofs.Ytlfpkikmofgjfaa
