/- The reference's walk of Structure. -/
import Derived.Test.YtlfpkikmofgjfaaRefA
namespace Go.Proofs.Ytlfpkikmofgjfaa
open Go.RowKit

set_option maxRecDepth 100000 in
set_option maxHeartbeats 2000000 in
theorem rstruct_any {w : World} {v : Value} {hs : List Acc} (h : Hist w v hs) (i j k : Nat) (hi : i < hs.length) (hj : j < hs.length) (hk : k < hs.length) :
    Calls Try.prog 65 #[v, .int .i64 i, .int .i64 j, .int .i64 k] w fun e w' => e = .returned (.bool (structB hs i j k)) ∧ ∃ n, w' = w.drewN n := by
  have HK := Lib.hid h
  obtain ⟨b, o, c, rfl, hm, hlt, hc⟩ := h.at (by omega)
  obtain ⟨vr, vw, hx⟩ := hc i hi
  obtain ⟨ur, uw, hy⟩ := hc j hj
  obtain ⟨tr, tw, hz⟩ := hc k hk
  clear hc h
  have HS := Lib.hid (show structB hs i j k = (antiB hs i j && antiB hs j k && decide ((tx hs k).stamp < (tx hs j).stamp) && (decide (i = k) || (if 0 < (tx hs i).writes.length then decide ((tx hs k).stamp < (tx hs i).stamp) else decide ((tx hs k).stamp ≤ (tx hs i).snap)))) by
    unfold structB
    congr 2
    cases (tx hs i).writes <;> simp)
  obtain ⟨Aw, cw, rfl, hwm⟩ := hx.rd.w.shape
  have HA1 := Lib.hid (ranti_any HK.out i j hi hj)
  have HA2 := Lib.hid (fun n => ranti_any (HK.out.drewN n) j k hj hk)
  obtain ⟨_, _, c0, c1, c2, c3, c4, c5⟩ := hx
  obtain ⟨_, _, d0, d1, d2, d3, d4, d5⟩ := hy
  obtain ⟨_, _, e0, e1, e2, e3, e4, e5⟩ := hz
  clear c0 c2 c4 d0 d1 d2 d4 d5 e0 e1 e2 e4 e5
  generalize antiB hs i j = A1 at *
  generalize antiB hs j k = A2 at *
  generalize (tx hs i).stamp = sx at *
  generalize (tx hs j).stamp = sy at *
  generalize (tx hs k).stamp = sz at *
  generalize (tx hs i).snap = nx at *
  generalize (tx hs i).writes.length = lw at *
  clear HK
  cases A1
  · rw [HS.out]
    go_enter Try.func65, Try.ntmps65
    go_wp2_with fail
    refine HA1.out.mono ?_
    rintro e w1 ⟨rfl, n1, rfl⟩
    go_wp2_with fail
    refine (HA2.out _).mono ?_
    rintro e w1 ⟨rfl, n1, rfl⟩
    go_wp2_with fail
    go_quiet (fail)
    go_wp2_with fail
    all_goals
      go_ret
      first | exact ⟨rfl, _, rfl⟩ | exact ⟨rfl, _, World.drewN_drewN _ _ _⟩
  cases A2
  · rw [HS.out]
    go_enter Try.func65, Try.ntmps65
    go_wp2_with fail
    refine HA1.out.mono ?_
    rintro e w1 ⟨rfl, n1, rfl⟩
    go_wp2_with fail
    refine (HA2.out _).mono ?_
    rintro e w1 ⟨rfl, n1, rfl⟩
    go_wp2_with fail
    go_quiet (fail)
    go_wp2_with fail
    all_goals
      go_ret
      first | exact ⟨rfl, _, rfl⟩ | exact ⟨rfl, _, World.drewN_drewN _ _ _⟩
  by_cases t1 : sy ≤ sz
  · have hr : structB hs i j k = false := by rw [HS.out, decide_eq_false (show ¬ sz < sy by omega)]; rfl
    rw [hr]
    clear hr
    go_enter Try.func65, Try.ntmps65
    go_wp2_with fail
    refine HA1.out.mono ?_
    rintro e w1 ⟨rfl, n1, rfl⟩
    go_wp2_with fail
    refine (HA2.out _).mono ?_
    rintro e w1 ⟨rfl, n1, rfl⟩
    go_wp2_with fail
    go_quiet (fail)
    go_wp2_with fail
    all_goals
      go_ret
      first | exact ⟨rfl, _, rfl⟩ | exact ⟨rfl, _, World.drewN_drewN _ _ _⟩
  have HS2 := Lib.hid (show structB hs i j k = (decide (i = k) || (if 0 < lw then decide (sz < sx) else decide (sz ≤ nx))) by rw [HS.out, decide_eq_true (show sz < sy by omega)]; rfl)
  clear HS
  by_cases t2 : i = k
  · have hb : ((i : Int) == (k : Int)) = true := by simp [t2]
    have hr : structB hs i j k = true := by rw [HS2.out, decide_eq_true t2]; rfl
    rw [hr]
    clear hr t2
    go_enter Try.func65, Try.ntmps65
    go_wp2_with fail
    refine HA1.out.mono ?_
    rintro e w1 ⟨rfl, n1, rfl⟩
    go_wp2_with fail
    refine (HA2.out _).mono ?_
    rintro e w1 ⟨rfl, n1, rfl⟩
    go_wp2_with fail
    go_quiet (fail)
    go_wp2_with fail
    all_goals
      go_ret
      first | exact ⟨rfl, _, rfl⟩ | exact ⟨rfl, _, World.drewN_drewN _ _ _⟩
  have hb : ((i : Int) == (k : Int)) = false := by simp; omega
  rw [decide_eq_false t2, Bool.false_or] at HS2
  clear t2
  by_cases t3 : 0 < lw
  · rw [if_pos t3] at HS2
    rw [HS2.out]
    go_enter Try.func65, Try.ntmps65
    go_wp2_with fail
    refine HA1.out.mono ?_
    rintro e w1 ⟨rfl, n1, rfl⟩
    go_wp2_with fail
    refine (HA2.out _).mono ?_
    rintro e w1 ⟨rfl, n1, rfl⟩
    go_wp2_with fail
    go_quiet (fail)
    go_wp2_with fail
    go_quiet (fail)
    go_wp2_with fail
    all_goals
      go_ret
      first | exact ⟨rfl, _, rfl⟩ | exact ⟨rfl, _, World.drewN_drewN _ _ _⟩
  · rw [if_neg t3] at HS2
    rw [HS2.out]
    go_enter Try.func65, Try.ntmps65
    go_wp2_with fail
    refine HA1.out.mono ?_
    rintro e w1 ⟨rfl, n1, rfl⟩
    go_wp2_with fail
    refine (HA2.out _).mono ?_
    rintro e w1 ⟨rfl, n1, rfl⟩
    go_wp2_with fail
    go_quiet (fail)
    go_wp2_with fail
    go_quiet (fail)
    go_wp2_with fail
    all_goals
      go_ret
      first | exact ⟨rfl, _, rfl⟩ | exact ⟨rfl, _, World.drewN_drewN _ _ _⟩
end Go.Proofs.Ytlfpkikmofgjfaa
