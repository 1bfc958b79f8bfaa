/- The walk of the reference's Check. -/
import Derived.Test.YtlfpkikmofgjfaaWalkD
namespace Go.Proofs.Ytlfpkikmofgjfaa
open Go.RowKit

theorem badB_no {hs : List Acc} {k : Nat} (h1 : formedB (tx hs k) = true) (h2 : ∀ j, j < k → ¬ ((tx hs k).stamp ≠ 0 ∧ (tx hs k).stamp = (tx hs j).stamp)) : badB hs k = false := by
  unfold badB
  rw [h1]
  simp only [Bool.not_true, Bool.false_or]
  rw [anyUpto_not]
  exact fun j hj => decide_eq_false (h2 j hj)
theorem badB_stamp {hs : List Acc} {k j : Nat} (hj : j < k) (h : (tx hs k).stamp ≠ 0 ∧ (tx hs k).stamp = (tx hs j).stamp) : badB hs k = true := by
  unfold badB
  rw [Bool.or_eq_true]
  exact .inr (anyUpto_iff.2 ⟨j, hj, decide_eq_true h⟩)
theorem badB_formed {hs : List Acc} {k : Nat} (h : formedB (tx hs k) = false) : badB hs k = true := by
  unfold badB
  rw [h]
  rfl
set_option maxRecDepth 100000 in
set_option maxHeartbeats 4000000 in
theorem rcheck_any {w : World} {v : Value} {hs : List Acc} (k : Hist w v hs) :
    Calls Try.prog 25 #[v] w fun e w' => e = .returned (.int .i64 (checkL hs)) ∧ Below w.heap.size w w' := by
  obtain ⟨A, c, rfl, hm, hcap, hc⟩ := k.shape
  have HC := Lib.hid hc
  clear hc k
  by_cases hl : 100 < hs.length
  · have HR := Lib.hid (checkL_len hl)
    go_enter Try.func25, Try.ntmps25
    go_wp2_with fail
    go_ret
    exact ⟨ret_int HR.out.symm, Below.refl _ _⟩
  have HL := Lib.hid hl
  go_enter Try.func25, Try.ntmps25
  go_wp2_with fail
  go_loopw [3] (fun i wr => ∃ k : Nat, i = .int .i64 k ∧ k ≤ hs.length ∧ Below w.heap.size w wr ∧ Hid (∀ j, j < k → (tx hs j).reads.length ≤ 64 ∧ (tx hs j).writes.length ≤ 64)) (fun i _ => hs.length - (intOf i).toNat)
  case atStart => exact ⟨0, rfl, by omega, Below.refl _ _, Lib.hid (fun j hj => by omega)⟩
  case round =>
    obtain ⟨k, rfl, hk, hB, HN⟩ := hrel
    have HB := Lib.hid hB
    have hsz := hB.size
    clear hB
    by_cases hlk : k < hs.length
    · obtain ⟨b, o, vr, vw, rfl, ha⟩ := HC.out k hlk
      obtain ⟨Ar, cr, rfl, hrm⟩ := ha.rd.r.shape
      obtain ⟨Aw, cw, rfl, hwm⟩ := ha.rd.w.shape
      obtain ⟨lt, _, c0, c1, c2, c3, c4, c5⟩ := ha.below HB.out
      obtain ⟨x, hx⟩ : ∃ x, x = tx hs k := ⟨_, rfl⟩
      rw [← hx] at c0 c1 c2 c3 c4 c5 hrm hwm
      have HX := Lib.hid hx
      clear hx ha
      by_cases e1 : 64 < x.reads.length
      · have HR := Lib.hid (checkL_big HL.out hlk (.inl (by rw [← HX.out]; exact e1)))
        go_wp2_with fail
        go_ret
        exact ⟨ret_int HR.out.symm, HB.out⟩
      by_cases e2 : 64 < x.writes.length
      · have HR := Lib.hid (checkL_big HL.out hlk (.inr (by rw [← HX.out]; exact e2)))
        go_wp2_with fail
        go_ret
        exact ⟨ret_int HR.out.symm, HB.out⟩
      have HN' := Lib.hid (show ∀ j, j < k + 1 → (tx hs j).reads.length ≤ 64 ∧ (tx hs j).writes.length ≤ 64 from fun j hj => by
        by_cases e : j = k
        · subst e; rw [← HX.out]; omega
        · exact HN.out j (by omega))
      go_wp2_with fail
      go_roundw
      case rel => exact ⟨k + 1, by go_num, by omega, HB.out, HN'⟩
      case measure => simp [intOf]; omega
    · obtain rfl : k = hs.length := by omega
      have HBig := Lib.hid (show bigB hs = false by
        unfold bigB
        rw [anyUpto_not]
        intro i hi
        have := HN.out i hi
        exact decide_eq_false (by omega))
      clear HN
      go_wp2_with fail
      go_loopw [4] (fun i wr => ∃ k : Nat, i = .int .i64 k ∧ k ≤ hs.length ∧ Below w.heap.size w wr ∧ Hid (∀ j, j < k → badB hs j = false)) (fun i _ => hs.length - (intOf i).toNat)
      case atStart => exact ⟨0, rfl, by omega, HB.out, Lib.hid (fun j hj => by omega)⟩
      case round =>
        obtain ⟨k, rfl, hk, hB, HN⟩ := hrel
        clear HB
        have HB := Lib.hid hB
        have hsz1 := hB.size
        clear hB
        by_cases hlk : k < hs.length
        · obtain ⟨b, o, vr, vw, rfl, ha⟩ := HC.out k hlk
          obtain ⟨Ar, cr, rfl, hrm⟩ := ha.rd.r.shape
          obtain ⟨Aw, cw, rfl, hwm⟩ := ha.rd.w.shape
          obtain ⟨lt, hrd, c0, c1, c2, c3, c4, c5⟩ := ha.below HB.out
          have HC2 : Hid (∀ j, j < hs.length → ∃ vr vw, At w b (o + j * 6) (tx hs j) vr vw) := Lib.hid fun j hj => by
            obtain ⟨b', o', vr, vw, e, ha⟩ := HC.out j hj
            injection e with e
            injection e with e1 e2
            subst e1 e2
            exact ⟨vr, vw, ha⟩
          have HFm := Lib.hid (rformed_any hrd)
          have HA := Lib.hid ha
          obtain ⟨x, hx⟩ : ∃ x, x = tx hs k := ⟨_, rfl⟩
          rw [← hx] at c0 c1 c2 c3 c4 c5 hrd hrm hwm HFm HA
          have HX := Lib.hid hx
          unfold accV at HFm
          clear hx ha hrd
          go_wp2_with fail
          refine HFm.out.mono ?_
          obtain ⟨fb, hfb⟩ : ∃ fb, fb = formedB x := ⟨_, rfl⟩
          rw [← hfb]
          have HFB := Lib.hid hfb
          rintro e w3 ⟨rfl, hb3⟩
          have HB3 := Lib.hid (HB.out.trans (hb3.mono hsz1))
          clear hb3 hfb c0 c1 c2 c3 c4 c5
          cases fb
          · have HR := Lib.hid (checkL_bad HL.out HBig.out hlk (badB_formed (by rw [← HX.out, ← HFB.out])))
            go_wp2_with fail
            go_ret
            exact ⟨ret_int HR.out.symm, HB3.out⟩
          go_wp2_with fail
          go_loopw [6] (fun i wr => ∃ m : Nat, i = .int .i64 m ∧ m ≤ k ∧ Below w.heap.size w wr ∧ Hid (∀ j, j < m → ¬ ((tx hs k).stamp ≠ 0 ∧ (tx hs k).stamp = (tx hs j).stamp))) (fun i _ => k - (intOf i).toNat)
          case atStart => exact ⟨0, rfl, by omega, HB3.out, Lib.hid (fun j hj => by omega)⟩
          case round =>
            obtain ⟨m, rfl, hmk, hBi, HNi⟩ := hrel
            have HBi := Lib.hid hBi
            have hszi := hBi.size
            clear hBi
            by_cases hmlt : m < k
            · obtain ⟨ur, uw, ha⟩ := HC2.out m (by omega)
              have d3 := (HA.out.below HBi.out).c3
              have e3 := (ha.below HBi.out).c3
              obtain ⟨s, hs'⟩ : ∃ s, s = x.stamp := ⟨_, rfl⟩
              obtain ⟨t, ht⟩ : ∃ t, t = (tx hs m).stamp := ⟨_, rfl⟩
              rw [← hs'] at d3
              rw [← ht] at e3
              have HS := Lib.hid hs'
              have HT := Lib.hid ht
              clear hs' ht ha
              by_cases q1 : s = 0
              · have q1b : (s != 0) = false := by simp [q1]
                have HNn := Lib.hid (show ∀ j, j < m + 1 → ¬ ((tx hs k).stamp ≠ 0 ∧ (tx hs k).stamp = (tx hs j).stamp) from fun j hj h => h.1 (by rw [← HX.out, ← HS.out]; exact q1))
                clear q1
                go_wp2_with fail
                go_quiet (fail)
                go_wp2_with fail
                go_roundw
                case rel => exact ⟨m + 1, by go_num, by omega, Below.drewN' HBi.out _, HNn⟩
                case measure => simp [intOf]; omega
              · have q1b : (s != 0) = true := by simp [q1]
                by_cases q2 : s = t
                · have q2b : (s == t) = true := by simp [q2]
                  have HR := Lib.hid (checkL_bad HL.out HBig.out hlk (badB_stamp hmlt ⟨by rw [← HX.out, ← HS.out]; exact q1, by rw [← HX.out, ← HS.out, ← HT.out]; exact q2⟩))
                  clear q1 q2
                  go_wp2_with fail
                  go_quiet (fail)
                  go_wp2_with fail
                  go_ret
                  exact ⟨ret_int HR.out.symm, Below.drewN' HBi.out _⟩
                · have q2b : (s == t) = false := by simp [q2]
                  have HNn := Lib.hid (show ∀ j, j < m + 1 → ¬ ((tx hs k).stamp ≠ 0 ∧ (tx hs k).stamp = (tx hs j).stamp) from fun j hj h => by
                    by_cases e : j = m
                    · subst e; exact q2 (by rw [HS.out, HT.out, HX.out]; exact h.2)
                    · exact HNi.out j (by omega) h)
                  clear q1 q2
                  go_wp2_with fail
                  go_quiet (fail)
                  go_wp2_with fail
                  go_roundw
                  case rel => exact ⟨m + 1, by go_num, by omega, Below.drewN' HBi.out _, HNn⟩
                  case measure => simp [intOf]; omega
            · obtain rfl : m = k := by omega
              have HN' := Lib.hid (show ∀ j, j < m + 1 → badB hs j = false from fun j hj => by
                by_cases e : j = m
                · subst e; exact badB_no (by rw [← HX.out, ← HFB.out]) HNi.out
                · exact HN.out j (by omega))
              go_wp2_with fail
              go_roundw
              case rel => exact ⟨m + 1, by go_num, by omega, HBi.out, HN'⟩
              case measure => simp [intOf]; omega
        · obtain rfl : k = hs.length := by omega
          have HBad := Lib.hid (show anyUpto hs.length (badB hs) = false by rw [anyUpto_not]; exact HN.out)
          clear HN
          go_wp2_with fail
          go_loopw [7] (fun i wr => ∃ k : Nat, i = .int .i64 k ∧ k ≤ hs.length ∧ Below w.heap.size w wr ∧ Hid (∀ i j, i < k → j < i → clashB hs i j = false)) (fun i _ => hs.length - (intOf i).toNat)
          case atStart => exact ⟨0, rfl, by omega, HB.out, Lib.hid (fun i j hi => by omega)⟩
          case round =>
            obtain ⟨k, rfl, hk, hB, HCl⟩ := hrel
            clear HB
            have HB := Lib.hid hB
            have hsz1 := hB.size
            clear hB
            by_cases hlk : k < hs.length
            · obtain ⟨b, o, vr, vw, rfl, ha⟩ := HC.out k hlk
              have HC2 : Hid (∀ j, j < hs.length → ∃ vr vw, At w b (o + j * 6) (tx hs j) vr vw) := Lib.hid fun j hj => by
                obtain ⟨b', o', vr, vw, e, ha⟩ := HC.out j hj
                injection e with e
                injection e with e1 e2
                subst e1 e2
                exact ⟨vr, vw, ha⟩
              have HA := Lib.hid ha
              clear ha
              go_wp2_with fail
              go_loopw [8] (fun i wr => ∃ m : Nat, i = .int .i64 m ∧ m ≤ k ∧ Below w.heap.size w wr ∧ Hid (∀ j, j < m → clashB hs k j = false)) (fun i _ => k - (intOf i).toNat)
              case atStart => exact ⟨0, rfl, by omega, HB.out, Lib.hid (fun j hj => by omega)⟩
              case round =>
                obtain ⟨m, rfl, hmk, hBi, HNi⟩ := hrel
                have HBi := Lib.hid hBi
                have hszi := hBi.size
                clear hBi
                by_cases hmlt : m < k
                · obtain ⟨ur, uw, ha⟩ := HC2.out m (by omega)
                  have hx := HA.out.below HBi.out
                  have hy := ha.below HBi.out
                  obtain ⟨Aw, cw, rfl, hwm⟩ := hx.rd.w.shape
                  obtain ⟨Bw, dw, rfl, hym⟩ := hy.rd.w.shape
                  have d1 := hx.c1
                  have d2 := hx.c2
                  have d3 := hx.c3
                  have d5 := hx.c5
                  have e1 := hy.c1
                  have e2 := hy.c2
                  have e3 := hy.c3
                  have e5 := hy.c5
                  have HMt : Hid (∀ n, Calls Try.prog 60 #[.slice Aw (tx hs k).writes.length cw, .slice Bw (tx hs m).writes.length dw] (wr.drewN n) fun e w' => e = .returned (.bool (meet (tx hs k).writes (tx hs m).writes)) ∧ ∃ n', w' = (wr.drewN n).drewN n') := Lib.hid fun n => meet_any (hx.rd.w.drewN n) (hy.rd.w.drewN n)
                  have HCm := Lib.hid (show clashB hs k m = ((tx hs k).done && (tx hs m).done && meet (tx hs k).writes (tx hs m).writes && decide ((tx hs k).snap < (tx hs m).stamp ∧ (tx hs m).snap < (tx hs k).stamp)) from rfl)
                  have HN1 : Hid (clashB hs k m = false → ∀ j, j < m + 1 → clashB hs k j = false) := Lib.hid fun hcl j hj => by
                    by_cases e : j = m
                    · subst e; exact hcl
                    · exact HNi.out j (by omega)
                  clear hx hy ha
                  generalize hdk : (tx hs k).done = dk at *
                  generalize hdm : (tx hs m).done = dm at *
                  generalize hsk : (tx hs k).snap = sk at *
                  generalize hsm : (tx hs m).snap = sm at *
                  generalize htk : (tx hs k).stamp = tk at *
                  generalize htm : (tx hs m).stamp = tm at *
                  generalize hmt : meet (tx hs k).writes (tx hs m).writes = bm at *
                  generalize hlk' : (tx hs k).writes.length = lk at *
                  generalize hlm' : (tx hs m).writes.length = lm at *
                  clear hdk hdm hsk hsm htk htm hmt hlk' hlm'
                  cases dk
                  · have HNn := Lib.hid (HN1.out HCm.out)
                    go_wp2_with fail
                    go_quiet (fail)
                    go_wp2_with fail
                    go_quiet (fail)
                    go_wp2_with fail
                    go_roundw
                    case rel => exact ⟨m + 1, by go_num, by omega, Below.drewN' HBi.out _, HNn⟩
                    case measure => simp [intOf]; omega
                  cases dm
                  · have HNn := Lib.hid (HN1.out HCm.out)
                    go_wp2_with fail
                    go_quiet (fail)
                    go_wp2_with fail
                    go_quiet (fail)
                    go_wp2_with fail
                    go_roundw
                    case rel => exact ⟨m + 1, by go_num, by omega, Below.drewN' HBi.out _, HNn⟩
                    case measure => simp [intOf]; omega
                  go_wp2_with fail
                  go_quiet ((go_at_call 60; exact Calls.quiet_of (HMt.out _)))
                  go_wp2_with fail
                  cases bm
                  · have HNn := Lib.hid (HN1.out HCm.out)
                    go_wp2_with fail
                    go_quiet (fail)
                    go_wp2_with fail
                    go_roundw
                    case rel => exact ⟨m + 1, by go_num, by omega, Below.drewN' HBi.out _, HNn⟩
                    case measure => simp [intOf]; omega
                  by_cases q1 : sk < tm
                  case' neg =>
                    have q1b : decide (sk < tm) = false := decide_eq_false q1
                    have HNn := Lib.hid (HN1.out (HCm.out.trans (by rw [decide_eq_false (fun h => q1 h.1)]; rfl)))
                    go_wp2_with fail
                    go_quiet (fail)
                    go_wp2_with fail
                    go_roundw
                    case rel => exact ⟨m + 1, by go_num, by omega, Below.drewN' HBi.out _, HNn⟩
                    case measure => simp [intOf]; omega
                  have q1b : decide (sk < tm) = true := decide_eq_true q1
                  by_cases q2 : sm < tk
                  case' neg =>
                    have q2b : decide (sm < tk) = false := decide_eq_false q2
                    have HNn := Lib.hid (HN1.out (HCm.out.trans (by rw [decide_eq_false (fun h => q2 h.2)]; rfl)))
                    go_wp2_with fail
                    go_quiet (fail)
                    go_wp2_with fail
                    go_roundw
                    case rel => exact ⟨m + 1, by go_num, by omega, Below.drewN' HBi.out _, HNn⟩
                    case measure => simp [intOf]; omega
                  have q2b : decide (sm < tk) = true := decide_eq_true q2
                  have HR := Lib.hid (checkL_clash HL.out HBig.out HBad.out hlk hmlt (HCm.out.trans (by rw [decide_eq_true ⟨q1, q2⟩]; rfl)))
                  go_wp2_with fail
                  go_quiet (fail)
                  go_wp2_with fail
                  go_ret
                  exact ⟨ret_int HR.out.symm, Below.drewN' (Below.drewN' HBi.out _) _⟩
                · obtain rfl : m = k := by omega
                  have HCn := Lib.hid (show ∀ i j, i < m + 1 → j < i → clashB hs i j = false from fun i j hi hj => by
                    by_cases e : i = m
                    · subst e; exact HNi.out j hj
                    · exact HCl.out i j (by omega) hj)
                  go_wp2_with fail
                  go_roundw
                  case rel => exact ⟨m + 1, by go_num, by omega, HBi.out, HCn⟩
                  case measure => simp [intOf]; omega
            · obtain rfl : k = hs.length := by omega
              have HR := Lib.hid (checkL_ok HL.out HBig.out HBad.out (fun i j hi hj => HCl.out i j hi hj))
              go_wp2_with fail
              go_ret
              exact ⟨ret_int HR.out.symm, HB.out⟩
end Go.Proofs.Ytlfpkikmofgjfaa
