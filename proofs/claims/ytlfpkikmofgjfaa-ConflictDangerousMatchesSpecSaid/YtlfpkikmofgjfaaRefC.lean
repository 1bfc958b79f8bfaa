/- The reference's walks of Anti and Depends. -/
import Derived.Test.YtlfpkikmofgjfaaRefB
import Derived.Test.YtlfpkikmofgjfaaWalkG
namespace Go.Proofs.Ytlfpkikmofgjfaa
open Go.RowKit

set_option maxRecDepth 100000 in
set_option maxHeartbeats 2000000 in
theorem rantiL_any {w : World} {v : Value} {hs : List Acc} (k : Hist w v hs) :
    Calls Try.prog 28 #[v] w fun e w' => IsPairs w e w' (antiL hs) ∧ Below w.heap.size w w' := by
  have HK := Lib.hid k
  obtain ⟨A, c, rfl, hm, hcap, _⟩ := k.shape
  have HCk := Lib.hid (rcheck_any HK.out)
  clear k
  by_cases hv : checkL hs = 0
  case neg =>
    have HR := Lib.hid (show antiL hs = [] by unfold antiL; rw [if_neg hv])
    generalize checkL hs = cc at *
    have hcb : (cc != 0) = true := by simp [hv]
    clear hv
    go_enter Try.func28, Try.ntmps28
    go_wp2_with fail
    refine HCk.out.mono ?_
    rintro e w1 ⟨rfl, hb⟩
    have HB := Lib.hid hb
    clear hb
    go_wp2_with fail
    go_ret
    exact ⟨⟨_, rfl, by rw [HR.out]; exact Prs.nil _ _⟩, HB.out⟩
  have HR := Lib.hid (show antiL hs = pairsOf hs.length (antiB hs) by unfold antiL; rw [if_pos hv])
  have hl := (checkL_zero.1 hv).len
  rw [hv] at HCk
  clear hv
  go_enter Try.func28, Try.ntmps28
  go_wp2_with fail
  refine HCk.out.mono ?_
  rintro e w1 ⟨rfl, hb⟩
  have HB0 := Lib.hid hb
  clear hb
  go_wp2_with fail
  go_loopw [3, 4] (fun v i wr => ∃ k : Nat, i = .int .i64 k ∧ k ≤ hs.length ∧ Prs wr w.heap.size v (pairsTo hs.length (antiB hs) k 0) ∧ (pairsTo hs.length (antiB hs) k 0).length ≤ 100 * k ∧ Below w.heap.size w wr) (fun _ i _ => hs.length - (intOf i).toNat)
  case atStart => exact ⟨0, rfl, by omega, Prs.nil _ _, by simp [pairsTo], HB0.out⟩
  case round =>
    obtain ⟨k, rfl, hk, hpr, hpl, hB⟩ := hrel
    have HPr := Lib.hid hpr
    have HPl := Lib.hid hpl
    have HB := Lib.hid hB
    clear hpr hpl hB
    by_cases hlk : k < hs.length
    · go_wp2_with fail
      go_loopw [3, 5] (fun v i wr => ∃ m : Nat, i = .int .i64 m ∧ m ≤ hs.length ∧ Prs wr w.heap.size v (pairsTo hs.length (antiB hs) k m) ∧ (pairsTo hs.length (antiB hs) k m).length ≤ 100 * k + m ∧ Below w.heap.size w wr) (fun _ i _ => hs.length - (intOf i).toNat)
      case atStart => exact ⟨0, rfl, by omega, HPr.out, by have := HPl.out; omega, HB.out⟩
      case round =>
        obtain ⟨m, rfl, hm', hpr, hpl, hB⟩ := hrel
        clear HPr HPl HB
        have HPr := Lib.hid hpr
        have HPl := Lib.hid hpl
        have HB := Lib.hid hB
        clear hpr hpl hB
        by_cases hlm : m < hs.length
        · have hst := pairsTo_step hs.length (antiB hs) k m
          have HA := Lib.hid (ranti_any (HK.out.below HB.out) k m hlk hlm)
          go_wp2_with fail
          refine HA.out.mono ?_
          by_cases hpt : antiB hs k m = true
          · rw [hpt]
            rw [if_pos hpt] at hst
            have HST := Lib.hid hst
            clear hst hpt HA
            rintro e w2 ⟨rfl, n, rfl⟩
            have HPr1 : Hid (Prs (wr.drewN n) w.heap.size _ (pairsTo hs.length (antiB hs) k m)) := Lib.hid HPr.out
            have HB1 : Hid (Below w.heap.size w (wr.drewN n)) := Lib.hid (Below.drewN' HB.out n)
            have hsz : w.heap.size ≤ (wr.drewN n).heap.size := HB1.out.size
            clear HPr HB
            go_wp2_with (at_builtin; refine wpList_app_pair (wr.drewN n) w.heap.size rfl (.tmp 28) (.tmp 32) rfl _ _ k m rfl rfl HPr1.out (by have := HPl.out; omega) hsz ?_; intro v1 w1 h1 h2 h3; rw [← HST.out] at h1; have H1 := Lib.hid h1; have HB2 := Lib.hid (HB1.out.grown h2 hsz (fun q hq => h3 q hq)); clear h1 h2 h3)
            go_roundw
            case rel => exact ⟨m + 1, by go_num, by omega, H1.out, by rw [HST.out]; have := HPl.out; simp; omega, HB2.out⟩
            case measure => simp [intOf]; omega
          · have hpf : antiB hs k m = false := by simpa using hpt
            rw [hpf]
            rw [if_neg hpt, List.append_nil] at hst
            have HST := Lib.hid hst
            clear hst hpt hpf HA
            rintro e w2 ⟨rfl, n, rfl⟩
            go_wp2_with fail
            go_roundw
            case rel => exact ⟨m + 1, by go_num, by omega, by rw [HST.out]; exact HPr.out, by rw [HST.out]; have := HPl.out; omega, Below.drewN' HB.out n⟩
            case measure => simp [intOf]; omega
        · obtain rfl : m = hs.length := by omega
          go_wp2_with fail
          go_roundw
          case rel => exact ⟨k + 1, by go_num, by omega, by rw [← pairsTo_row]; exact HPr.out, by rw [← pairsTo_row]; have := HPl.out; omega, HB.out⟩
          case measure => simp [intOf]; omega
    · obtain rfl : k = hs.length := by omega
      go_wp2_with fail
      go_ret
      exact ⟨⟨_, rfl, by rw [HR.out, ← pairsTo_all]; exact HPr.out⟩, HB.out⟩
set_option maxRecDepth 100000 in
set_option maxHeartbeats 2000000 in
theorem rdependsL_any {w : World} {v : Value} {hs : List Acc} (k : Hist w v hs) :
    Calls Try.prog 30 #[v] w fun e w' => IsPairs w e w' (dependsL hs) ∧ Below w.heap.size w w' := by
  have HK := Lib.hid k
  obtain ⟨A, c, rfl, hm, hcap, _⟩ := k.shape
  have HCk := Lib.hid (rcheck_any HK.out)
  clear k
  by_cases hv : checkL hs = 0
  case neg =>
    have HR := Lib.hid (show dependsL hs = [] by unfold dependsL; rw [if_neg hv])
    generalize checkL hs = cc at *
    have hcb : (cc != 0) = true := by simp [hv]
    clear hv
    go_enter Try.func30, Try.ntmps30
    go_wp2_with fail
    refine HCk.out.mono ?_
    rintro e w1 ⟨rfl, hb⟩
    have HB := Lib.hid hb
    clear hb
    go_wp2_with fail
    go_ret
    exact ⟨⟨_, rfl, by rw [HR.out]; exact Prs.nil _ _⟩, HB.out⟩
  have HR := Lib.hid (show dependsL hs = pairsOf hs.length (edgeB hs) by unfold dependsL; rw [if_pos hv])
  have hl := (checkL_zero.1 hv).len
  rw [hv] at HCk
  clear hv
  go_enter Try.func30, Try.ntmps30
  go_wp2_with fail
  refine HCk.out.mono ?_
  rintro e w1 ⟨rfl, hb⟩
  have HB0 := Lib.hid hb
  clear hb
  go_wp2_with fail
  go_loopw [3, 4] (fun v i wr => ∃ k : Nat, i = .int .i64 k ∧ k ≤ hs.length ∧ Prs wr w.heap.size v (pairsTo hs.length (edgeB hs) k 0) ∧ (pairsTo hs.length (edgeB hs) k 0).length ≤ 100 * k ∧ Below w.heap.size w wr) (fun _ i _ => hs.length - (intOf i).toNat)
  case atStart => exact ⟨0, rfl, by omega, Prs.nil _ _, by simp [pairsTo], HB0.out⟩
  case round =>
    obtain ⟨k, rfl, hk, hpr, hpl, hB⟩ := hrel
    have HPr := Lib.hid hpr
    have HPl := Lib.hid hpl
    have HB := Lib.hid hB
    clear hpr hpl hB
    by_cases hlk : k < hs.length
    · go_wp2_with fail
      go_loopw [3, 5] (fun v i wr => ∃ m : Nat, i = .int .i64 m ∧ m ≤ hs.length ∧ Prs wr w.heap.size v (pairsTo hs.length (edgeB hs) k m) ∧ (pairsTo hs.length (edgeB hs) k m).length ≤ 100 * k + m ∧ Below w.heap.size w wr) (fun _ i _ => hs.length - (intOf i).toNat)
      case atStart => exact ⟨0, rfl, by omega, HPr.out, by have := HPl.out; omega, HB.out⟩
      case round =>
        obtain ⟨m, rfl, hm', hpr, hpl, hB⟩ := hrel
        clear HPr HPl HB
        have HPr := Lib.hid hpr
        have HPl := Lib.hid hpl
        have HB := Lib.hid hB
        clear hpr hpl hB
        by_cases hlm : m < hs.length
        · have hst := pairsTo_step hs.length (edgeB hs) k m
          have HA := Lib.hid (redge_any (HK.out.below HB.out) k m hlk hlm)
          go_wp2_with fail
          refine HA.out.mono ?_
          by_cases hpt : edgeB hs k m = true
          · rw [hpt]
            rw [if_pos hpt] at hst
            have HST := Lib.hid hst
            clear hst hpt HA
            rintro e w2 ⟨rfl, n, rfl⟩
            have HPr1 : Hid (Prs (wr.drewN n) w.heap.size _ (pairsTo hs.length (edgeB hs) k m)) := Lib.hid HPr.out
            have HB1 : Hid (Below w.heap.size w (wr.drewN n)) := Lib.hid (Below.drewN' HB.out n)
            have hsz : w.heap.size ≤ (wr.drewN n).heap.size := HB1.out.size
            clear HPr HB
            go_wp2_with (at_builtin; refine wpList_app_pair (wr.drewN n) w.heap.size rfl (.tmp 28) (.tmp 32) rfl _ _ k m rfl rfl HPr1.out (by have := HPl.out; omega) hsz ?_; intro v1 w1 h1 h2 h3; rw [← HST.out] at h1; have H1 := Lib.hid h1; have HB2 := Lib.hid (HB1.out.grown h2 hsz (fun q hq => h3 q hq)); clear h1 h2 h3)
            go_roundw
            case rel => exact ⟨m + 1, by go_num, by omega, H1.out, by rw [HST.out]; have := HPl.out; simp; omega, HB2.out⟩
            case measure => simp [intOf]; omega
          · have hpf : edgeB hs k m = false := by simpa using hpt
            rw [hpf]
            rw [if_neg hpt, List.append_nil] at hst
            have HST := Lib.hid hst
            clear hst hpt hpf HA
            rintro e w2 ⟨rfl, n, rfl⟩
            go_wp2_with fail
            go_roundw
            case rel => exact ⟨m + 1, by go_num, by omega, by rw [HST.out]; exact HPr.out, by rw [HST.out]; have := HPl.out; omega, Below.drewN' HB.out n⟩
            case measure => simp [intOf]; omega
        · obtain rfl : m = hs.length := by omega
          go_wp2_with fail
          go_roundw
          case rel => exact ⟨k + 1, by go_num, by omega, by rw [← pairsTo_row]; exact HPr.out, by rw [← pairsTo_row]; have := HPl.out; omega, HB.out⟩
          case measure => simp [intOf]; omega
    · obtain rfl : k = hs.length := by omega
      go_wp2_with fail
      go_ret
      exact ⟨⟨_, rfl, by rw [HR.out, ← pairsTo_all]; exact HPr.out⟩, HB.out⟩
end Go.Proofs.Ytlfpkikmofgjfaa
