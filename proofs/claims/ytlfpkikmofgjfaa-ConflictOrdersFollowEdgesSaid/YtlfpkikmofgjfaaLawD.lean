/- The laws on orders: what Serial returns is equivalent; equivalent orders follow the edges. -/
import Derived.Test.YtlfpkikmofgjfaaWalkU
import Derived.Test.YtlfpkikmofgjfaaFew
import Derived.Test.YtlfpkikmofgjfaaFwd
namespace Go.Proofs.Ytlfpkikmofgjfaa
open Go.RowKit

theorem natV_W64 {hs : List Acc} {t : List Nat} (ho : Once hs t) (hl : hs.length ≤ 100) : ∀ x, x ∈ natV t → W64 x := fun x hx => by
  obtain ⟨y, hy, rfl⟩ := List.mem_map.1 hx
  have := tx_lt ((ho.mem y).1 hy)
  exact wfI (by omega) (by omega)
theorem once_len {hs : List Acc} {t : List Nat} (ho : Once hs t) : t.length ≤ hs.length := by
  have := nodup_length_le t (List.range hs.length) ho.nodup (fun x hx => List.mem_range.2 (tx_lt ((ho.mem x).1 hx)))
  simpa using this
set_option maxRecDepth 100000 in
set_option maxHeartbeats 1000000 in
theorem law12_any {w : World} {v : Value} {hs : List Acc} (k : Hist w v hs) : Calls Try.prog 12 #[v] w fun e w' => e = .returned (.bool true) ∧ Below w.heap.size w w' := by
  have HK := Lib.hid k
  clear k
  go_enter Try.func12, Try.ntmps12
  go_wp2_with fail
  refine (sanity_any _).mono ?_
  rintro e w1 ⟨rfl, hb⟩
  have HB1 := Lib.hid hb
  clear hb
  go_wp2_with fail
  refine (few_any (HK.out.below HB1.out)).mono ?_
  rintro e w2 ⟨b, rfl, hb⟩
  have HB2 := Lib.hid (HB1.out.trans (hb.mono HB1.out.size))
  clear hb HB1
  cases b
  · go_wp2_with fail
    go_ret
    exact ⟨rfl, HB2.out⟩
  go_wp2_with fail
  refine (serial_any (HK.out.below HB2.out)).mono ?_
  cases hs' : serialL hs with
  | none =>
    clear hs'
    rintro e w3 ⟨he, hb⟩
    obtain rfl : e = _ := he
    have HB3 := Lib.hid (HB2.out.trans (hb.mono HB2.out.size))
    clear hb HB2
    go_wp2_with fail
    go_ret
    exact ⟨rfl, HB3.out⟩
  | some t =>
    have HOn := Lib.hid (once_of_serial hs')
    have HFw := Lib.hid (fwd_of_serial hs')
    have HEq := Lib.hid (equivL_serial hs')
    have HL := Lib.hid (serialL_taken hs').1.len
    clear hs'
    rintro e w3 ⟨⟨ov, rfl, hrow⟩, hb⟩
    have HO3 : Hid (Ints w3 ov (natV t)) := Lib.hid (Ints.of_row hrow (natV_W64 HOn.out HL.out))
    have HB3 := Lib.hid (HB2.out.trans (hb.mono HB2.out.size))
    clear hb HB2 hrow
    go_wp2_with fail
    have HE := Lib.hid (equiv_any (HK.out.below HB3.out) HO3.out)
    rw [HEq.out] at HE
    refine HE.out.mono ?_
    rintro e w4 ⟨rfl, hb⟩
    have HB4 := Lib.hid (HB3.out.trans (hb.mono HB3.out.size))
    have HO4 := Lib.hid (HO3.out.below hb)
    clear hb HB3 HO3 HE
    go_wp2_with fail
    refine (forward_any (HK.out.below HB4.out) HO4.out (fun i hi => tx_lt ((HOn.out.mem i).1 hi)) HL.out (fun a b he => plc_lt HOn.out HFw.out he) (by have := once_len HOn.out; have := HL.out; omega)).mono ?_
    rintro e w5 ⟨rfl, hb⟩
    have HB5 := Lib.hid (HB4.out.trans (hb.mono HB4.out.size))
    clear hb HB4 HO4
    go_wp2_with fail
    go_ret
    exact ⟨rfl, HB5.out⟩
set_option maxRecDepth 100000 in
set_option maxHeartbeats 2000000 in
theorem law13_any {w : World} {v ov : Value} {hs : List Acc} {o : List Int} (k : Hist w v hs) (ho : Ints w ov o) : Calls Try.prog 13 #[v, ov] w fun e w' => e = .returned (.bool true) ∧ Below w.heap.size w w' := by
  have HK := Lib.hid k
  have HO := Lib.hid ho
  obtain ⟨A, c, rfl, hm, hcap, hc⟩ := k.shape
  obtain ⟨_, B, d, rfl, hm2, _, _⟩ := ho
  have HC := Lib.hid hc
  clear k hc
  go_enter Try.func13, Try.ntmps13
  go_wp2_with fail
  refine (sanity_any _).mono ?_
  rintro e w1 ⟨rfl, hb⟩
  have HB1 := Lib.hid hb
  clear hb
  go_wp2_with fail
  refine (few_any (HK.out.below HB1.out)).mono ?_
  rintro e w2 ⟨b, rfl, hb⟩
  have HB2 := Lib.hid (HB1.out.trans (hb.mono HB1.out.size))
  clear hb HB1
  cases b
  · go_wp2_with fail
    go_ret
    exact ⟨rfl, HB2.out⟩
  by_cases h20 : 20 < o.length
  · go_wp2_with fail
    go_ret
    exact ⟨rfl, HB2.out⟩
  go_wp2_with fail
  go_loopw [6] (fun i wr => ∃ k n : Nat, i = .int .i64 k ∧ k ≤ hs.length ∧ wr = w2.drewN n ∧ Hid (∀ i, i < k → (tx hs i).done = true → ∀ x, x ∈ (tx hs i).writes → x ∈ (tx hs i).reads)) (fun i _ => hs.length - (intOf i).toNat)
  case atStart => exact ⟨0, 0, rfl, by omega, rfl, Lib.hid (fun i hi => by omega)⟩
  case round =>
    obtain ⟨k, n, rfl, hk, rfl, HN⟩ := hrel
    by_cases hlk : k < hs.length
    · obtain ⟨b, off, vr, vw, rfl, ha⟩ := HC.out k hlk
      have ha2 := ha.below HB2.out
      obtain ⟨_, ⟨⟨_, Ar, cr, rfl, hrm, hrc, hrd⟩, ⟨_, Aw, cw, rfl, hwm, hwc, hwd⟩, _, _, _⟩, c0, c1, c2, c3, c4, c5⟩ := ha2
      have HRd := Lib.hid hrd
      have HWd := Lib.hid hwd
      clear ha hrd hwd c0 c1 c3
      have HNx : Hid (((tx hs k).done = true → ∀ x, x ∈ (tx hs k).writes → x ∈ (tx hs k).reads) → ∀ i, i < k + 1 → (tx hs i).done = true → ∀ x, x ∈ (tx hs i).writes → x ∈ (tx hs i).reads) := Lib.hid fun hf i hi => by
        by_cases e : i = k
        · subst e; exact hf
        · exact HN.out i (by omega)
      generalize (tx hs k).done = dn at *
      generalize (tx hs k).reads = rs at *
      generalize (tx hs k).writes = ws at *
      generalize hrl : rs.length = R at *
      generalize hwl : ws.length = W at *
      have HRl := Lib.hid hrl
      have HWl := Lib.hid hwl
      clear hrl hwl
      go_wp2_with fail
      go_loopw [7] (fun i wr => ∃ m q : Nat, i = .int .i64 m ∧ m ≤ W ∧ wr = w2.drewN q ∧ Hid (dn = true → ∀ x, x ∈ ws.take m → x ∈ rs)) (fun i _ => W - (intOf i).toNat)
      case atStart => exact ⟨0, n, rfl, by omega, rfl, Lib.hid (fun _ x hx => by simp at hx)⟩
      case round =>
        obtain ⟨m, q, rfl, hmW, rfl, HM⟩ := hrel
        by_cases hlm : m < W
        · obtain ⟨bw, ow, rfl, hblt, hbc⟩ := HWd.out m hlm
          have hmst := fun x => mem_take_succ (xs := ws) (k := m) (by rw [HWl.out]; exact hlm) x
          generalize ws.getD m 0 = y at *
          have HMs := Lib.hid hmst
          clear hmst
          go_wp2_with fail
          go_loopw [8, 9] (fun f i wr => ∃ (j r : Nat) (x : Bool), f = .bool x ∧ i = .int .i64 j ∧ j ≤ R ∧ wr = w2.drewN r ∧ Hid (x = decide (y ∈ rs.take j))) (fun _ i _ => R - (intOf i).toNat)
          case atStart => exact ⟨0, q, false, rfl, rfl, by omega, rfl, Lib.hid (by simp)⟩
          case round =>
            obtain ⟨j, r, x, rfl, rfl, hjR, rfl, HX⟩ := hrel
            by_cases hlj : j < R
            · obtain ⟨br, orr, rfl, hbr, hbrc⟩ := HRd.out j hlj
              have hst := mem_take_succ (xs := rs) (k := j) (by rw [HRl.out]; exact hlj) y
              generalize rs.getD j 0 = z at *
              cases x
              · by_cases hyz : z = y
                · have HX1 : Hid (true = decide (y ∈ rs.take (j + 1))) := Lib.hid (decide_eq_true (hst.2 (.inr hyz.symm))).symm
                  have hb : (z == y) = true := by simp [hyz]
                  clear hst hyz
                  go_wp2_with fail
                  go_quiet (fail)
                  go_wp2_with fail
                  go_roundw
                  case rel => exact ⟨j + 1, _, true, rfl, by go_num, by omega, rfl, HX1⟩
                  case measure => simp [intOf]; omega
                · have hno : y ∉ rs.take j := of_decide_eq_false HX.out.symm
                  have HX1 : Hid (false = decide (y ∈ rs.take (j + 1))) := Lib.hid (decide_eq_false (fun h => by
                    rcases hst.1 h with h | h
                    · exact hno h
                    · exact hyz h.symm)).symm
                  have hb : (z == y) = false := by simp [hyz]
                  clear hst hyz hno
                  go_wp2_with fail
                  go_quiet (fail)
                  go_wp2_with fail
                  go_roundw
                  case rel => exact ⟨j + 1, _, false, rfl, by go_num, by omega, rfl, HX1⟩
                  case measure => simp [intOf]; omega
              · have HX1 : Hid (true = decide (y ∈ rs.take (j + 1))) := Lib.hid (decide_eq_true (hst.2 (.inl (of_decide_eq_true HX.out.symm)))).symm
                clear hst
                go_wp2_with fail
                go_quiet (fail)
                go_wp2_with fail
                go_roundw
                case rel => exact ⟨j + 1, _, true, rfl, by go_num, by omega, rfl, HX1⟩
                case measure => simp [intOf]; omega
            · have hjR' : j = R := by omega
              have hfull : x = decide (y ∈ rs) := by
                rw [HX.out, hjR', ← HRl.out, List.take_length]
              have HFl := Lib.hid hfull
              clear hjR' hfull
              cases dn
              · have HM1 : Hid (false = true → ∀ x, x ∈ ws.take (m + 1) → x ∈ rs) := Lib.hid (fun h => by cases h)
                go_wp2_with fail
                go_roundw
                case rel => exact ⟨m + 1, r, by go_num, by omega, rfl, HM1⟩
                case measure => simp [intOf]; omega
              cases x
              · go_wp2_with fail
                go_ret
                exact ⟨rfl, Below.drewN' HB2.out r⟩
              · have HM1 : Hid (true = true → ∀ x, x ∈ ws.take (m + 1) → x ∈ rs) := Lib.hid (fun _ x hx => by
                  rcases (HMs.out x).1 hx with h | h
                  · exact HM.out rfl x h
                  · rw [h]; exact of_decide_eq_true HFl.out.symm)
                go_wp2_with fail
                go_roundw
                case rel => exact ⟨m + 1, r, by go_num, by omega, rfl, Lib.hid (fun _ => HM1.out rfl)⟩
                case measure => simp [intOf]; omega
        · have hmW' : m = W := by omega
          have HNn := Lib.hid (HNx.out (fun h x hx => HM.out h x (by rw [hmW', ← HWl.out, List.take_length]; exact hx)))
          clear hmW'
          go_wp2_with fail
          go_roundw
          case rel => exact ⟨k + 1, q, by go_num, by omega, rfl, HNn⟩
          case measure => simp [intOf]; omega
    · obtain rfl : k = hs.length := by omega
      have HB3 := Lib.hid (Below.drewN' HB2.out n)
      go_wp2_with fail
      have HE := Lib.hid (equiv_any (HK.out.below HB3.out) (HO.out.below HB3.out))
      refine HE.out.mono ?_
      cases he : equivL hs o
      · clear he
        rintro e w4 ⟨rfl, hb⟩
        have HB4 := Lib.hid (HB3.out.trans (hb.mono HB3.out.size))
        clear hb HB3 HE
        go_wp2_with fail
        go_ret
        exact ⟨rfl, HB4.out⟩
      · obtain ⟨t, ht, hv, hon, heq⟩ := equivL_back he
        have HOn := Lib.hid hon
        have HFw := Lib.hid (fwd_of_equiv hv hon heq (fun i hd => HN.out i (tx_lt hd) hd))
        have HL := Lib.hid hv.len
        have HO2 : Hid (Ints w (.slice B o.length d) (natV t)) := Lib.hid (by rw [← ht]; exact HO.out)
        clear he ht hv hon heq
        rintro e w4 ⟨rfl, hb⟩
        have HB4 := Lib.hid (HB3.out.trans (hb.mono HB3.out.size))
        clear hb HB3 HE
        go_wp2_with fail
        refine (forward_any (HK.out.below HB4.out) (HO2.out.below HB4.out) (fun i hi => tx_lt ((HOn.out.mem i).1 hi)) HL.out (fun a b he => plc_lt HOn.out HFw.out he) (by have := once_len HOn.out; have := HL.out; omega)).mono ?_
        rintro e w5 ⟨rfl, hb⟩
        have HB5 := Lib.hid (HB4.out.trans (hb.mono HB4.out.size))
        clear hb HB4
        go_wp2_with fail
        go_ret
        exact ⟨rfl, HB5.out⟩
end Go.Proofs.Ytlfpkikmofgjfaa
