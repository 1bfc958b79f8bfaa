/- The laws on Check and on structures. -/
import Derived.Test.YtlfpkikmofgjfaaWalkU
import Derived.Test.YtlfpkikmofgjfaaFew
namespace Go.Proofs.Ytlfpkikmofgjfaa
open Go.RowKit

set_option maxRecDepth 100000 in
set_option maxHeartbeats 1000000 in
theorem law5_any {w : World} {v : Value} {hs : List Acc} (k : Hist w v hs) : Calls Try.prog 5 #[v] w fun e w' => e = .returned (.bool true) ∧ Below w.heap.size w w' := by
  have HK := Lib.hid k
  clear k
  go_enter Try.func5, Try.ntmps5
  go_wp2_with fail
  refine (sanity_any _).mono ?_
  rintro e w1 ⟨rfl, hb⟩
  have HB1 := Lib.hid hb
  clear hb
  go_wp2_with fail
  refine (few_any (HK.out.below HB1.out)).mono ?_
  rintro e w2 ⟨b, rfl, hb⟩
  have HB2 := Lib.hid (HB1.out.trans (hb.mono HB1.out.size))
  clear hb HB1
  cases b
  · go_wp2_with fail
    go_ret
    exact ⟨rfl, HB2.out⟩
  go_wp2_with fail
  refine (check_any (HK.out.below HB2.out)).mono ?_
  obtain ⟨c, hc⟩ : ∃ c, c = checkL hs := ⟨_, rfl⟩
  rw [← hc]
  have HC := Lib.hid hc
  clear hc
  rintro e w3 ⟨rfl, hb⟩
  have HB3 := Lib.hid (HB2.out.trans (hb.mono HB2.out.size))
  clear hb HB2
  go_wp2_with fail
  refine (rcheck_any (HK.out.below HB3.out)).mono ?_
  rw [← HC.out]
  rintro e w4 ⟨rfl, hb⟩
  have HB4 := Lib.hid (HB3.out.trans (hb.mono HB3.out.size))
  clear hb HB3
  go_wp2_with fail
  go_ret
  exact ⟨rfl, HB4.out⟩
theorem Row.shape {w : World} {base : Nat} {t : TypeId} {v : Value} {xs : List Int} (h : Row w base t v xs) : ∃ A c, v = .slice A xs.length c ∧ xs.length ≤ 9223372036854775807 := by
  rcases h.nums with ⟨rfl, rfl⟩ | ⟨g, c, rfl, h1, h2, _⟩
  · exact ⟨none, 0, rfl, by simp⟩
  · exact ⟨_, c, rfl, h2⟩
set_option maxRecDepth 100000 in
set_option maxHeartbeats 1000000 in
theorem law11_any {w : World} {v : Value} {hs : List Acc} (k : Hist w v hs) : Calls Try.prog 11 #[v] w fun e w' => e = .returned (.bool true) ∧ Below w.heap.size w w' := by
  have HK := Lib.hid k
  clear k
  go_enter Try.func11, Try.ntmps11
  go_wp2_with fail
  refine (sanity_any _).mono ?_
  rintro e w1 ⟨rfl, hb⟩
  have HB1 := Lib.hid hb
  clear hb
  go_wp2_with fail
  refine (few_any (HK.out.below HB1.out)).mono ?_
  rintro e w2 ⟨b, rfl, hb⟩
  have HB2 := Lib.hid (HB1.out.trans (hb.mono HB1.out.size))
  clear hb HB1
  cases b
  · go_wp2_with fail
    go_ret
    exact ⟨rfl, HB2.out⟩
  go_wp2_with fail
  refine (check_any (HK.out.below HB2.out)).mono ?_
  by_cases hv : checkL hs = 0
  case neg =>
    obtain ⟨c, hc⟩ : ∃ c, c = checkL hs := ⟨_, rfl⟩
    rw [← hc] at hv ⊢
    have hcb : (c != 0) = true := by simp [hv]
    clear hc hv
    rintro e w3 ⟨rfl, hb⟩
    have HB3 := Lib.hid (HB2.out.trans (hb.mono HB2.out.size))
    clear hb HB2
    go_wp2_with fail
    go_ret
    exact ⟨rfl, HB3.out⟩
  have HV := Lib.hid (checkL_zero.1 hv)
  rw [hv]
  clear hv
  rintro e w3 ⟨rfl, hb⟩
  have HB3 := Lib.hid (HB2.out.trans (hb.mono HB2.out.size))
  clear hb HB2
  go_wp2_with fail
  refine (dangerousF_any (HK.out.below HB3.out)).mono ?_
  obtain ⟨d, hd⟩ : ∃ d, d = dangerousL hs := ⟨_, rfl⟩
  rw [← hd]
  have HD := Lib.hid hd
  clear hd
  rintro e w4 ⟨rfl, hb⟩
  have HB4 := Lib.hid (HB3.out.trans (hb.mono HB3.out.size))
  clear hb HB3
  obtain ⟨s, hs'⟩ : ∃ s, s = serialL hs := ⟨_, rfl⟩
  have HS := Lib.hid hs'
  clear hs'
  have HDS := Lib.hid (show d = none → ∃ t, s = some t from fun e => by
    rw [HS.out]
    exact serial_of_safe HV.out ((dangerousL_none HV.out).1 (by rw [← HD.out]; exact e)))
  have HCS := Lib.hid (show cycleL hs = [] ↔ ∃ t, s = some t by rw [HS.out]; exact cycleL_serial HV.out)
  have HSer : ∀ W : World, Below w.heap.size w W → Calls Try.prog 22 #[v] W fun e w' => IsSerial W e w' s ∧ Below W.heap.size W w' := fun W hW => by
    have := serial_any (HK.out.below hW)
    rw [← HS.out] at this
    exact this
  have HSr := Lib.hid HSer
  clear HSer
  have hs4 := HB4.out.size
  cases d with
  | none =>
    obtain ⟨t, ht⟩ := HDS.out rfl
    subst ht
    unfold tripleV
    go_wp2_with fail
    refine (HSr.out _ (HB4.out.alloc hs4 _)).mono ?_
    rintro e w5 ⟨⟨ov, rfl, hrow⟩, hb⟩
    obtain ⟨A, c, rfl, _⟩ := hrow.shape
    have HB5 := Lib.hid ((HB4.out.alloc hs4 (.cells #[.int .i64 0, .int .i64 0, .int .i64 0] 47)).trans (hb.mono (by simp; omega)))
    clear hb hrow HB4 hs4
    go_wp2_with fail
    refine (cycle_any (HK.out.below HB5.out)).mono ?_
    rw [HCS.out.2 ⟨t, rfl⟩]
    rintro e w6 ⟨⟨nv, rfl, hrow⟩, hb⟩
    obtain ⟨A, c, rfl, _⟩ := hrow.shape
    have HB6 := Lib.hid (HB5.out.trans (hb.mono HB5.out.size))
    clear hb hrow HB5
    simp only [natsV, List.map_nil, List.length_nil]
    go_wp2_with fail
    go_ret
    exact ⟨rfl, HB6.out⟩
  | some d =>
    obtain ⟨d1, d2, d3⟩ := d
    unfold tripleV
    go_wp2_with fail
    refine (HSr.out _ (HB4.out.alloc hs4 _)).mono ?_
    cases s with
    | none =>
      rintro e w5 ⟨he, hb⟩
      obtain rfl : e = _ := he
      have HB5 := Lib.hid ((HB4.out.alloc hs4 (.cells #[.int .i64 d1, .int .i64 d2, .int .i64 d3] 47)).trans (hb.mono (by simp; omega)))
      clear hb HB4 hs4
      go_wp2_with fail
      refine (cycle_any (HK.out.below HB5.out)).mono ?_
      have hne : cycleL hs ≠ [] := fun e => by obtain ⟨t, ht⟩ := HCS.out.1 e; cases ht
      rintro e w6 ⟨⟨nv, rfl, hrow⟩, hb⟩
      obtain ⟨A, c, rfl, _⟩ := hrow.shape
      have HB6 := Lib.hid (HB5.out.trans (hb.mono HB5.out.size))
      have hp : 0 < (natsV (cycleL hs)).length := by
        rw [natsV, List.length_map]
        exact List.length_pos_iff.2 hne
      clear hb hrow HB5 hne
      generalize (natsV (cycleL hs)).length = n at *
      have hnb : ((n : Int) == 0) = false := beq_eq_false_iff_ne.2 (by omega)
      go_wp2_with fail
      go_ret
      exact ⟨rfl, HB6.out⟩
    | some t =>
      rintro e w5 ⟨⟨ov, rfl, hrow⟩, hb⟩
      obtain ⟨A, c, rfl, _⟩ := hrow.shape
      have HB5 := Lib.hid ((HB4.out.alloc hs4 (.cells #[.int .i64 d1, .int .i64 d2, .int .i64 d3] 47)).trans (hb.mono (by simp; omega)))
      clear hb hrow HB4 hs4
      go_wp2_with fail
      refine (cycle_any (HK.out.below HB5.out)).mono ?_
      rw [HCS.out.2 ⟨t, rfl⟩]
      rintro e w6 ⟨⟨nv, rfl, hrow⟩, hb⟩
      obtain ⟨A, c, rfl, _⟩ := hrow.shape
      have HB6 := Lib.hid (HB5.out.trans (hb.mono HB5.out.size))
      clear hb hrow HB5
      simp only [natsV, List.map_nil, List.length_nil]
      go_wp2_with fail
      go_ret
      exact ⟨rfl, HB6.out⟩
end Go.Proofs.Ytlfpkikmofgjfaa
