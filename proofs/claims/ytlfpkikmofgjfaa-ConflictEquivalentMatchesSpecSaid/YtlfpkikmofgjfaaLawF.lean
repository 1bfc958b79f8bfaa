/- The law on Equivalent against the reference. -/
import Derived.Test.YtlfpkikmofgjfaaWalkU
import Derived.Test.YtlfpkikmofgjfaaFew
import Derived.Test.YtlfpkikmofgjfaaRefL
namespace Go.Proofs.Ytlfpkikmofgjfaa
open Go.RowKit

set_option maxRecDepth 100000 in
set_option maxHeartbeats 1000000 in
theorem law9_any {w : World} {v ov : Value} {hs : List Acc} {o : List Int} (k : Hist w v hs) (ho : Ints w ov o) : Calls Try.prog 9 #[v, ov] w fun e w' => e = .returned (.bool true) ∧ Below w.heap.size w w' := by
  have HK := Lib.hid k
  have HO := Lib.hid ho
  obtain ⟨_, B, d, rfl, hm2, _, _⟩ := ho
  clear k
  go_enter Try.func9, Try.ntmps9
  go_wp2_with fail
  refine (sanity_any _).mono ?_
  rintro e w1 ⟨rfl, hb⟩
  have HB1 := Lib.hid hb
  clear hb
  go_wp2_with fail
  refine (few_any (HK.out.below HB1.out)).mono ?_
  rintro e w2 ⟨b, rfl, hb⟩
  have HB2 := Lib.hid (HB1.out.trans (hb.mono HB1.out.size))
  clear hb HB1
  cases b
  · go_wp2_with fail
    go_ret
    exact ⟨rfl, HB2.out⟩
  by_cases h20 : 20 < o.length
  · go_wp2_with fail
    go_ret
    exact ⟨rfl, HB2.out⟩
  go_wp2_with fail
  refine (equiv_any (HK.out.below HB2.out) (HO.out.below HB2.out)).mono ?_
  have HR : Hid (∀ W, Below w.heap.size w W → Calls Try.prog 37 #[v, .slice B o.length d] W fun e w' => e = .returned (.bool (equivL hs o)) ∧ Below W.heap.size W w') := Lib.hid fun W hW => requiv_any (HK.out.below hW) (HO.out.below hW)
  generalize equivL hs o = c at *
  rintro e w3 ⟨rfl, hb⟩
  have HB3 := Lib.hid (HB2.out.trans (hb.mono HB2.out.size))
  clear hb HB2
  go_wp2_with fail
  refine (HR.out _ HB3.out).mono ?_
  rintro e w4 ⟨rfl, hb⟩
  have HB4 := Lib.hid (HB3.out.trans (hb.mono HB3.out.size))
  clear hb HB3
  cases c
  all_goals
    go_wp2_with fail
    go_ret
    exact ⟨rfl, HB4.out⟩
end Go.Proofs.Ytlfpkikmofgjfaa
