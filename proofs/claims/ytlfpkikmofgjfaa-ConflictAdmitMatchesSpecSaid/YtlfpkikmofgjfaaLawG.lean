/- The law on Admit and Safe against the reference. -/
import Derived.Test.YtlfpkikmofgjfaaWalkU
import Derived.Test.YtlfpkikmofgjfaaFew
import Derived.Test.YtlfpkikmofgjfaaRefN
import Derived.Test.YtlfpkikmofgjfaaRefO
namespace Go.Proofs.Ytlfpkikmofgjfaa
open Go.RowKit

set_option maxRecDepth 100000 in
set_option maxHeartbeats 1000000 in
theorem law10_any {w : World} {v : Value} {hs : List Acc} {i s : Int} (k : Hist w v hs) (hi : (Lit.int .i64 i).wf = true) (hs64 : (Lit.int .i64 s).wf = true) : Calls Try.prog 10 #[v, .int .i64 i, .int .i64 s] w fun e w' => e = .returned (.bool true) ∧ Below w.heap.size w w' := by
  have HK := Lib.hid k
  have HI := Lib.hid hi
  have HS := Lib.hid hs64
  clear k hi hs64
  go_enter Try.func10, Try.ntmps10
  go_wp2_with fail
  refine (sanity_any _).mono ?_
  rintro e w1 ⟨rfl, hb⟩
  have HB1 := Lib.hid hb
  clear hb
  go_wp2_with fail
  refine (few_any (HK.out.below HB1.out)).mono ?_
  rintro e w2 ⟨b, rfl, hb⟩
  have HB2 := Lib.hid (HB1.out.trans (hb.mono HB1.out.size))
  clear hb HB1
  cases b
  · go_wp2_with fail
    go_ret
    exact ⟨rfl, HB2.out⟩
  go_wp2_with fail
  refine (admit_any (HK.out.below HB2.out) HI.out).mono ?_
  have HR : Hid (∀ W, Below w.heap.size w W → Calls Try.prog 39 #[v, .int .i64 i] W fun e w' => e = .returned (.tuple #[.int .i64 (admitL hs i).1, .int .i64 (admitL hs i).2]) ∧ Below W.heap.size W w') := Lib.hid fun W hW => radmit_any (HK.out.below hW) i
  generalize (admitL hs i).1 = a1 at *
  generalize (admitL hs i).2 = a2 at *
  rintro e w3 ⟨rfl, hb⟩
  have HB3 := Lib.hid (HB2.out.trans (hb.mono HB2.out.size))
  clear hb HB2
  go_wp2_with fail
  refine (HR.out _ HB3.out).mono ?_
  rintro e w4 ⟨rfl, hb⟩
  have HB4 := Lib.hid (HB3.out.trans (hb.mono HB3.out.size))
  clear hb HB3
  go_wp2_with fail
  refine (safe_any (HK.out.below HB4.out) HS.out).mono ?_
  have HR2 : Hid (∀ W, Below w.heap.size w W → Calls Try.prog 40 #[v, .int .i64 s] W fun e w' => e = .returned (.bool (safeL hs s)) ∧ Below W.heap.size W w') := Lib.hid fun W hW => rsafe_any (HK.out.below hW) s
  generalize safeL hs s = sb at *
  rintro e w5 ⟨rfl, hb⟩
  have HB5 := Lib.hid (HB4.out.trans (hb.mono HB4.out.size))
  clear hb HB4
  go_wp2_with fail
  refine (HR2.out _ HB5.out).mono ?_
  rintro e w6 ⟨rfl, hb⟩
  have HB6 := Lib.hid (HB5.out.trans (hb.mono HB5.out.size))
  clear hb HB5
  cases sb
  all_goals
    go_wp2_with fail
    go_ret
    exact ⟨rfl, HB6.out⟩
end Go.Proofs.Ytlfpkikmofgjfaa
