/- The laws on edges and on dangerous structures against the reference. -/
import Derived.Test.YtlfpkikmofgjfaaLawA
import Derived.Test.YtlfpkikmofgjfaaRefC
import Derived.Test.YtlfpkikmofgjfaaRefE
namespace Go.Proofs.Ytlfpkikmofgjfaa
open Go.RowKit

set_option maxRecDepth 100000 in
set_option maxHeartbeats 1000000 in
theorem law6_any {w : World} {v : Value} {hs : List Acc} (k : Hist w v hs) : Calls Try.prog 6 #[v] w fun e w' => e = .returned (.bool true) ∧ Below w.heap.size w w' := by
  have HK := Lib.hid k
  clear k
  go_enter Try.func6, Try.ntmps6
  go_wp2_with fail
  refine (sanity_any _).mono ?_
  rintro e w1 ⟨rfl, hb⟩
  have HB1 := Lib.hid hb
  clear hb
  go_wp2_with fail
  refine (few_any (HK.out.below HB1.out)).mono ?_
  rintro e w2 ⟨b, rfl, hb⟩
  have HB2 := Lib.hid (HB1.out.trans (hb.mono HB1.out.size))
  clear hb HB1
  cases b
  · go_wp2_with fail
    go_ret
    exact ⟨rfl, HB2.out⟩
  go_wp2_with fail
  refine (anti_any (HK.out.below HB2.out)).mono ?_
  rintro e w3 ⟨⟨v3, rfl, hp⟩, hb⟩
  have HP3 := Lib.hid hp.read
  have HB3 := Lib.hid (HB2.out.trans (hb.mono HB2.out.size))
  clear hb hp HB2
  go_wp2_with fail
  refine (rantiL_any (HK.out.below HB3.out)).mono ?_
  rintro e w4 ⟨⟨v4, rfl, hp⟩, hb⟩
  have HP4 := Lib.hid hp.read
  have HP3' := Lib.hid (HP3.out.below hb)
  have HB4 := Lib.hid (HB3.out.trans (hb.mono HB3.out.size))
  clear hb hp HB3 HP3
  go_wp2_with fail
  refine (same_any HP3'.out HP4.out).mono ?_
  rw [decide_eq_true rfl]
  rintro e w5 ⟨rfl, hb⟩
  have HB5 := Lib.hid (HB4.out.trans (hb.mono HB4.out.size))
  clear hb HB4 HP3' HP4
  go_wp2_with fail
  refine (depends_any (HK.out.below HB5.out)).mono ?_
  rintro e w3 ⟨⟨v3, rfl, hp⟩, hb⟩
  have HP3 := Lib.hid hp.read
  have HB3 := Lib.hid (HB5.out.trans (hb.mono HB5.out.size))
  clear hb hp HB5
  go_wp2_with fail
  refine (rdependsL_any (HK.out.below HB3.out)).mono ?_
  rintro e w4 ⟨⟨v4, rfl, hp⟩, hb⟩
  have HP4 := Lib.hid hp.read
  have HP3' := Lib.hid (HP3.out.below hb)
  have HB4 := Lib.hid (HB3.out.trans (hb.mono HB3.out.size))
  clear hb hp HB3 HP3
  go_wp2_with fail
  refine (same_any HP3'.out HP4.out).mono ?_
  rw [decide_eq_true rfl]
  rintro e w5 ⟨rfl, hb⟩
  have HB5 := Lib.hid (HB4.out.trans (hb.mono HB4.out.size))
  clear hb HB4 HP3' HP4
  go_wp2_with fail
  go_ret
  exact ⟨rfl, HB5.out⟩
/-- The three places and the bool of a result. -/
def tripA : Option (Nat × Nat × Nat) → Int × Int × Int × Bool
  | some (a, b, c) => (a, b, c, true)
  | none => (0, 0, 0, false)
theorem tripleV_eq (o : Option (Nat × Nat × Nat)) : tripleV o = .tuple #[.agg #[.int .i64 (tripA o).1, .int .i64 (tripA o).2.1, .int .i64 (tripA o).2.2.1], .bool (tripA o).2.2.2] := by
  rcases o with _ | ⟨a, b, c⟩ <;> rfl
theorem eq47_same (w : World) (a b c : Int) : (Op.equalIn 10000 47 (.agg #[.int .i64 a, .int .i64 b, .int .i64 c]) (.agg #[.int .i64 a, .int .i64 b, .int .i64 c])).run Try.prog w = .ok true w := by rw [eq47 w 9998]; simp
set_option maxRecDepth 100000 in
set_option maxHeartbeats 1000000 in
theorem law7_any {w : World} {v : Value} {hs : List Acc} (k : Hist w v hs) : Calls Try.prog 7 #[v] w fun e w' => e = .returned (.bool true) ∧ Below w.heap.size w w' := by
  have HK := Lib.hid k
  clear k
  go_enter Try.func7, Try.ntmps7
  go_wp2_with fail
  refine (sanity_any _).mono ?_
  rintro e w1 ⟨rfl, hb⟩
  have HB1 := Lib.hid hb
  clear hb
  go_wp2_with fail
  refine (few_any (HK.out.below HB1.out)).mono ?_
  rintro e w2 ⟨b, rfl, hb⟩
  have HB2 := Lib.hid (HB1.out.trans (hb.mono HB1.out.size))
  clear hb HB1
  cases b
  · go_wp2_with fail
    go_ret
    exact ⟨rfl, HB2.out⟩
  go_wp2_with fail
  refine (dangerousF_any (HK.out.below HB2.out)).mono ?_
  have HR : Hid (∀ W : World, Below w.heap.size w W → Calls Try.prog 32 #[v] W fun e w' => e = .returned (tripleV (dangerousL hs)) ∧ Below W.heap.size W w') := Lib.hid fun W hW => rdanger_any (HK.out.below hW)
  generalize dangerousL hs = d at *
  rw [tripleV_eq] at *
  generalize (tripA d).1 = d1 at *
  generalize (tripA d).2.1 = d2 at *
  generalize (tripA d).2.2.1 = d3 at *
  generalize (tripA d).2.2.2 = d4 at *
  rintro e w3 ⟨rfl, hb⟩
  have HB3 := Lib.hid (HB2.out.trans (hb.mono HB2.out.size))
  clear hb HB2
  have hs3 := HB3.out.size
  have HC3 := Lib.hid (Cells.made w3 47 #[.int .i64 d1, .int .i64 d2, .int .i64 d3])
  have HB4 := Lib.hid (HB3.out.alloc hs3 (.cells #[.int .i64 d1, .int .i64 d2, .int .i64 d3] 47))
  clear HB3 hs3
  go_wp2_with fail
  refine (HR.out _ HB4.out).mono ?_
  rintro e w4 ⟨rfl, hb⟩
  have HB5 := Lib.hid (HB4.out.trans (hb.mono HB4.out.size))
  have HC4 := Lib.hid (HC3.out.kept (hb.block _ HC3.out.lt))
  have hs5 := HB5.out.size
  have hlt4 := HC4.out.lt
  clear hb HB4 HC3
  have HB6 := Lib.hid (HB5.out.alloc hs5 (.cells #[.int .i64 d1, .int .i64 d2, .int .i64 d3] 47))
  have HC5 := Lib.hid (HC4.out.kept (Below.heap_alloc w4 (.cells #[.int .i64 d1, .int .i64 d2, .int .i64 d3] 47) _ hlt4))
  have c0 := HC5.out.cell 0
  have c1 := HC5.out.cell 1
  have c2 := HC5.out.cell 2
  have hq := fun w => eq47_same w d1 d2 d3
  cases d4
  all_goals
    go_wp2_with fail
    go_ret
    exact ⟨rfl, HB6.out⟩
end Go.Proofs.Ytlfpkikmofgjfaa
