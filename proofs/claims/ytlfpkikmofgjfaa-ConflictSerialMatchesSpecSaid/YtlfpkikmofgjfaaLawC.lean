/- The law on orders and cycles against the reference. -/
import Derived.Test.YtlfpkikmofgjfaaWalkU
import Derived.Test.YtlfpkikmofgjfaaFew
import Derived.Test.YtlfpkikmofgjfaaRefG
import Derived.Test.YtlfpkikmofgjfaaRefI
namespace Go.Proofs.Ytlfpkikmofgjfaa
open Go.RowKit

theorem natsV_W64 (q : List Nat) (h : ∀ x, x ∈ q → x ≤ 1000000) : ∀ x, x ∈ natsV q → W64 x := fun x hx => by
  simp only [natsV, List.mem_map] at hx
  obtain ⟨i, hi, rfl⟩ := hx
  have := h i hi
  exact wfI (by omega) (by omega)
theorem serial_small {hs : List Acc} {t : List Nat} (e : serialL hs = some t) : ∀ x, x ∈ t → x ≤ 1000000 := fun x hx => by
  obtain ⟨hv, ht, _⟩ := serialL_taken e
  have := tx_lt (ht.done x hx)
  have := hv.len
  omega
theorem cycle_small (hs : List Acc) : ∀ x, x ∈ cycleL hs → x ≤ 1000000 := fun x hx => by
  have hne : cycleL hs ≠ [] := fun e => by rw [e] at hx; cases hx
  have hv : checkL hs = 0 := by
    apply Classical.byContradiction
    intro hv
    apply hne
    unfold cycleL
    rw [if_neg hv]
  obtain ⟨f, l, e, hl, hnd, hlt, hed⟩ := cycleL_spec hne
  rw [e] at hx
  obtain ⟨p, hp, hpx⟩ := Bfs.at_mem hx
  have := (edge_lt (hed p (by simpa using hp))).1
  rw [hpx] at this
  have := (checkL_zero.1 hv).len
  omega
/-- The list of an order, empty if there is none. -/
def serV (o : Option (List Nat)) : List Nat := o.getD []
theorem IsSerial.take {w w' : World} {e : Ending} {o : Option (List Nat)} (h : IsSerial w e w' o) : ∃ v, e = .returned (.tuple #[v, .bool o.isSome]) ∧ Row w' w.heap.size 3 v (natsV (serV o)) := by
  cases o with
  | none => exact ⟨_, h, Row.nil _ _ _⟩
  | some t => exact h
set_option maxRecDepth 100000 in
set_option maxHeartbeats 1000000 in
theorem law8_any {w : World} {v : Value} {hs : List Acc} (k : Hist w v hs) : Calls Try.prog 8 #[v] w fun e w' => e = .returned (.bool true) ∧ Below w.heap.size w w' := by
  have HK := Lib.hid k
  clear k
  have HS1 : Hid (∀ W : World, Below w.heap.size w W → Calls Try.prog 22 #[v] W fun e w' => IsSerial W e w' (serialL hs) ∧ Below W.heap.size W w') := Lib.hid fun W hW => serial_any (HK.out.below hW)
  have HS2 : Hid (∀ W : World, Below w.heap.size w W → Calls Try.prog 33 #[v] W fun e w' => IsSerial W e w' (serialL hs) ∧ Below W.heap.size W w') := Lib.hid fun W hW => rserial_any (HK.out.below hW)
  have HSm : Hid (∀ x, x ∈ natsV (serV (serialL hs)) → W64 x) := Lib.hid (natsV_W64 _ (by
    cases h : serialL hs with
    | none => intro x hx; cases hx
    | some t => exact serial_small h))
  generalize serialL hs = s at *
  go_enter Try.func8, Try.ntmps8
  go_wp2_with fail
  refine (sanity_any _).mono ?_
  rintro e w1 ⟨rfl, hb⟩
  have HB1 := Lib.hid hb
  clear hb
  go_wp2_with fail
  refine (few_any (HK.out.below HB1.out)).mono ?_
  rintro e w2 ⟨b, rfl, hb⟩
  have HB2 := Lib.hid (HB1.out.trans (hb.mono HB1.out.size))
  clear hb HB1
  cases b
  · go_wp2_with fail
    go_ret
    exact ⟨rfl, HB2.out⟩
  go_wp2_with fail
  refine (HS1.out _ HB2.out).mono ?_
  rintro e w3 ⟨hs3, hb⟩
  obtain ⟨v3, rfl, hrow⟩ := hs3.take
  have HI3 := Lib.hid (Ints.of_row hrow HSm.out)
  have HB3 := Lib.hid (HB2.out.trans (hb.mono HB2.out.size))
  clear hb HB2 hrow hs3
  go_wp2_with fail
  refine (HS2.out _ HB3.out).mono ?_
  rintro e w4 ⟨hs4, hb⟩
  obtain ⟨v4, rfl, hrow⟩ := hs4.take
  have HI4 := Lib.hid (Ints.of_row hrow HSm.out)
  have HI3' := Lib.hid (HI3.out.below hb)
  have HB4 := Lib.hid (HB3.out.trans (hb.mono HB3.out.size))
  clear hb HB3 hrow hs4 HI3
  go_wp2_with fail
  refine (sameInts_any HI3'.out HI4.out).mono ?_
  rw [decide_eq_true rfl]
  rintro e w5 ⟨rfl, hb⟩
  have HB5 := Lib.hid (HB4.out.trans (hb.mono HB4.out.size))
  clear hb HB4 HI3' HI4
  have HCy : Hid (∀ x, x ∈ natsV (cycleL hs) → W64 x) := Lib.hid (natsV_W64 _ (cycle_small hs))
  have HC1 := Lib.hid (cycle_any (HK.out.below HB5.out))
  have HC2 : Hid (∀ W : World, Below w.heap.size w W → Calls Try.prog 36 #[v] W fun e w' => IsNodes W e w' (cycleL hs) ∧ Below W.heap.size W w') := Lib.hid fun W hW => rcycle_any (HK.out.below hW)
  generalize cycleL hs = q at *
  generalize s.isSome = sb at *
  cases sb
  all_goals
    go_wp2_with fail
    refine HC1.out.mono ?_
    rintro e w6 ⟨⟨v6, rfl, hrow⟩, hb⟩
    have HI6 := Lib.hid (Ints.of_row hrow HCy.out)
    have HB6 := Lib.hid (HB5.out.trans (hb.mono HB5.out.size))
    clear hb HB5 hrow HC1
    go_wp2_with fail
    refine (HC2.out _ HB6.out).mono ?_
    rintro e w7 ⟨⟨v7, rfl, hrow⟩, hb⟩
    have HI7 := Lib.hid (Ints.of_row hrow HCy.out)
    have HI6' := Lib.hid (HI6.out.below hb)
    have HB7 := Lib.hid (HB6.out.trans (hb.mono HB6.out.size))
    clear hb HB6 hrow HI6
    go_wp2_with fail
    refine (sameInts_any HI6'.out HI7.out).mono ?_
    rw [decide_eq_true rfl]
    rintro e w8 ⟨rfl, hb⟩
    have HB8 := Lib.hid (HB7.out.trans (hb.mono HB7.out.size))
    clear hb HB7 HI6' HI7
    go_wp2_with fail
    go_ret
    exact ⟨rfl, HB8.out⟩
end Go.Proofs.Ytlfpkikmofgjfaa
