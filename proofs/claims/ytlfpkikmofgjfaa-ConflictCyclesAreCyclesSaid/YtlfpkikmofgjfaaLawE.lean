/- The law on cycles. -/
import Derived.Test.YtlfpkikmofgjfaaWalkU
import Derived.Test.YtlfpkikmofgjfaaFew
import Derived.Deep.RegionHeld3
import Derived.IntWalk
namespace Go.Proofs.Ytlfpkikmofgjfaa
open Go.RowKit

/-- What is known of a cycle. -/
structure Cyc (hs : List Acc) (q : List Nat) : Prop where
  edge : ∀ p, p < q.length → (q.getD p 0, q.getD ((p + 1) % q.length) 0) ∈ dependsL hs
  first : ∀ p, 0 < p → p < q.length → q.getD 0 0 < q.getD p 0
  diff : ∀ i p, i < p → p < q.length → q.getD i 0 ≠ q.getD p 0
  one : q.length ≠ 1
  small : ∀ x, x ∈ q → x ≤ 1000000
theorem edge_mem {hs : List Acc} (hv : checkL hs = 0) {a b : Nat} (e : edgeB hs a b = true) : (a, b) ∈ dependsL hs := by
  unfold dependsL
  rw [if_pos hv]
  unfold pairsOf
  simp only [List.mem_flatMap, List.mem_map, List.mem_filter, List.mem_range]
  exact ⟨a, (edge_lt e).1, b, ⟨(edge_lt e).2, e⟩, rfl⟩
theorem cyc_of (hs : List Acc) : Cyc hs (cycleL hs) := by
  by_cases hne : cycleL hs = []
  · rw [hne]
    exact ⟨fun p h => by simp at h, fun p _ h => by simp at h, fun i p _ h => by simp at h, by simp, fun x h => by cases h⟩
  have hv : checkL hs = 0 := by
    apply Classical.byContradiction
    intro hv
    apply hne
    unfold cycleL
    rw [if_neg hv]
  obtain ⟨f, l, e, hl, hnd, hlt, hed⟩ := cycleL_spec hne
  rw [e]
  have hlen : (f :: l).length = l.length + 1 := rfl
  refine ⟨fun p hp => ?_, fun p h0 hp => ?_, fun i p hi hp => ?_, by rw [hlen]; omega, fun x hx => ?_⟩
  · have h1 := hed p (by rw [← hlen]; exact hp)
    have h2 : (l ++ [f]).getD p 0 = (f :: l).getD ((p + 1) % (f :: l).length) 0 := by
      rw [hlen]
      by_cases hpl : p = l.length
      · subst hpl
        rw [Nat.mod_self]
        simp [List.getD]
      · have : p < l.length := by simp at hp; omega
        rw [Nat.mod_eq_of_lt (by omega)]
        simp [List.getD, List.getElem?_append_left this]
    rw [h2] at h1
    exact edge_mem hv h1
  · obtain ⟨p, rfl⟩ : ∃ p', p = p' + 1 := ⟨p - 1, by omega⟩
    have hp' : p < l.length := by simpa using hp
    have : (f :: l).getD (p + 1) 0 = l[p] := by simp [List.getD, List.getElem?_eq_getElem hp']
    rw [this]
    exact hlt _ (List.getElem_mem hp')
  · have h1 := List.pairwise_iff_getElem.1 hnd i p (by omega) hp hi
    simpa [List.getD, List.getElem?_eq_getElem hp, List.getElem?_eq_getElem (show i < (f :: l).length by omega)] using h1
  · obtain ⟨p, hp, hpx⟩ := Bfs.at_mem hx
    have := (edge_lt (hed p (by rw [← hlen]; exact hp))).1
    rw [hpx] at this
    have := (checkL_zero.1 hv).len
    omega
theorem pairs_take_succ {ps : List (Nat × Nat)} {k : Nat} (hk : k < ps.length) (x : Nat × Nat) : x ∈ ps.take (k + 1) ↔ x ∈ ps.take k ∨ x = ps.getD k (0, 0) := by
  rw [List.take_add_one, List.mem_append, List.getD, List.getElem?_eq_getElem hk]
  simp
theorem nats_W64 (q : List Nat) (h : ∀ x, x ∈ q → x ≤ 1000000) : ∀ x, x ∈ natsV q → W64 x := fun x hx => by
  simp only [natsV, List.mem_map] at hx
  obtain ⟨i, hi, rfl⟩ := hx
  have := h i hi
  exact wfI (by omega) (by omega)
set_option maxRecDepth 100000 in
set_option maxHeartbeats 2000000 in
theorem law14_any {w : World} {v : Value} {hs : List Acc} (k : Hist w v hs) : Calls Try.prog 14 #[v] w fun e w' => e = .returned (.bool true) ∧ Below w.heap.size w w' := by
  have HK := Lib.hid k
  clear k
  have HCy := Lib.hid (cyc_of hs)
  go_enter Try.func14, Try.ntmps14
  go_wp2_with fail
  refine (sanity_any _).mono ?_
  rintro e w1 ⟨rfl, hb⟩
  have HB1 := Lib.hid hb
  clear hb
  go_wp2_with fail
  refine (few_any (HK.out.below HB1.out)).mono ?_
  rintro e w2 ⟨b, rfl, hb⟩
  have HB2 := Lib.hid (HB1.out.trans (hb.mono HB1.out.size))
  clear hb HB1
  cases b
  · go_wp2_with fail
    go_ret
    exact ⟨rfl, HB2.out⟩
  go_wp2_with fail
  refine (cycle_any (HK.out.below HB2.out)).mono ?_
  rintro e w3 ⟨⟨qv, rfl, hrow⟩, hb⟩
  have hI3 := Ints.of_row hrow (nats_W64 _ HCy.out.small)
  have HB3 := Lib.hid (HB2.out.trans (hb.mono HB2.out.size))
  clear hb hrow HB2
  generalize cycleL hs = q at *
  obtain ⟨_, A, c, rfl, hqm, hqcap, hqc⟩ := hI3
  rw [natsV_length] at *
  have HQ := Lib.hid hqc
  clear hqc
  go_wp2_with fail
  refine (depends_any (HK.out.below HB3.out)).mono ?_
  rintro e w4 ⟨⟨pv, rfl, hp⟩, hb⟩
  obtain ⟨G, gc, rfl, hgm, hgc⟩ := hp.read
  have HG := Lib.hid hgc
  have HB4 := Lib.hid (HB3.out.trans (hb.mono HB3.out.size))
  have HQ4 : Hid (∀ j, j < q.length → ∃ b o, A = some ⟨b, o, none⟩ ∧ b < w4.heap.size ∧ w4.cell? ⟨b, o + j, none⟩ = some (.int .i64 ((q.getD j 0 : Nat) : Int))) := Lib.hid fun j hj => by
    obtain ⟨b, o, e1, e2, e3⟩ := HQ.out j hj
    rw [natsV_getD hj] at e3
    exact ⟨b, o, e1, by have := hb.size; omega, (hb.cell (p := ⟨b, o + j, none⟩) e2).trans e3⟩
  clear hgc hb hp HQ HB3
  obtain ⟨hE, hF, hD, hOne, _⟩ := HCy.out
  generalize dependsL hs = ps at *
  have HE := Lib.hid hE
  have HF := Lib.hid hF
  have HD := Lib.hid hD
  clear hE hF hD HCy
  generalize hM : q.length = M at *
  generalize hP : ps.length = P at *
  have HP := Lib.hid hP
  clear hM hP
  go_wp2_with fail
  go_loopw [6] (fun i wr => ∃ k : Nat, i = .int .i64 k ∧ k ≤ M ∧ Hid (Below w4.heap.size w4 wr)) (fun i _ => M - (intOf i).toNat)
  case atStart => exact ⟨0, rfl, by omega, Lib.hid (Below.refl _ _)⟩
  case round =>
    obtain ⟨k, rfl, hk, HB⟩ := hrel
    by_cases hlk : k < M
    · obtain ⟨b, o, rfl, hblt, -⟩ := HQ4.out k hlk
      have HQc : Hid (∀ j, j < M → w4.cell? ⟨b, o + j, none⟩ = some (.int .i64 ((q.getD j 0 : Nat) : Int))) := Lib.hid fun j hj => by
        obtain ⟨b', o', e', _, hc⟩ := HQ4.out j hj
        injection e' with e'
        injection e' with e1 e2
        subst e1 e2
        exact hc
      have hn : (k + 1) % M < M := Nat.mod_lt _ (by omega)
      have hE := HE.out k hlk
      have HFk := Lib.hid (HF.out k)
      have HDk := Lib.hid (fun i hi => HD.out i k hi hlk)
      have q1 := (HB.out.cell (p := ⟨b, o + k, none⟩) hblt).trans (HQc.out k hlk)
      have q2 := (HB.out.cell (p := ⟨b, o + (k + 1) % M, none⟩) hblt).trans (HQc.out _ hn)
      generalize hnx : (k + 1) % M = nx at *
      have HQk := Lib.hid (HQc.out k hlk)
      generalize q.getD k 0 = y at *
      generalize q.getD nx 0 = z at *
      have hM0 : ((M : Int) == 0) = false := beq_eq_false_iff_ne.2 (by omega)
      have hM2 : ¬ M = 0 := by omega
      have hM3 : ¬ (M : Int) = 0 := by omega
      have w1' : IntKind.i64.wrap ((k : Int) + 1) = k + 1 := IntWalk.i64_in _ (by omega)
      have w2' : ((k : Int) + 1).tmod (M : Int) = (nx : Nat) := by
        rw [← hnx, Int.tmod_eq_emod_of_nonneg (by omega)]
        simp
      have HE1 := Lib.hid hE
      have hsz := HB.out.size
      clear hnx hE
      go_wp2_with fail
      go_region_held3 (fun w' => w'.cell? ⟨b, o + k, none⟩ = some (.int .i64 (y : Int)) ∧ w'.cell? ⟨b, o + nx, none⟩ = some (.int .i64 (z : Int))) ((simp only [World.cell?_drew]; and_intros <;> (first | (with_reducible exact cell1 (by assumption) _) | assumption))) (fail)
      all_goals
        clear hM0 hM2 hM3 w1' w2' q1 q2
        obtain ⟨W5, hW5⟩ : ∃ W5, (wr.alloc (.cells #[.int .i64 (y : Int), .int .i64 (z : Int)] 55)).drew = W5 := ⟨_, rfl⟩
        obtain ⟨eb, heb⟩ : ∃ eb, wr.heap.size = eb := ⟨_, rfl⟩
        have HC5 : Hid (Cells W5 eb 55 #[.int .i64 (y : Int), .int .i64 (z : Int)]) := Lib.hid (by rw [← hW5, ← heb]; exact Cells.made wr 55 _)
        have HB5 : Hid (Below w4.heap.size w4 W5) := Lib.hid (by rw [← hW5]; exact (HB.out.alloc hsz _).drew)
        rw [hW5, heb]
        clear hW5 heb hsz
        have c5a := HC5.out.cell 0
        have c5b := HC5.out.cell 1
        have heb5 := HC5.out.lt
        go_wp2_with fail
        go_loopw [8, 9] (fun f i wr => ∃ (j r : Nat) (x : Bool), f = .bool x ∧ i = .int .i64 j ∧ j ≤ P ∧ wr = W5.drewN r ∧ Hid (x = decide ((y, z) ∈ ps.take j))) (fun _ i _ => P - (intOf i).toNat)
        case atStart => exact ⟨0, 0, false, rfl, rfl, by omega, rfl, Lib.hid (by simp)⟩
        case round =>
          obtain ⟨j, r, x, rfl, rfl, hj, rfl, HX⟩ := hrel
          by_cases hlj : j < P
          · cases x
            case true =>
              have HX1 : Hid (true = decide ((y, z) ∈ ps.take (j + 1))) := Lib.hid (decide_eq_true ((pairs_take_succ (by rw [HP.out]; exact hlj) _).2 (.inl (of_decide_eq_true HX.out.symm)))).symm
              go_wp2_with fail
              go_quiet (fail)
              go_wp2_with fail
              go_roundw
              case rel => exact ⟨j + 1, _, true, rfl, by go_num, by omega, rfl, HX1⟩
              case measure => simp [intOf]; omega
            obtain ⟨g, rfl, hg1, hg2, hg3⟩ := HG.out j hlj
            have p1 := (HB5.out.cell (p := ⟨g, j * 2, none⟩) hg1).trans hg2
            have p2 := (HB5.out.cell (p := ⟨g, j * 2 + 1, none⟩) hg1).trans hg3
            have hst := pairs_take_succ (ps := ps) (k := j) (by rw [HP.out]; exact hlj) (y, z)
            have hno : (y, z) ∉ ps.take j := of_decide_eq_false HX.out.symm
            generalize ps.getD j (0, 0) = pr at *
            obtain ⟨a1, a2⟩ := pr
            by_cases he : a1 = y ∧ a2 = z
            · have HX1 : Hid (true = decide ((y, z) ∈ ps.take (j + 1))) := Lib.hid (decide_eq_true (hst.2 (.inr (by rw [he.1, he.2])))).symm
              have hq : ∀ w : World, (binOp .eql 55 (.agg #[.int .i64 (a1 : Int), .int .i64 (a2 : Int)]) (.agg #[.int .i64 (y : Int), .int .i64 (z : Int)])).run Try.prog w = .ok (.bool true) w := fun w => by
                rw [eql55, he.1, he.2]; simp
              clear he hst hno hg2 hg3
              go_wp2_with fail
              go_quiet (fail)
              go_wp2_with fail
              go_roundw
              case rel => exact ⟨j + 1, _, true, rfl, by go_num, by omega, rfl, HX1⟩
              case measure => simp [intOf]; omega
            · have HX1 : Hid (false = decide ((y, z) ∈ ps.take (j + 1))) := Lib.hid (decide_eq_false (fun h => by
                rcases hst.1 h with h | h
                · exact hno h
                · injection h with h1 h2
                  exact he ⟨h1.symm, h2.symm⟩)).symm
              have hq : ∀ w : World, (binOp .eql 55 (.agg #[.int .i64 (a1 : Int), .int .i64 (a2 : Int)]) (.agg #[.int .i64 (y : Int), .int .i64 (z : Int)])).run Try.prog w = .ok (.bool false) w := fun w => by
                rw [eql55]
                have : ((a1 : Int) == y && (a2 : Int) == z) = false := by
                  rw [Bool.eq_false_iff]
                  intro h
                  simp only [Bool.and_eq_true, beq_iff_eq] at h
                  exact he ⟨by omega, by omega⟩
                rw [this]
              clear he hst hno hg2 hg3
              go_wp2_with fail
              go_quiet (fail)
              go_wp2_with fail
              go_roundw
              case rel => exact ⟨j + 1, _, false, rfl, by go_num, by omega, rfl, HX1⟩
              case measure => simp [intOf]; omega
          · have hjP : j = P := by omega
            have hx : x = true := by
              rw [HX.out, hjP, ← HP.out, List.take_length]
              exact decide_eq_true HE1.out
            subst hx
            have q1 := (HB5.out.cell (p := ⟨b, o + k, none⟩) hblt).trans HQk.out
            clear hjP
            by_cases hk0 : 0 < k
            · have q3 : W5.cell? ⟨b, o, none⟩ = some (.int .i64 ((q.getD 0 0 : Nat) : Int)) := (HB5.out.cell (p := ⟨b, o + 0, none⟩) hblt).trans (HQc.out 0 (by omega))
              have hf0 := HFk.out hk0 hlk
              generalize q.getD 0 0 = s at *
              have hle : decide (y ≤ s) = false := decide_eq_false (by omega)
              have hk1 : decide (0 < k) = true := decide_eq_true hk0
              go_wp2_with fail
              go_quiet (fail)
              go_wp2_with fail
              clear hle q3 hk1
              go_loopw [10] (fun i wr => ∃ (l t : Nat), i = .int .i64 l ∧ l ≤ k ∧ wr = W5.drewN t) (fun i _ => k - (intOf i).toNat)
              case atStart => exact ⟨0, _, rfl, by omega, World.drewN_drewN _ _ _⟩
              case round =>
                obtain ⟨l, t, rfl, hlk', rfl⟩ := hrel
                by_cases hll : l < k
                · have q4 := (HB5.out.cell (p := ⟨b, o + l, none⟩) hblt).trans (HQc.out l (by omega))
                  have hne := HDk.out l hll
                  generalize q.getD l 0 = u at *
                  have hb : ((u : Int) == (y : Int)) = false := beq_eq_false_iff_ne.2 (by omega)
                  have hlM : l < M := by omega
                  clear hne
                  go_wp2_with fail
                  go_quiet (fail)
                  go_wp2_with fail
                  go_roundw
                  case rel => exact ⟨l + 1, _, by go_num, by omega, rfl⟩
                  case measure => simp [intOf]; omega
                · go_wp2_with fail
                  go_roundw
                  case rel => exact ⟨k + 1, by go_num, by omega, Lib.hid (Below.drewN' HB5.out t)⟩
                  case measure => simp [intOf]; omega
            · have hk1 : decide (0 < k) = false := decide_eq_false hk0
              go_wp2_with fail
              go_quiet (fail)
              go_wp2_with fail
              go_loopw [10] (fun i wr => i = .int .i64 0 ∧ ∃ t, wr = W5.drewN t) (fun _ _ => 0)
              case atStart => exact ⟨rfl, _, World.drewN_drewN _ _ _⟩
              case round =>
                obtain ⟨rfl, t, rfl⟩ := hrel
                go_wp2_with fail
                go_roundw
                case rel => exact ⟨k + 1, by go_num, by omega, Lib.hid (Below.drewN' HB5.out t)⟩
                case measure => simp [intOf]; omega
    · have hkM : k = M := by omega
      have hM1 : ((M : Int) != 1) = true := by simp; omega
      have HEnd := Lib.hid (HB4.out.trans (HB.out.mono HB4.out.size))
      clear hOne hkM
      go_wp2_with fail
      go_ret
      exact ⟨rfl, HEnd.out⟩
end Go.Proofs.Ytlfpkikmofgjfaa
