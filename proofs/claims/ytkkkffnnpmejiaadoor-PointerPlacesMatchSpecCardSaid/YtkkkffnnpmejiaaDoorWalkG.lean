/- The walks of Mapped and of Within, of the program and of the specification. -/
import Derived.Test.YtkkkffnnpmejiaaDoorWalkF
namespace Go.Proofs.YtkkkffnnpmejiaaDoor
open Go.RowKit

def isMapped (ns : List Int) : Bool := ns.all fun n => decide (0 ≤ n) && decide (n ≤ 4096)
theorem isMapped_no {ns : List Int} {k : Nat} (hk : k < ns.length) (h : ns.getD k 0 < 0 ∨ 4096 < ns.getD k 0) : isMapped ns = false := by
  unfold isMapped
  rw [List.all_eq_false]
  refine ⟨ns[k], List.getElem_mem hk, ?_⟩
  have e : ns.getD k 0 = ns[k] := by simp [List.getD, hk]
  rw [e] at h
  simp
  omega
theorem isMapped_yes {ns : List Int} (h : ∀ j, j < ns.length → 0 ≤ ns.getD j 0 ∧ ns.getD j 0 ≤ 4096) : isMapped ns = true := by
  unfold isMapped
  rw [List.all_eq_true]
  intro n hn
  obtain ⟨j, hj, rfl⟩ := List.mem_iff_getElem.1 hn
  have := h j hj
  simp [List.getD, hj] at this
  simp
  omega
theorem isMapped_of {l0 l1 l2 l3 l4 l5 l6 l7 : Int} (h : isMapped [l0, l1, l2, l3, l4, l5, l6, l7] = true) : (0 ≤ l6 ∧ l6 ≤ 4096) ∧ 0 ≤ l7 ∧ l7 ≤ 4096 := by
  simp [isMapped] at h
  omega
theorem all_step {ns : List Int} {k : Nat} {n : Int} (h : Hid (∀ j, j < k → 0 ≤ ns.getD j 0 ∧ ns.getD j 0 ≤ 4096)) (hn : n = ns.getD k 0) (hb : 0 ≤ n ∧ n ≤ 4096) : Hid (∀ j, j < k + 1 → 0 ≤ ns.getD j 0 ∧ ns.getD j 0 ≤ 4096) := fun j hj => by
  by_cases e : j = k
  · subst e; rw [← hn]; exact hb
  · exact h.out j (by omega)
set_option maxHeartbeats 1000000 in
theorem mapped_any (l0 l1 l2 l3 l4 l5 l6 l7 : Int) (w : World) :
    Calls Tryd.prog 38 #[.agg #[.int .i64 l0, .int .i64 l1, .int .i64 l2, .int .i64 l3, .int .i64 l4, .int .i64 l5, .int .i64 l6, .int .i64 l7]] w fun e w' => e = .returned (.bool (isMapped [l0, l1, l2, l3, l4, l5, l6, l7])) ∧ Below w.heap.size w w' := by
  have hat : ∀ k : Nat, k < 8 → (#[Value.int .i64 l0, .int .i64 l1, .int .i64 l2, .int .i64 l3, .int .i64 l4, .int .i64 l5, .int .i64 l6, .int .i64 l7] : Array Value)[k]? = some (.int .i64 ([l0, l1, l2, l3, l4, l5, l6, l7].getD k 0)) := fun k hk => by
    match k, hk with
    | 0, _ => rfl
    | 1, _ => rfl
    | 2, _ => rfl
    | 3, _ => rfl
    | 4, _ => rfl
    | 5, _ => rfl
    | 6, _ => rfl
    | 7, _ => rfl
  have HA := Lib.hid hat
  have hlen : [l0, l1, l2, l3, l4, l5, l6, l7].length = 8 := rfl
  have HN := Lib.hid hlen
  clear hat hlen
  obtain ⟨ns, hns⟩ : ∃ ns, ns = [l0, l1, l2, l3, l4, l5, l6, l7] := ⟨_, rfl⟩
  rw [← hns] at HA HN ⊢
  clear hns
  go_enter Tryd.func38, Tryd.ntmps38
  go_wp2
  go_loopw [4] (fun i wr => ∃ k : Nat, k ≤ 8 ∧ i = .int .i64 k ∧ Hid (∀ j, j < k → 0 ≤ ns.getD j 0 ∧ ns.getD j 0 ≤ 4096) ∧ Hid (∀ j, j < 8 → wr.cell? ⟨w.heap.size + 1, j, none⟩ = some (.int .i64 (ns.getD j 0))) ∧ Below w.heap.size w wr) (fun i _ => 8 - (intOf i).toNat)
  case atStart => exact ⟨0, by omega, rfl, fun j hj => by omega, fun j hj => by rw [← HA.out j hj]; exact World.cell?_alloc_at _ _ _ _ (by simp), ((Below.refl _ _).alloc (Nat.le_refl _) _).alloc (by simp) _⟩
  case round =>
    obtain ⟨k, hk, rfl, hall, hcells, hB⟩ := hrel
    by_cases hlt : k < 8
    · have hcell := hcells.out k hlt
      obtain ⟨n, hn⟩ : ∃ n, n = ns.getD k 0 := ⟨_, rfl⟩
      rw [← hn] at hcell
      have HNn := Lib.hid hn
      clear hn
      rcases (show n < 0 ∨ (0 ≤ n ∧ n ≤ 4096) ∨ (0 ≤ n ∧ 4096 < n) by omega) with h0 | ⟨h0, h1⟩ | ⟨h0, h1⟩
      · go_wp2
        go_ret
        exact ⟨ret_bool (isMapped_no (by rw [HN.out]; omega) (by rw [← HNn.out]; omega)).symm, hB⟩
      · go_wp2
        go_roundw
        case rel => exact ⟨k + 1, by omega, by go_num, all_step hall HNn.out (by omega), hcells, hB⟩
        case measure => simp [intOf]; omega
      · go_wp2
        go_ret
        exact ⟨ret_bool (isMapped_no (by rw [HN.out]; omega) (by rw [← HNn.out]; omega)).symm, hB⟩
    · have : k = 8 := by omega
      subst this
      go_wp2
      go_ret
      exact ⟨ret_bool (isMapped_yes (by rw [HN.out]; exact hall.out)).symm, hB⟩

theorem lines_bd (c : Int) : 0 ≤ lines c ∧ lines c ≤ 16 ∧ (lines c = 0 ∨ 1 ≤ lines c) := by
  unfold lines
  split
  · omega
  · rename_i h
    rcases (show c = 0 ∨ c = 1 ∨ c = 2 ∨ c = 3 ∨ c = 4 by omega) with rfl | rfl | rfl | rfl | rfl <;> decide
theorem line_bd (p : Int) : 0 ≤ line p ∧ line p ≤ 4095 := by
  unfold line
  split <;> omega
theorem chunk_bd (h n p : Int) (h0 : 0 ≤ h) (n0 : 0 ≤ n) (hc : 0 ≤ chunk h n p) : h ≤ p ∧ p < h + 16 * n := by
  unfold chunk at hc
  split at hc <;> omega
set_option maxHeartbeats 1000000 in
theorem within_any (l0 l1 l2 l3 l4 l5 l6 l7 p c : Int) (w : World) (hl : Laid w) (h6 : 0 ≤ l6) (h6' : l6 ≤ 4096) (h7 : 0 ≤ l7) (h7' : l7 ≤ 4096) :
    Calls Tryd.prog 41 #[.agg #[.int .i64 l0, .int .i64 l1, .int .i64 l2, .int .i64 l3, .int .i64 l4, .int .i64 l5, .int .i64 l6, .int .i64 l7], .int .i64 p, .int .i64 c] w fun e w' => e = .returned (.bool (within l6 l7 p c)) ∧ Below w.heap.size w w' := by
  have hS0 : St w (w.alloc (.cells #[.int .i64 l0, .int .i64 l1, .int .i64 l2, .int .i64 l3, .int .i64 l4, .int .i64 l5, .int .i64 l6, .int .i64 l7] 35)) := (St.here hl).alloc _
  obtain ⟨L0, L1, L2⟩ := lines_bd c
  obtain ⟨P0, P1⟩ := line_bd p
  have hch := chunk_bd l6 l7 (line p) h6 h7
  have hb : ∀ w1, Below (w.alloc (.cells #[.int .i64 l0, .int .i64 l1, .int .i64 l2, .int .i64 l3, .int .i64 l4, .int .i64 l5, .int .i64 l6, .int .i64 l7] 35)).heap.size (w.alloc (.cells #[.int .i64 l0, .int .i64 l1, .int .i64 l2, .int .i64 l3, .int .i64 l4, .int .i64 l5, .int .i64 l6, .int .i64 l7] 35)) w1 →
     w1.cell? ⟨w.heap.size, 0, none⟩ = some (.int .i64 l0) ∧ w1.cell? ⟨w.heap.size, 1, none⟩ = some (.int .i64 l1) ∧ w1.cell? ⟨w.heap.size, 2, none⟩ = some (.int .i64 l2) ∧ w1.cell? ⟨w.heap.size, 3, none⟩ = some (.int .i64 l3) ∧
     w1.cell? ⟨w.heap.size, 4, none⟩ = some (.int .i64 l4) ∧ w1.cell? ⟨w.heap.size, 5, none⟩ = some (.int .i64 l5) ∧ w1.cell? ⟨w.heap.size, 6, none⟩ = some (.int .i64 l6) ∧ w1.cell? ⟨w.heap.size, 7, none⟩ = some (.int .i64 l7) ∧ w.heap.size < w1.heap.size := fun w1 h =>
    ⟨hand h (by simp), hand h (by simp), hand h (by simp), hand h (by simp), hand h (by simp), hand h (by simp), hand h (by simp), hand h (by simp), by have := h.size; simp at this; omega⟩
  have HB := Lib.hid hb
  have HCH := Lib.hid hch
  have HS0 := Lib.hid hS0
  clear hb hch hS0 hl
  generalize hln : lines c = n at *
  generalize hpn : line p = q at *
  have HL := Lib.hid hln
  have HP := Lib.hid hpn
  clear hln hpn
  have hW : within l6 l7 p c = decide (n ≠ 0 ∧ q ≠ 0 ∧ 0 ≤ chunk l6 l7 q ∧ (q - l6) % n = 0) := by unfold within; rw [HL.out, HP.out]
  have HW := Lib.hid hW
  clear hW
  go_enter Tryd.func41, Tryd.ntmps41
  go_wp2_with fail
  refine (lines_any c _).mono ?_
  rw [HL.out]
  rintro e w1 ⟨rfl, hb1⟩
  have hS1 := HS0.out.go hb1
  go_wp2_with fail
  refine (line_any p _ hS1.l).mono ?_
  rw [HP.out]
  rintro e w2 ⟨rfl, hb2⟩
  have hS2 := hS1.go hb2
  obtain ⟨c0, c1, c2, c3, c4, c5, c6, c7, hz⟩ := HB.out w2 (hb1.trans (hb2.mono hb1.size))
  clear hb1 hb2 HB HS0 hS1
  by_cases n0 : 0 < n
  case neg =>
    go_wp2_with fail
    go_ret
    exact ⟨ret_bool (by rw [HW.out]; exact (decide_eq_false (by omega)).symm), hS2.b⟩
  by_cases q0 : 0 < q
  case neg =>
    go_wp2_with fail
    go_ret
    exact ⟨ret_bool (by rw [HW.out]; exact (decide_eq_false (by omega)).symm), hS2.b⟩
  go_wp2_with fail
  refine (chunk_any l0 l1 l2 l3 l4 l5 l6 l7 q _ h6 h6' h7 h7').mono ?_
  rintro e w3 ⟨rfl, hb3⟩
  have hS3 := hS2.go hb3
  have d6 := hand hb3 c6
  have hz3 : w.heap.size < w3.heap.size := Nat.lt_of_lt_of_le hz hb3.size
  clear hb3 hS2 c0 c1 c2 c3 c4 c5 c6 c7 hz
  by_cases k0 : 0 ≤ chunk l6 l7 q
  · obtain ⟨j0, j1⟩ := HCH.out k0
    have hnz : ¬ n = 0 := by omega
    go_wp2_with fail
    go_ret
    exact ⟨ret_bool (by rw [HW.out]; first | (rw [Bool.eq_iff_iff]; simp; omega) | (go_show; sorry)), hS3.b⟩
  · go_wp2_with fail
    go_ret
    exact ⟨ret_bool (by rw [HW.out]; exact (decide_eq_false (by omega)).symm), hS3.b⟩
section
variable {P : Program} {ops : Array Oper} {Q : Exit → Act → World → Prop} {md : Region.Mode} {S : World → Prop}
theorem wpAnyH_takeD (i d : Nat) {oi : Oper} {v : Value} {fuel : Nat} {listed : Array Bool} {a : Act} {w : World} (hi : ops[i]? = some oi) (hd : oi.dst = some d)
    (hs : Region.noSelect ops = true) (hf : Region.free md ops listed i = true) (hr : (Region.ready md ops listed).contains i = true)
    (hQ : ∀ c a w, Q (.panic c) (a.put oi.dst v) w → Q (.panic c) a w) (hw : Region.wanted oi (yielded ops a.tmps) = true) (hy : ∀ w', S w' → (execOp a.eval oi).run P w' = .ok (.value v) w') (hS : S w)
    (h : wpAnyH P md ops Q S fuel (listed.setIfInBounds i true) (a.put (some d) v) w) : wpAnyH P md ops Q S (fuel + 1) listed a w :=
  wpAnyH_take hi hs hf hr hQ (Or.inl ⟨hw, hy⟩) hS (by rw [hd]; exact h)
/-- An operation that is not wanted (its guard is false) is taken first. -/
theorem wpAnyH_skip (i d : Nat) {oi : Oper} {fuel : Nat} {listed : Array Bool} {a : Act} {w : World} (hi : ops[i]? = some oi) (hd : oi.dst = some d)
    (hs : Region.noSelect ops = true) (hf : Region.free md ops listed i = true) (hr : (Region.ready md ops listed).contains i = true)
    (hQ : ∀ c a w, Q (.panic c) (a.put oi.dst undef) w → Q (.panic c) a w) (hw : Region.wanted oi (yielded ops a.tmps) = false) (hS : S w)
    (h : wpAnyH P md ops Q S fuel (listed.setIfInBounds i true) (a.put (some d) undef) w) : wpAnyH P md ops Q S (fuel + 1) listed a w :=
  wpAnyH_take hi hs hf hr hQ (Or.inr ⟨hw, rfl⟩) hS (by rw [hd]; exact h)
end
set_option maxHeartbeats 1000000 in
theorem rwithin_any (l0 l1 l2 l3 l4 l5 l6 l7 p c : Int) (w : World) (hl : Laid w) (h6 : 0 ≤ l6) (h6' : l6 ≤ 4096) (h7 : 0 ≤ l7) (h7' : l7 ≤ 4096) :
    Calls Tryd.prog 42 #[.agg #[.int .i64 l0, .int .i64 l1, .int .i64 l2, .int .i64 l3, .int .i64 l4, .int .i64 l5, .int .i64 l6, .int .i64 l7], .int .i64 p, .int .i64 c] w fun e w' => e = .returned (.bool (within l6 l7 p c)) ∧ Below w.heap.size w w' := by
  have hS0 : St w (w.alloc (.cells #[.int .i64 l0, .int .i64 l1, .int .i64 l2, .int .i64 l3, .int .i64 l4, .int .i64 l5, .int .i64 l6, .int .i64 l7] 35)) := (St.here hl).alloc _
  have hS0b := hS0.b
  obtain ⟨L0, L1, L2⟩ := lines_bd c
  obtain ⟨P0, P1⟩ := line_bd p
  have hch := chunk_bd l6 l7 (line p) h6 h7
  have HCH := Lib.hid hch
  have HS0 := Lib.hid hS0b
  clear hch hS0 hl hS0b
  generalize hln : lines c = n at *
  generalize hpn : line p = q at *
  have HL := Lib.hid hln
  have HP := Lib.hid hpn
  clear hln hpn
  have hW : within l6 l7 p c = decide (n ≠ 0 ∧ q ≠ 0 ∧ 0 ≤ chunk l6 l7 q ∧ (q - l6) % n = 0) := by unfold within; rw [HL.out, HP.out]
  have HW := Lib.hid hW
  clear hW
  go_enter Tryd.func42, Tryd.ntmps42
  go_wp2_with fail
  refine (rlines_any c _).mono ?_
  rw [HL.out]
  rintro e w1 ⟨rfl, rfl⟩
  by_cases n0 : n = 0
  · have n0b : (n == 0) = true := by simp [n0]
    have HN := Lib.hid n0
    clear n0
    go_wp2_with fail
    go_ret
    exact ⟨ret_bool (by rw [HW.out]; exact (decide_eq_false (by have := HN.out; omega)).symm), HS0.out⟩
  have n0b : (n == 0) = false := by simp [n0]
  go_wp2_with fail
  refine (rline_any p _).mono ?_
  rw [HP.out]
  rintro e w2 ⟨rfl, rfl⟩
  by_cases q0 : q = 0
  · have q0b : (q == 0) = true := by simp [q0]
    have HN := Lib.hid q0
    clear q0
    go_wp2_with fail
    go_ret
    exact ⟨ret_bool (by rw [HW.out]; exact (decide_eq_false (by have := HN.out; omega)).symm), HS0.out⟩
  have q0b : (q == 0) = false := by simp [q0]
  have n1 : 1 ≤ n := by omega
  by_cases k0 : 0 ≤ chunk l6 l7 q
  · obtain ⟨j0, j1⟩ := HCH.out k0
    have hnz : ¬ n = 0 := by omega
    have kd : decide (0 ≤ chunk l6 l7 q) = true := decide_eq_true k0
    go_wp2_with fail
    go_region_held3 (fun w' => w'.cell? ⟨w.heap.size, 0, none⟩ = some (.int .i64 l0) ∧ w'.cell? ⟨w.heap.size, 1, none⟩ = some (.int .i64 l1) ∧ w'.cell? ⟨w.heap.size, 2, none⟩ = some (.int .i64 l2) ∧ w'.cell? ⟨w.heap.size, 3, none⟩ = some (.int .i64 l3) ∧ w'.cell? ⟨w.heap.size, 4, none⟩ = some (.int .i64 l4) ∧ w'.cell? ⟨w.heap.size, 5, none⟩ = some (.int .i64 l5) ∧ w'.cell? ⟨w.heap.size, 6, none⟩ = some (.int .i64 l6) ∧ w'.cell? ⟨w.heap.size, 7, none⟩ = some (.int .i64 l7)) (go_keep)
      (first | (go_at_call 27; refine (rline_any p _).mono ?_; rw [HP.out]; rintro e w3 ⟨rfl, rfl⟩) | (go_at_call 40; refine (rchunk_any l0 l1 l2 l3 l4 l5 l6 l7 q _ h6 h6' h7 h7').mono ?_; have hH := ‹(_ : World).cell? ⟨w.heap.size, 0, none⟩ = some (Value.int .i64 l0) ∧ _›; rintro e w3 ⟨rfl, hb3⟩; have k0 := hand hb3 hH.1; have k1 := hand hb3 hH.2.1; have k2 := hand hb3 hH.2.2.1; have k3 := hand hb3 hH.2.2.2.1; have k4 := hand hb3 hH.2.2.2.2.1; have k5 := hand hb3 hH.2.2.2.2.2.1; have k6 := hand hb3 hH.2.2.2.2.2.2.1; have k7 := hand hb3 hH.2.2.2.2.2.2.2; clear hH))
    go_wp2_with fail
    go_ret
    refine ⟨ret_bool ?_, bl3 hb3⟩
    rw [HW.out, IntWalk.i64_in (q - l6) (by omega), Int.tmod_eq_emod_of_nonneg (by omega), Bool.eq_iff_iff]
    simp
    omega
  · have kd : decide (0 ≤ chunk l6 l7 q) = false := decide_eq_false k0
    have hBn : ∀ w1 : World, w.heap.size ≤ w1.heap.size → w.heap.size ≤ w1.drew.heap.size := fun _ h => h
    go_wp2_with fail
    -- BY HAND
    refine wp_region_held_drew (S := (fun w' => w'.cell? ⟨w.heap.size, 0, none⟩ = some (.int .i64 l0) ∧ w'.cell? ⟨w.heap.size, 1, none⟩ = some (.int .i64 l1) ∧ w'.cell? ⟨w.heap.size, 2, none⟩ = some (.int .i64 l2) ∧ w'.cell? ⟨w.heap.size, 3, none⟩ = some (.int .i64 l3) ∧ w'.cell? ⟨w.heap.size, 4, none⟩ = some (.int .i64 l4) ∧ w'.cell? ⟨w.heap.size, 5, none⟩ = some (.int .i64 l5) ∧ w'.cell? ⟨w.heap.size, 6, none⟩ = some (.int .i64 l6) ∧ w'.cell? ⟨w.heap.size, 7, none⟩ = some (.int .i64 l7))) (by kernel_rfl) (by go_keep) (fun hHeld => ?_)
    refine wpAnyH_takeD 0 17 (v := ?v0) rfl rfl (by kernel_rfl) (by kernel_rfl) (by kernel_rfl) (fun _ _ _ h => h) (by kernel_rfl) ?hy0 hHeld ?hr0
    case hy0 => (intro w' hSw; (try dsimp only at hSw); go_simp; try with_reducible rfl)
    try simp only [Act.put, List.setIfInBounds_toArray, List.set_cons_zero, List.set_cons_succ]
    refine wpAnyH_takeD 1 18 (v := ?v1) rfl rfl (by kernel_rfl) (by kernel_rfl) (by kernel_rfl) (fun _ _ _ h => h) (by kernel_rfl) ?hy1 hHeld ?hr1
    case hy1 => (intro w' hSw; (try dsimp only at hSw); go_simp; try with_reducible rfl)
    try simp only [Act.put, List.setIfInBounds_toArray, List.set_cons_zero, List.set_cons_succ]
    refine wpAnyH_ready (rs := [2]) (by kernel_rfl) (by simp) ?_
    refine AllReadyH.cons rfl (fun K hK => ?_) AllReadyH.nil
    go_simp
    refine (rline_any p _).mono ?_
    rw [HP.out]
    rintro e w3 ⟨rfl, rfl⟩
    refine hK.out _ _ ?_ (fun hHeld' => ?_)
    · exact hHeld
    clear hK K
    replace hHeld := hHeld'
    clear hHeld'
    try simp only [Act.put, List.setIfInBounds_toArray, List.set_cons_zero, List.set_cons_succ]
    refine wpAnyH_ready (rs := [3]) (by kernel_rfl) (by simp) ?_
    refine AllReadyH.cons rfl (fun K hK => ?_) AllReadyH.nil
    go_simp
    refine (rchunk_any l0 l1 l2 l3 l4 l5 l6 l7 q _ h6 h6' h7 h7').mono ?_
    rintro e w3 ⟨rfl, hb3⟩
    refine hK.out _ _ ?_ (fun hHeld' => ?_)
    · exact ⟨hand hb3 hHeld.1, hand hb3 hHeld.2.1, hand hb3 hHeld.2.2.1, hand hb3 hHeld.2.2.2.1, hand hb3 hHeld.2.2.2.2.1, hand hb3 hHeld.2.2.2.2.2.1, hand hb3 hHeld.2.2.2.2.2.2.1, hand hb3 hHeld.2.2.2.2.2.2.2⟩
    clear hK K
    replace hHeld := hHeld'
    clear hHeld'
    try simp only [Act.put, List.setIfInBounds_toArray, List.set_cons_zero, List.set_cons_succ]
    refine wpAnyH_takeD 4 21 (v := ?v4) rfl rfl (by kernel_rfl) (by kernel_rfl) (by kernel_rfl) (fun _ _ _ h => h) (by kernel_rfl) ?hy4 hHeld ?hr4
    case hy4 => (intro w' hSw; (try dsimp only at hSw); go_simp; try with_reducible rfl)
    try simp only [Act.put, List.setIfInBounds_toArray, List.set_cons_zero, List.set_cons_succ]
    refine wpAnyH_takeD 5 22 (v := ?v5) rfl rfl (by kernel_rfl) (by kernel_rfl) (by kernel_rfl) (fun _ _ _ h => h) (by kernel_rfl) ?hy5 hHeld ?hr5
    case hy5 => (intro w' hSw; (try dsimp only at hSw); go_simp; try with_reducible rfl)
    try simp only [Act.put, List.setIfInBounds_toArray, List.set_cons_zero, List.set_cons_succ]
    refine wpAnyH_skip 6 23 rfl rfl (by kernel_rfl) (by kernel_rfl) (by kernel_rfl) (fun _ _ _ h => h) (by kernel_rfl) hHeld ?_
    try simp only [Act.put, List.setIfInBounds_toArray, List.set_cons_zero, List.set_cons_succ]
    refine wpAnyH_skip 7 24 rfl rfl (by kernel_rfl) (by kernel_rfl) (by kernel_rfl) (fun _ _ _ h => h) (by kernel_rfl) hHeld ?_
    try simp only [Act.put, List.setIfInBounds_toArray, List.set_cons_zero, List.set_cons_succ]
    refine wpAnyH_skip 8 25 rfl rfl (by kernel_rfl) (by kernel_rfl) (by kernel_rfl) (fun _ _ _ h => h) (by kernel_rfl) hHeld ?_
    try simp only [Act.put, List.setIfInBounds_toArray, List.set_cons_zero, List.set_cons_succ]
    refine wpAnyH_skip 9 26 rfl rfl (by kernel_rfl) (by kernel_rfl) (by kernel_rfl) (fun _ _ _ h => h) (by kernel_rfl) hHeld ?_
    try simp only [Act.put, List.setIfInBounds_toArray, List.set_cons_zero, List.set_cons_succ]
    refine wpAnyH_skip 10 27 rfl rfl (by kernel_rfl) (by kernel_rfl) (by kernel_rfl) (fun _ _ _ h => h) (by kernel_rfl) hHeld ?_
    try simp only [Act.put, List.setIfInBounds_toArray, List.set_cons_zero, List.set_cons_succ]
    refine wpAnyH_skip 11 28 rfl rfl (by kernel_rfl) (by kernel_rfl) (by kernel_rfl) (fun _ _ _ h => h) (by kernel_rfl) hHeld ?_
    try simp only [Act.put, List.setIfInBounds_toArray, List.set_cons_zero, List.set_cons_succ]
    refine wpAnyH_skip 12 29 rfl rfl (by kernel_rfl) (by kernel_rfl) (by kernel_rfl) (fun _ _ _ h => h) (by kernel_rfl) hHeld ?_
    try simp only [Act.put, List.setIfInBounds_toArray, List.set_cons_zero, List.set_cons_succ]
    refine wpAnyH_skip 13 30 rfl rfl (by kernel_rfl) (by kernel_rfl) (by kernel_rfl) (fun _ _ _ h => h) (by kernel_rfl) hHeld ?_
    try simp only [Act.put, List.setIfInBounds_toArray, List.set_cons_zero, List.set_cons_succ]
    refine wpAnyH_takeD 14 31 (v := ?v14) rfl rfl (by kernel_rfl) (by kernel_rfl) (by kernel_rfl) (fun _ _ _ h => h) (by kernel_rfl) ?hy14 hHeld ?hr14
    case hy14 => (intro w' hSw; (try dsimp only at hSw); go_simp; try with_reducible rfl)
    try simp only [Act.put, List.setIfInBounds_toArray, List.set_cons_zero, List.set_cons_succ]
    refine wpAnyH_takeD 15 6 (v := ?v15) rfl rfl (by kernel_rfl) (by kernel_rfl) (by kernel_rfl) (fun _ _ _ h => h) (by kernel_rfl) ?hy15 hHeld ?hr15
    case hy15 => (intro w' hSw; (try dsimp only at hSw); go_simp; try with_reducible rfl)
    try simp only [Act.put, List.setIfInBounds_toArray, List.set_cons_zero, List.set_cons_succ]
    refine wpAnyH_done (by kernel_rfl) ?_ _
    go_wp2_with fail
    go_ret
    exact ⟨ret_bool (by rw [HW.out]; exact (decide_eq_false (by omega)).symm), bl3 hb3⟩
end Go.Proofs.YtkkkffnnpmejiaaDoor
