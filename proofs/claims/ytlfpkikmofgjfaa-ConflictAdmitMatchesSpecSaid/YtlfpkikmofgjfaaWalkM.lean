/- The walk of Cycle. -/
import Derived.Test.YtlfpkikmofgjfaaWalkL
namespace Go.Proofs.Ytlfpkikmofgjfaa
open Go.RowKit

theorem far_le (hs : List Acc) (s i : Nat) : far hs s i ≤ hs.length := (dist_spec hs s hs.length i).2
theorem far_ne_one (hs : List Acc) (s : Nat) : far hs s s ≠ 1 := by
  intro h
  have := ((far_iff (by omega)).1 h).one
  exact absurd rfl (edge_iff.1 this).ne
theorem best_skip {hs : List Acc} {k : Nat} (h : far hs k k = 0 ∨ (0 < (bestGo hs k).2 ∧ (bestGo hs k).2 ≤ far hs k k)) : bestGo hs (k + 1) = bestGo hs k := by
  conv => lhs; unfold bestGo
  rw [if_neg (by omega)]
theorem best_take {hs : List Acc} {k : Nat} (h : 0 < far hs k k) (h2 : (bestGo hs k).2 = 0 ∨ far hs k k < (bestGo hs k).2) : bestGo hs (k + 1) = (k, far hs k k) := by
  conv => lhs; unfold bestGo
  rw [if_pos ⟨h, h2⟩]
theorem best_two {hs : List Acc} {k : Nat} (h : (bestGo hs k).2 = 2) : ∀ d, bestGo hs (k + d) = bestGo hs k
  | 0 => rfl
  | d + 1 => by
    have ih := best_two h d
    rw [← Nat.add_assoc, best_skip (k := k + d) ?_, ih]
    rw [ih, h]
    have := far_ne_one hs (k + d)
    omega
theorem best_lt (hs : List Acc) : ∀ k, (bestGo hs k).2 = 0 ∨ (bestGo hs k).1 < k
  | 0 => .inl rfl
  | k + 1 => by
    unfold bestGo
    split
    · exact .inr (by simp)
    · rcases best_lt hs k with h | h
      · exact .inl h
      · exact .inr (by omega)
theorem step_least {hs : List Acc} {f a n : Nat} {i : Nat} (hi : i < stepL hs f a n) (hl : stepL hs f a n < hs.length) (h1 : f < i) (h2 : edgeB hs a i = true) : far hs f i ≠ n := by
  intro h3
  have : (List.range hs.length).find? (fun j => decide (f < j) && edgeB hs a j && decide (far hs f j = n)) ≠ none := by
    intro h
    rw [List.find?_eq_none] at h
    exact h i (by simp; omega) (by simp [h1, h2, h3])
  obtain ⟨j, hj⟩ := Option.ne_none_iff_exists'.1 this
  have e1 : stepL hs f a n = j := by unfold stepL; rw [hj]; rfl
  rw [List.find?_range_eq_some] at hj
  have := hj.2.2 i (by omega)
  simp [h1, h2, h3] at this
/-- The best way back that was found: whence it goes, the ways thither, its length. -/
def BestSt (base : Nat) (hs : List Acc) (p : Nat × Nat) (o l s : Value) (wr : World) : Prop :=
  s = .int .i64 (p.2 : Nat) ∧ ((p.2 = 0 ∧ o = .slice none 0 0 ∧ l = .slice none 0 0) ∨ (0 < p.2 ∧ p.2 ≤ hs.length ∧ p.1 < hs.length ∧ ∃ ob, Row wr (ob + 1) 3 o (natsV [p.1]) ∧ base ≤ ob ∧ l = .slice (some ⟨ob, 0, none⟩) hs.length hs.length ∧ ob < wr.heap.size ∧ ∀ x, x < hs.length → wr.cell? ⟨ob, x, none⟩ = some (.int .i64 (far hs p.1 x : Nat))))
theorem BestSt.keep {base : Nat} {hs : List Acc} {p : Nat × Nat} {o l s : Value} {w w' : World} (h : BestSt base hs p o l s w) (hb : Below w.heap.size w w') : BestSt base hs p o l s w' := by
  obtain ⟨h1, h2 | ⟨h2, h3, h5, ob, h4, h6', h6, h7, h8⟩⟩ := h
  · exact ⟨h1, .inl h2⟩
  · exact ⟨h1, .inr ⟨h2, h3, h5, ob, h4.kept hb.size (fun b _ hb' => hb.block b hb'), h6', h6, Nat.lt_of_lt_of_le h7 hb.size, fun x hx => (hb.cell (p := ⟨ob, x, none⟩) h7).trans (h8 x hx)⟩⟩
theorem BestSt.new {base : Nat} {hs : List Acc} {k n ob : Nat} {w2 : World} (hbase : base ≤ ob) (hk : k < hs.length) (hn : 0 < n) (hnl : n ≤ hs.length) (hob : ob < w2.heap.size) (hF : ∀ x, x < hs.length → w2.cell? ⟨ob, x, none⟩ = some (.int .i64 (far hs k x : Nat))) :
    BestSt base hs (k, n) (.slice (some ⟨w2.heap.size, 0, none⟩) 1 1) (.slice (some ⟨ob, 0, none⟩) hs.length hs.length) (.int .i64 n) (w2.alloc (.cells #[.int .i64 k] 3)) :=
  ⟨rfl, .inr ⟨hn, hnl, hk, ob, Row.lit w2 (ob + 1) hob k, hbase, rfl, by simp; omega, fun x hx => (Below.cell ((Below.refl w2.heap.size w2).alloc (Nat.le_refl _) _) (p := ⟨ob, x, none⟩) hob).trans (hF x hx)⟩⟩
/-- The loop that goes the way back. -/
def CycSt (w1 : World) (hs : List Acc) (f n ob m : Nat) (v : Value) (wr : World) : Prop :=
  ∃ (pre : List Nat) (p : Nat), pre.length = p + 1 ∧ p + 1 + m = n ∧ pre.getD 0 0 = f ∧ IsFar hs f (m + 1) (pre.getD p 0) ∧ pre ++ pathGo hs f (pre.getD p 0) m = cycleL hs ∧ Row wr (ob + 1) 3 v (natsV pre) ∧ Below w1.heap.size w1 wr ∧ ob < wr.heap.size ∧ ∀ x, x < hs.length → wr.cell? ⟨ob, x, none⟩ = some (.int .i64 (far hs f x : Nat))
theorem CycSt.start {w1 : World} {hs : List Acc} {f n : Nat} {o l s : Value} {wr : World} (hv : checkL hs = 0) (hb : bestL hs = (f, n)) (h : BestSt w1.heap.size hs (f, n) o l s wr) (hB : Below w1.heap.size w1 wr) (hn : 0 < n) :
    ∃ ob m, n = m + 1 ∧ l = .slice (some ⟨ob, 0, none⟩) hs.length hs.length ∧ w1.heap.size ≤ ob ∧ n ≤ hs.length ∧ f < hs.length ∧ CycSt w1 hs f n ob m o wr := by
  obtain ⟨_, h | ⟨h2, h3, h4, ob, h5, h6, h7, h8, h9⟩⟩ := h
  · omega
  · refine ⟨ob, n - 1, by omega, h7, h6, h3, h4, [f], 0, rfl, by omega, rfl, ?_, ?_, h5, hB, h8, h9⟩
    · have : far hs f f = n := by
        rcases bestGo_spec hs hs.length with ⟨h0, _⟩ | ⟨_, h1⟩
        · have : (bestL hs).2 = 0 := h0
          rw [hb] at this
          omega
        · have : far hs (bestL hs).1 (bestL hs).1 = (bestL hs).2 := h1
          rw [hb] at this
          exact this
      rw [show n - 1 + 1 = n by omega]
      exact (far_iff hn).1 this
    · unfold cycleL
      rw [if_pos hv, hb, if_neg (by simp; omega)]
      rfl
theorem cycle_none {hs : List Acc} {f : Nat} (hb : bestL hs = (f, 0)) : cycleL hs = [] := by
  unfold cycleL
  rw [hb]
  split <;> rfl
/-- The loop that searches for the shortest way back. -/
def BestL (base : Nat) (hs : List Acc) (w1 : World) (o l s i : Value) (wr : World) : Prop :=
  ∃ k : Nat, i = .int .i64 k ∧ k ≤ hs.length ∧ BestSt base hs (bestGo hs k) o l s wr ∧ Below w1.heap.size w1 wr
/-- A list of nodes. -/
def IsNodes (w : World) (e : Ending) (w' : World) (q : List Nat) : Prop := ∃ v, e = .returned v ∧ Row w' w.heap.size 3 v (natsV q)
set_option maxRecDepth 100000 in
set_option maxHeartbeats 4000000 in
theorem cycle_any {w : World} {v : Value} {hs : List Acc} (k : Hist w v hs) :
    Calls Try.prog 35 #[v] w fun e w' => IsNodes w e w' (cycleL hs) ∧ Below w.heap.size w w' := by
  have HG := Lib.hid (graph_any k)
  have HK := Lib.hid k
  obtain ⟨A, c, rfl, hm, hcap, _⟩ := k.shape
  clear k
  by_cases hv : checkL hs = 0
  · have HV := Lib.hid hv
    have HL := Lib.hid (checkL_zero.1 hv).len
    have hln := (checkL_zero.1 hv).len
    clear hv
    go_enter Try.func35, Try.ntmps35
    go_wp2_with fail
    go_step3
    go_wp2_with fail
    refine HG.out.mono ?_
    rintro e w1 ⟨hg, hb⟩
    unfold IsGraph at hg
    rw [if_pos HV.out] at hg
    obtain ⟨g, rfl, hgr, hge⟩ := hg
    have HGr := Lib.hid hgr
    have HB := Lib.hid hb
    have HK1 := Lib.hid (HK.out.below hb)
    clear hgr hb hge
    go_wp2_with fail
    go_step3
    go_wp2_with fail
    go_loopw [4, 5, 6, 18] (fun o l s i wr => BestL w1.heap.size hs w1 o l s i wr) (fun _ _ _ i _ => hs.length - (intOf i).toNat)
    case atStart => exact ⟨0, rfl, by omega, ⟨rfl, .inl ⟨rfl, rfl, rfl⟩⟩, Below.refl _ _⟩
    case round =>
      obtain ⟨k, rfl, hk, hst, hB1⟩ := hrel
      obtain ⟨p, hp⟩ : ∃ p, p = bestGo hs k := ⟨_, rfl⟩
      rw [← hp] at hst
      have HP := Lib.hid hp
      clear hp
      obtain ⟨f, N⟩ := p
      obtain ⟨rfl, hst⟩ := hst
      have HSt : Hid (BestSt w1.heap.size hs (f, N) _ _ (.int .i64 (N : Nat)) wr) := Lib.hid ⟨rfl, hst⟩
      have HB1 := Lib.hid hB1
      clear hst hB1
      by_cases hlk : k < hs.length
      · go_wp2_with fail
        refine (ways_any k hlk (HGr.out.below HB1.out) (HK1.out.below HB1.out) HL.out).mono ?_
        rintro e w2 ⟨⟨ob, rfl, q1, q2, q3⟩, hb2⟩
        have HB2 := Lib.hid (HB1.out.trans (hb2.mono HB1.out.size))
        have HSt2 := Lib.hid (HSt.out.keep hb2)
        have HF := Lib.hid q3
        have hc : w2.cell? ⟨ob, k, none⟩ = some (.int .i64 (far hs k k : Nat)) := q3 k hlk
        have hfl := far_le hs k k
        have hf1 := far_ne_one hs k
        have hwz := HB2.out.size
        obtain ⟨n, hn⟩ : ∃ n, n = far hs k k := ⟨_, rfl⟩
        rw [← hn] at hc hfl hf1
        have HN := Lib.hid hn
        clear q3 hb2 hn HSt
        by_cases h0 : n = 0
        · subst h0
          have HNx := Lib.hid (best_skip (hs := hs) (k := k) (.inl HN.out.symm))
          rw [← HP.out] at HNx
          go_wp2_with fail
          go_roundw
          case rel => exact ⟨k + 1, by go_num, by omega, by rw [HNx.out]; exact HSt2.out, HB2.out⟩
          case measure => simp [intOf]; omega
        by_cases h1 : 0 < N ∧ N ≤ n
        · have HNx := Lib.hid (best_skip (hs := hs) (k := k) (.inr (by rw [← HP.out, ← HN.out]; exact h1)))
          rw [← HP.out] at HNx
          obtain ⟨h2, h3⟩ := h1
          go_wp2_with fail
          go_roundw
          case rel => exact ⟨k + 1, by go_num, by omega, by rw [HNx.out]; exact HSt2.out, HB2.out⟩
          case measure => simp [intOf]; omega
        have HNx := Lib.hid (best_take (hs := hs) (k := k) (by rw [← HN.out]; omega) (by rw [← HP.out, ← HN.out]; show N = 0 ∨ n < N; omega))
        rw [← HN.out] at HNx
        have HSt3 := Lib.hid (BestSt.new (base := w1.heap.size) (Nat.le_trans HB1.out.size q1) hlk (show 0 < n by omega) hfl q2 HF.out)
        have HB3 := Lib.hid (HB2.out.alloc hwz (.cells #[.int .i64 k] 3))
        have h4 : N = 0 ∨ n < N := by omega
        clear h1
        by_cases h5 : n = 2
        · subst h5
          have HBest := Lib.hid (show bestL hs = (k, 2) by
            have e1 := best_two (hs := hs) (k := k + 1) (by rw [HNx.out]) (hs.length - (k + 1))
            rw [show k + 1 + (hs.length - (k + 1)) = hs.length by omega, HNx.out] at e1
            exact e1)
          obtain ⟨ob', m0, hm0, hlv, hobw, hnl, hfl, hcs⟩ := CycSt.start HV.out HBest.out HSt3.out HB3.out (show 0 < 2 by omega)
          obtain rfl : ob = ob' := by simpa using hlv
          have HM0 := Lib.hid hm0
          have HCs := Lib.hid hcs
          clear hcs hm0 hlv HSt2 HSt3 HNx
          rcases h4 with h4 | h4
          · subst h4
            go_wp2_with fail
            go_wp2_with fail
            go_loopg [4] m0 (fun m v wr => CycSt w1 hs k 2 ob m v wr)
            case atStart => exact HCs.out
            case round =>
              obtain ⟨pre, p, hpl, hpm, hp0, hfar, hcyc, hrow, hB1, hobl, hfs⟩ := hrel
              clear HCs
              have HRow := Lib.hid hrow
              have HB1 := Lib.hid hB1
              have HCyc := Lib.hid hcyc
              have HFar := Lib.hid hfar
              have HFs := Lib.hid hfs
              have HPl := Lib.hid hpl
              have HP0 := Lib.hid hp0
              obtain ⟨pb, pc, rfl, hq1, hq2, hq3, hq4⟩ := hrow.nats (by omega)
              rw [hpl] at HRow hq3 hq4 ⊢
              have hq0 : wr.cell? ⟨pb, 0, none⟩ = some (.int .i64 (k : Nat)) := by rw [hq4 0 (by omega), hp0]
              obtain ⟨at', hat⟩ : ∃ at', at' = pre.getD p 0 := ⟨_, rfl⟩
              have hqp : wr.cell? ⟨pb, p, none⟩ = some (.int .i64 (at' : Nat)) := by rw [hq4 p (by omega), hat]
              rw [← hat] at HFar HCyc
              have HAt := Lib.hid hat
              clear hrow hB1 hcyc hfar hfs hpl hp0 hq4 hat
              obtain ⟨m, rfl⟩ | rfl : (∃ m', gk = m' + 1) ∨ gk = 0 := by
                rcases gk with _ | m'
                · exact .inr rfl
                · exact .inl ⟨m', rfl⟩
              · obtain ⟨js, hjs, hfj, hej, hfarj⟩ := stepL_spec HFar.out
                have HJs := Lib.hid hjs
                have HEj := Lib.hid hej
                have HFj := Lib.hid hfarj
                have hjl := hfarj.walk.lt
                have hal := HFar.out.walk.lt
                have HLeast := Lib.hid (fun i (h1 : i < js) h2 h3 => step_least (hs := hs) (f := k) (a := at') (n := m + 1) (i := i) (by rw [hjs]; exact h1) (by rw [hjs]; exact hjl) h2 h3)
                clear hjs hej hfarj
                go_wp2_with fail
                go_loopw [4, 11] (fun v x wr' => v = .slice (some ⟨pb, 0, none⟩) (p + 1) pc ∧ wr' = wr ∧ ∃ i : Nat, x = .int .i64 i ∧ k + 1 ≤ i ∧ i ≤ js) (fun _ x _ => hs.length - (intOf x).toNat)
                case atStart => exact ⟨rfl, rfl, k + 1, by go_num, Nat.le_refl _, by omega⟩
                case round =>
                  obtain ⟨rfl, rfl, i, rfl, hi1, hi2⟩ := hrel
                  have hil : i < hs.length := by omega
                  obtain ⟨eb, hgc, heb, hr⟩ := HGr.out
                  obtain ⟨rb, r1, r2, r3⟩ := hr at' hal
                  have f1 : wr.cell? ⟨g, 1, none⟩ = some (.slice (some ⟨eb, 0, none⟩) hs.length hs.length) := (HB1.out.cell (p := ⟨g, 1, none⟩) hgc.lt).trans (hgc.cell 1)
                  have f2 : wr.cell? ⟨eb, at', none⟩ = some (.slice (some ⟨rb, 0, none⟩) hs.length hs.length) := (HB1.out.cell (p := ⟨eb, at', none⟩) heb).trans r1
                  have f3 : wr.cell? ⟨rb, i, none⟩ = some (.int .i64 (bitsOf hs at' i)) := (HB1.out.cell (p := ⟨rb, i, none⟩) r2).trans (r3 i hil)
                  have f4 : wr.cell? ⟨ob, i, none⟩ = some (.int .i64 (far hs k i : Nat)) := HFs.out i hil
                  have hbe := bits_edge hs at' i
                  have hfl' := far_le hs k i
                  have hsz := HB1.out.size
                  clear hr r1 r3 hgc
                  generalize bitsOf hs at' i = y at *
                  by_cases hij : i = js
                  · subst hij
                    have he : edgeB hs at' i = true := HEj.out
                    have hq : far hs k i = m + 1 := (far_iff (by omega)).2 HFj.out
                    rw [he] at hbe
                    rw [hq] at f4
                    have HSz := Lib.hid hsz
                    clear he hq
                    go_wp2_with (at_builtin; refine wpList_app_int wr (ob + 1) rfl (.tmp 94) (.tmp 96) rfl _ _ i rfl rfl HRow.out (by rw [natsV_length, HPl.out]; omega) (by omega) ?_; intro v1 w5 h1 h2 h3; have HRow5 := Lib.hid h1; have HB5 := Lib.hid (HB1.out.grown h2 HSz.out (fun q hq => by have := h3 q hq; omega)); have HOb := Lib.hid (h2.block ob hobl (fun e => by have := h3 _ e.symm; omega)); have hs5 := h2.size; clear h1 h2 h3)
                    have HCyc2 : Hid ((pre ++ [i]) ++ pathGo hs k i m = cycleL hs) := Lib.hid (by
                      rw [← HCyc.out, List.append_assoc]
                      conv => rhs; unfold pathGo
                      rw [HJs.out]
                      rfl)
                    have HLast : Hid ((pre ++ [i]).getD (p + 1) 0 = i) := Lib.hid (by rw [← HPl.out]; simp [List.getD])
                    have HFst : Hid ((pre ++ [i]).getD 0 0 = k) := Lib.hid (by have := HPl.out; show ((pre ++ [i])[0]?).getD 0 = k; rw [List.getElem?_append_left (by omega)]; exact HP0.out)
                    go_roundg m
                    case measure => omega
                    case rel => exact ⟨pre ++ [i], p + 1, by rw [List.length_append, HPl.out]; rfl, by omega, HFst.out, by rw [HLast.out]; exact HFj.out, by rw [HLast.out]; exact HCyc2.out, by rw [natsV_snoc]; exact HRow5.out, HB5.out, by omega, fun x hx => (World.cell?_of_block (a := ⟨ob, x, none⟩) HOb.out).trans (HFs.out x hx)⟩
                  · have hno : edgeB hs at' i = true → far hs k i ≠ m + 1 := HLeast.out i (by omega) (by omega)
                    have HNo := Lib.hid hno
                    generalize hq : far hs k i = q at *
                    by_cases he : edgeB hs at' i = true
                    · rw [he] at hbe
                      have hqm := hno he
                      clear hq he hno
                      go_wp2_with fail
                      go_roundw
                      case rel => exact ⟨by trivial, by trivial, i + 1, by go_num, by omega, by omega⟩
                      case measure => simp [intOf]; omega
                    · have he' : edgeB hs at' i = false := by simpa using he
                      rw [he'] at hbe
                      clear hq he hno he'
                      go_wp2_with fail
                      go_roundw
                      case rel => exact ⟨by trivial, by trivial, i + 1, by go_num, by omega, by omega⟩
                      case measure => simp [intOf]; omega
              · go_wp2_with fail
                try rw [Exit.noGoto_ret]
                go_ret
                exact ⟨⟨_, rfl, by rw [← HCyc.out]; simpa [pathGo] using HRow.out.mono (base' := w.heap.size) (by have := HB.out.size; omega)⟩, HB.out.trans (HB1.out.mono HB.out.size)⟩
          · have h6 : 0 < N := by omega
            have h7 : ¬ N ≤ 2 := by omega
            go_wp2_with fail
            go_wp2_with fail
            go_loopg [4] m0 (fun m v wr => CycSt w1 hs k 2 ob m v wr)
            case atStart => exact HCs.out
            case round =>
              obtain ⟨pre, p, hpl, hpm, hp0, hfar, hcyc, hrow, hB1, hobl, hfs⟩ := hrel
              clear HCs
              have HRow := Lib.hid hrow
              have HB1 := Lib.hid hB1
              have HCyc := Lib.hid hcyc
              have HFar := Lib.hid hfar
              have HFs := Lib.hid hfs
              have HPl := Lib.hid hpl
              have HP0 := Lib.hid hp0
              obtain ⟨pb, pc, rfl, hq1, hq2, hq3, hq4⟩ := hrow.nats (by omega)
              rw [hpl] at HRow hq3 hq4 ⊢
              have hq0 : wr.cell? ⟨pb, 0, none⟩ = some (.int .i64 (k : Nat)) := by rw [hq4 0 (by omega), hp0]
              obtain ⟨at', hat⟩ : ∃ at', at' = pre.getD p 0 := ⟨_, rfl⟩
              have hqp : wr.cell? ⟨pb, p, none⟩ = some (.int .i64 (at' : Nat)) := by rw [hq4 p (by omega), hat]
              rw [← hat] at HFar HCyc
              have HAt := Lib.hid hat
              clear hrow hB1 hcyc hfar hfs hpl hp0 hq4 hat
              obtain ⟨m, rfl⟩ | rfl : (∃ m', gk = m' + 1) ∨ gk = 0 := by
                rcases gk with _ | m'
                · exact .inr rfl
                · exact .inl ⟨m', rfl⟩
              · obtain ⟨js, hjs, hfj, hej, hfarj⟩ := stepL_spec HFar.out
                have HJs := Lib.hid hjs
                have HEj := Lib.hid hej
                have HFj := Lib.hid hfarj
                have hjl := hfarj.walk.lt
                have hal := HFar.out.walk.lt
                have HLeast := Lib.hid (fun i (h1 : i < js) h2 h3 => step_least (hs := hs) (f := k) (a := at') (n := m + 1) (i := i) (by rw [hjs]; exact h1) (by rw [hjs]; exact hjl) h2 h3)
                clear hjs hej hfarj
                go_wp2_with fail
                go_loopw [4, 11] (fun v x wr' => v = .slice (some ⟨pb, 0, none⟩) (p + 1) pc ∧ wr' = wr ∧ ∃ i : Nat, x = .int .i64 i ∧ k + 1 ≤ i ∧ i ≤ js) (fun _ x _ => hs.length - (intOf x).toNat)
                case atStart => exact ⟨rfl, rfl, k + 1, by go_num, Nat.le_refl _, by omega⟩
                case round =>
                  obtain ⟨rfl, rfl, i, rfl, hi1, hi2⟩ := hrel
                  have hil : i < hs.length := by omega
                  obtain ⟨eb, hgc, heb, hr⟩ := HGr.out
                  obtain ⟨rb, r1, r2, r3⟩ := hr at' hal
                  have f1 : wr.cell? ⟨g, 1, none⟩ = some (.slice (some ⟨eb, 0, none⟩) hs.length hs.length) := (HB1.out.cell (p := ⟨g, 1, none⟩) hgc.lt).trans (hgc.cell 1)
                  have f2 : wr.cell? ⟨eb, at', none⟩ = some (.slice (some ⟨rb, 0, none⟩) hs.length hs.length) := (HB1.out.cell (p := ⟨eb, at', none⟩) heb).trans r1
                  have f3 : wr.cell? ⟨rb, i, none⟩ = some (.int .i64 (bitsOf hs at' i)) := (HB1.out.cell (p := ⟨rb, i, none⟩) r2).trans (r3 i hil)
                  have f4 : wr.cell? ⟨ob, i, none⟩ = some (.int .i64 (far hs k i : Nat)) := HFs.out i hil
                  have hbe := bits_edge hs at' i
                  have hfl' := far_le hs k i
                  have hsz := HB1.out.size
                  clear hr r1 r3 hgc
                  generalize bitsOf hs at' i = y at *
                  by_cases hij : i = js
                  · subst hij
                    have he : edgeB hs at' i = true := HEj.out
                    have hq : far hs k i = m + 1 := (far_iff (by omega)).2 HFj.out
                    rw [he] at hbe
                    rw [hq] at f4
                    have HSz := Lib.hid hsz
                    clear he hq
                    go_wp2_with (at_builtin; refine wpList_app_int wr (ob + 1) rfl (.tmp 94) (.tmp 96) rfl _ _ i rfl rfl HRow.out (by rw [natsV_length, HPl.out]; omega) (by omega) ?_; intro v1 w5 h1 h2 h3; have HRow5 := Lib.hid h1; have HB5 := Lib.hid (HB1.out.grown h2 HSz.out (fun q hq => by have := h3 q hq; omega)); have HOb := Lib.hid (h2.block ob hobl (fun e => by have := h3 _ e.symm; omega)); have hs5 := h2.size; clear h1 h2 h3)
                    have HCyc2 : Hid ((pre ++ [i]) ++ pathGo hs k i m = cycleL hs) := Lib.hid (by
                      rw [← HCyc.out, List.append_assoc]
                      conv => rhs; unfold pathGo
                      rw [HJs.out]
                      rfl)
                    have HLast : Hid ((pre ++ [i]).getD (p + 1) 0 = i) := Lib.hid (by rw [← HPl.out]; simp [List.getD])
                    have HFst : Hid ((pre ++ [i]).getD 0 0 = k) := Lib.hid (by have := HPl.out; show ((pre ++ [i])[0]?).getD 0 = k; rw [List.getElem?_append_left (by omega)]; exact HP0.out)
                    go_roundg m
                    case measure => omega
                    case rel => exact ⟨pre ++ [i], p + 1, by rw [List.length_append, HPl.out]; rfl, by omega, HFst.out, by rw [HLast.out]; exact HFj.out, by rw [HLast.out]; exact HCyc2.out, by rw [natsV_snoc]; exact HRow5.out, HB5.out, by omega, fun x hx => (World.cell?_of_block (a := ⟨ob, x, none⟩) HOb.out).trans (HFs.out x hx)⟩
                  · have hno : edgeB hs at' i = true → far hs k i ≠ m + 1 := HLeast.out i (by omega) (by omega)
                    have HNo := Lib.hid hno
                    generalize hq : far hs k i = q at *
                    by_cases he : edgeB hs at' i = true
                    · rw [he] at hbe
                      have hqm := hno he
                      clear hq he hno
                      go_wp2_with fail
                      go_roundw
                      case rel => exact ⟨by trivial, by trivial, i + 1, by go_num, by omega, by omega⟩
                      case measure => simp [intOf]; omega
                    · have he' : edgeB hs at' i = false := by simpa using he
                      rw [he'] at hbe
                      clear hq he hno he'
                      go_wp2_with fail
                      go_roundw
                      case rel => exact ⟨by trivial, by trivial, i + 1, by go_num, by omega, by omega⟩
                      case measure => simp [intOf]; omega
              · go_wp2_with fail
                try rw [Exit.noGoto_ret]
                go_ret
                exact ⟨⟨_, rfl, by rw [← HCyc.out]; simpa [pathGo] using HRow.out.mono (base' := w.heap.size) (by have := HB.out.size; omega)⟩, HB.out.trans (HB1.out.mono HB.out.size)⟩
        · rcases h4 with h4 | h4
          · subst h4
            go_wp2_with fail
            go_roundw
            case rel => exact ⟨k + 1, by go_num, by omega, by rw [HNx.out]; exact HSt3.out, HB3.out⟩
            case measure => simp [intOf]; omega
          · have h6 : 0 < N := by omega
            have h7 : ¬ N ≤ n := by omega
            go_wp2_with fail
            go_roundw
            case rel => exact ⟨k + 1, by go_num, by omega, by rw [HNx.out]; exact HSt3.out, HB3.out⟩
            case measure => simp [intOf]; omega
      · obtain rfl : k = hs.length := by omega
        by_cases h0 : N = 0
        · subst h0
          have HCy := Lib.hid (cycle_none (hs := hs) (f := f) HP.out.symm)
          obtain ⟨_, ⟨_, rfl, rfl⟩ | ⟨hx, _⟩⟩ := HSt.out
          · go_wp2_with fail
            go_loopg [4] 0 (fun _ v wr' => v = .slice none 0 0 ∧ wr' = wr)
            case atStart => exact ⟨rfl, rfl⟩
            case round =>
              obtain ⟨rfl, rfl⟩ := hrel
              go_wp2_with fail
              try rw [Exit.noGoto_ret]
              go_ret
              exact ⟨⟨_, rfl, by rw [HCy.out]; exact Row.nil _ _ _⟩, HB.out.trans (HB1.out.mono HB.out.size)⟩
          · exact absurd hx (by simp)
        · obtain ⟨ob, m0, hm0, rfl, hobw, hnl, hfl, hcs⟩ := CycSt.start HV.out HP.out.symm HSt.out HB1.out (show 0 < N by omega)
          have HCs := Lib.hid hcs
          have HM0 := Lib.hid hm0
          clear hcs HSt HB1 hm0
          go_wp2_with fail
          go_loopg [4] m0 (fun m v wr => CycSt w1 hs f N ob m v wr)
          case atStart => exact HCs.out
          case round =>
            obtain ⟨pre, p, hpl, hpm, hp0, hfar, hcyc, hrow, hB1, hobl, hfs⟩ := hrel
            clear HCs
            have HRow := Lib.hid hrow
            have HB1 := Lib.hid hB1
            have HCyc := Lib.hid hcyc
            have HFar := Lib.hid hfar
            have HFs := Lib.hid hfs
            have HPl := Lib.hid hpl
            have HP0 := Lib.hid hp0
            obtain ⟨pb, pc, rfl, hq1, hq2, hq3, hq4⟩ := hrow.nats (by omega)
            rw [hpl] at HRow hq3 hq4 ⊢
            have hq0 : wr.cell? ⟨pb, 0, none⟩ = some (.int .i64 (f : Nat)) := by rw [hq4 0 (by omega), hp0]
            obtain ⟨at', hat⟩ : ∃ at', at' = pre.getD p 0 := ⟨_, rfl⟩
            have hqp : wr.cell? ⟨pb, p, none⟩ = some (.int .i64 (at' : Nat)) := by rw [hq4 p (by omega), hat]
            rw [← hat] at HFar HCyc
            have HAt := Lib.hid hat
            clear hrow hB1 hcyc hfar hfs hpl hp0 hq4 hat
            obtain ⟨m, rfl⟩ | rfl : (∃ m', gk = m' + 1) ∨ gk = 0 := by
              rcases gk with _ | m'
              · exact .inr rfl
              · exact .inl ⟨m', rfl⟩
            · obtain ⟨js, hjs, hfj, hej, hfarj⟩ := stepL_spec HFar.out
              have HJs := Lib.hid hjs
              have HEj := Lib.hid hej
              have HFj := Lib.hid hfarj
              have hjl := hfarj.walk.lt
              have hal := HFar.out.walk.lt
              have HLeast := Lib.hid (fun i (h1 : i < js) h2 h3 => step_least (hs := hs) (f := f) (a := at') (n := m + 1) (i := i) (by rw [hjs]; exact h1) (by rw [hjs]; exact hjl) h2 h3)
              clear hjs hej hfarj
              go_wp2_with fail
              go_loopw [4, 11] (fun v x wr' => v = .slice (some ⟨pb, 0, none⟩) (p + 1) pc ∧ wr' = wr ∧ ∃ i : Nat, x = .int .i64 i ∧ f + 1 ≤ i ∧ i ≤ js) (fun _ x _ => hs.length - (intOf x).toNat)
              case atStart => exact ⟨rfl, rfl, f + 1, by go_num, Nat.le_refl _, by omega⟩
              case round =>
                obtain ⟨rfl, rfl, i, rfl, hi1, hi2⟩ := hrel
                have hil : i < hs.length := by omega
                obtain ⟨eb, hgc, heb, hr⟩ := HGr.out
                obtain ⟨rb, r1, r2, r3⟩ := hr at' hal
                have f1 : wr.cell? ⟨g, 1, none⟩ = some (.slice (some ⟨eb, 0, none⟩) hs.length hs.length) := (HB1.out.cell (p := ⟨g, 1, none⟩) hgc.lt).trans (hgc.cell 1)
                have f2 : wr.cell? ⟨eb, at', none⟩ = some (.slice (some ⟨rb, 0, none⟩) hs.length hs.length) := (HB1.out.cell (p := ⟨eb, at', none⟩) heb).trans r1
                have f3 : wr.cell? ⟨rb, i, none⟩ = some (.int .i64 (bitsOf hs at' i)) := (HB1.out.cell (p := ⟨rb, i, none⟩) r2).trans (r3 i hil)
                have f4 : wr.cell? ⟨ob, i, none⟩ = some (.int .i64 (far hs f i : Nat)) := HFs.out i hil
                have hbe := bits_edge hs at' i
                have hfl' := far_le hs f i
                have hsz := HB1.out.size
                clear hr r1 r3 hgc
                generalize bitsOf hs at' i = y at *
                by_cases hij : i = js
                · subst hij
                  have he : edgeB hs at' i = true := HEj.out
                  have hq : far hs f i = m + 1 := (far_iff (by omega)).2 HFj.out
                  rw [he] at hbe
                  rw [hq] at f4
                  have HSz := Lib.hid hsz
                  clear he hq
                  go_wp2_with (at_builtin; refine wpList_app_int wr (ob + 1) rfl (.tmp 94) (.tmp 96) rfl _ _ i rfl rfl HRow.out (by rw [natsV_length, HPl.out]; omega) (by omega) ?_; intro v1 w5 h1 h2 h3; have HRow5 := Lib.hid h1; have HB5 := Lib.hid (HB1.out.grown h2 HSz.out (fun q hq => by have := h3 q hq; omega)); have HOb := Lib.hid (h2.block ob hobl (fun e => by have := h3 _ e.symm; omega)); have hs5 := h2.size; clear h1 h2 h3)
                  have HCyc2 : Hid ((pre ++ [i]) ++ pathGo hs f i m = cycleL hs) := Lib.hid (by
                    rw [← HCyc.out, List.append_assoc]
                    conv => rhs; unfold pathGo
                    rw [HJs.out]
                    rfl)
                  have HLast : Hid ((pre ++ [i]).getD (p + 1) 0 = i) := Lib.hid (by rw [← HPl.out]; simp [List.getD])
                  have HFst : Hid ((pre ++ [i]).getD 0 0 = f) := Lib.hid (by have := HPl.out; show ((pre ++ [i])[0]?).getD 0 = f; rw [List.getElem?_append_left (by omega)]; exact HP0.out)
                  go_roundg m
                  case measure => omega
                  case rel => exact ⟨pre ++ [i], p + 1, by rw [List.length_append, HPl.out]; rfl, by omega, HFst.out, by rw [HLast.out]; exact HFj.out, by rw [HLast.out]; exact HCyc2.out, by rw [natsV_snoc]; exact HRow5.out, HB5.out, by omega, fun x hx => (World.cell?_of_block (a := ⟨ob, x, none⟩) HOb.out).trans (HFs.out x hx)⟩
                · have hno : edgeB hs at' i = true → far hs f i ≠ m + 1 := HLeast.out i (by omega) (by omega)
                  have HNo := Lib.hid hno
                  generalize hq : far hs f i = q at *
                  by_cases he : edgeB hs at' i = true
                  · rw [he] at hbe
                    have hqm := hno he
                    clear hq he hno
                    go_wp2_with fail
                    go_roundw
                    case rel => exact ⟨by trivial, by trivial, i + 1, by go_num, by omega, by omega⟩
                    case measure => simp [intOf]; omega
                  · have he' : edgeB hs at' i = false := by simpa using he
                    rw [he'] at hbe
                    clear hq he hno he'
                    go_wp2_with fail
                    go_roundw
                    case rel => exact ⟨by trivial, by trivial, i + 1, by go_num, by omega, by omega⟩
                    case measure => simp [intOf]; omega
            · go_wp2_with fail
              try rw [Exit.noGoto_ret]
              go_ret
              exact ⟨⟨_, rfl, by rw [← HCyc.out]; simpa [pathGo] using HRow.out.mono (base' := w.heap.size) (by have := HB.out.size; omega)⟩, HB.out.trans (HB1.out.mono HB.out.size)⟩
  · have HV := Lib.hid hv
    have HR := Lib.hid (show cycleL hs = [] by unfold cycleL; rw [if_neg hv])
    clear hv
    go_enter Try.func35, Try.ntmps35
    go_wp2_with fail
    go_step3
    go_wp2_with fail
    refine HG.out.mono ?_
    rintro e w1 ⟨hg, hb⟩
    unfold IsGraph at hg
    rw [if_neg HV.out] at hg
    subst hg
    have HB := Lib.hid hb
    clear hb
    go_wp2_with fail
    try rw [Exit.noGoto_ret]
    go_ret
    exact ⟨⟨_, rfl, by rw [HR.out]; exact Row.nil _ _ _⟩, HB.out⟩
end Go.Proofs.Ytlfpkikmofgjfaa
