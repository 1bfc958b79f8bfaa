/- The walk of conflict.Check. -/
import Derived.Test.YtlfpkikmofgjfaaWalkC
namespace Go.Proofs.Ytlfpkikmofgjfaa
open Go.RowKit

theorem checkL_len {h : List Acc} (k : 100 < h.length) : checkL h = 2 := by unfold checkL; rw [if_pos k]
theorem checkL_big {h : List Acc} (k : ¬ 100 < h.length) {i : Nat} (hi : i < h.length) (hb : 64 < (tx h i).reads.length ∨ 64 < (tx h i).writes.length) : checkL h = 2 := by
  unfold checkL
  rw [if_neg k, if_pos]
  exact anyUpto_iff.2 ⟨i, hi, decide_eq_true hb⟩
theorem checkL_bad {h : List Acc} (k : ¬ 100 < h.length) (hb : bigB h = false) {i : Nat} (hi : i < h.length) (hx : badB h i = true) : checkL h = 1 := by
  unfold checkL
  rw [if_neg k, if_neg (by rw [hb]; simp), if_pos (anyUpto_iff.2 ⟨i, hi, hx⟩)]
theorem checkL_clash {h : List Acc} (k : ¬ 100 < h.length) (hb : bigB h = false) (hx : anyUpto h.length (badB h) = false) {i j : Nat} (hi : i < h.length) (hj : j < i) (hc : clashB h i j = true) : checkL h = 3 := by
  unfold checkL
  rw [if_neg k, if_neg (by rw [hb]; simp), if_neg (by rw [hx]; simp), if_pos (anyUpto_iff.2 ⟨i, hi, anyUpto_iff.2 ⟨j, hj, hc⟩⟩)]
theorem checkL_ok {h : List Acc} (k : ¬ 100 < h.length) (hb : bigB h = false) (hx : anyUpto h.length (badB h) = false) (hc : ∀ i j, i < h.length → j < i → clashB h i j = false) : checkL h = 0 := by
  unfold checkL
  rw [if_neg k, if_neg (by rw [hb]; simp), if_neg (by rw [hx]; simp), if_neg]
  rw [Bool.not_eq_true, anyUpto_not]
  intro i hi
  rw [anyUpto_not]
  exact fun j hj => hc i j hi hj
theorem Cells.acc {w : World} {b : Nat} {x : Acc} {vr vw : Value} (h : Cells w b 29 (accCells x vr vw)) : w.cell? ⟨b, 0, none⟩ = some (.int .i64 x.mode) ∧ w.cell? ⟨b, 1, none⟩ = some (.int .i64 x.snap) ∧ w.cell? ⟨b, 2, none⟩ = some (.bool x.done) ∧
    w.cell? ⟨b, 3, none⟩ = some (.int .i64 x.stamp) ∧ w.cell? ⟨b, 4, none⟩ = some vr ∧ w.cell? ⟨b, 5, none⟩ = some vw := ⟨h.cell 0, h.cell 1, h.cell 2, h.cell 3, h.cell 4, h.cell 5⟩
theorem nodup_of_rising {xs : List Int} (h : rising xs = true) : xs.Nodup := (pairwise_of_rising h).imp fun h e => by omega
theorem clash_eq (hs : List Acc) (i j : Nat) : clashB hs i j = ((tx hs i).writer && ((tx hs j).writer && (decide ((tx hs i).snap < (tx hs j).stamp ∧ (tx hs j).snap < (tx hs i).stamp) && meet (tx hs i).writes (tx hs j).writes))) := by
  unfold clashB
  by_cases hm : meet (tx hs i).writes (tx hs j).writes = true
  · obtain ⟨x, h1, h2⟩ := meet_iff.1 hm
    have e1 : (tx hs i).writer = (tx hs i).done := by
      unfold Acc.writer
      cases hw : (tx hs i).writes with
      | nil => rw [hw] at h1; cases h1
      | cons a l => simp
    have e2 : (tx hs j).writer = (tx hs j).done := by
      unfold Acc.writer
      cases hw : (tx hs j).writes with
      | nil => rw [hw] at h2; cases h2
      | cons a l => simp
    rw [e1, e2, hm]
    cases (tx hs i).done <;> cases (tx hs j).done <;> simp
  · have : meet (tx hs i).writes (tx hs j).writes = false := by simpa using hm
    rw [this]
    simp
/-- The cells of a transaction of a history. -/
structure At (w : World) (b o : Nat) (x : Acc) (vr vw : Value) : Prop where
  lt : b < w.heap.size
  rd : Reads w x vr vw
  c0 : w.cell? ⟨b, o, none⟩ = some (.int .i64 x.mode)
  c1 : w.cell? ⟨b, o + 1, none⟩ = some (.int .i64 x.snap)
  c2 : w.cell? ⟨b, o + 2, none⟩ = some (.bool x.done)
  c3 : w.cell? ⟨b, o + 3, none⟩ = some (.int .i64 x.stamp)
  c4 : w.cell? ⟨b, o + 4, none⟩ = some vr
  c5 : w.cell? ⟨b, o + 5, none⟩ = some vw
theorem At.below {w w' : World} {b o : Nat} {x : Acc} {vr vw : Value} (a : At w b o x vr vw) (hb : Below w.heap.size w w') : At w' b o x vr vw := by
  have hcell : ∀ i, w'.cell? ⟨b, i, none⟩ = w.cell? ⟨b, i, none⟩ := fun i => hb.cell (p := ⟨b, i, none⟩) a.lt
  exact ⟨by have := hb.size; have := a.lt; omega, a.rd.below hb, by rw [hcell]; exact a.c0, by rw [hcell]; exact a.c1, by rw [hcell]; exact a.c2, by rw [hcell]; exact a.c3, by rw [hcell]; exact a.c4, by rw [hcell]; exact a.c5⟩
theorem Hist.shape {w : World} {v : Value} {h : List Acc} (k : Hist w v h) : ∃ A c, v = .slice A h.length c ∧ h.length ≤ 9223372036854775807 ∧ h.length ≤ c ∧ ∀ j, j < h.length → ∃ b o vr vw, A = some ⟨b, o, none⟩ ∧ At w b (o + j * 6) (tx h j) vr vw := by
  obtain ⟨A, c, rfl, hm, hcap, hc⟩ := k
  refine ⟨A, c, rfl, hm, hcap, fun j hj => ?_⟩
  obtain ⟨b, o, vr, vw, e, hlt, hr, c0, c1, c2, c3, c4, c5⟩ := hc j hj
  exact ⟨b, o, vr, vw, e, hlt, hr, c0, c1, c2, c3, c4, c5⟩
set_option maxRecDepth 100000 in
set_option maxHeartbeats 4000000 in
theorem check_any {w : World} {v : Value} {hs : List Acc} (k : Hist w v hs) :
    Calls Try.prog 18 #[v] w fun e w' => e = .returned (.int .i64 (checkL hs)) ∧ Below w.heap.size w w' := by
  obtain ⟨A, c, rfl, hm, hcap, hc⟩ := k.shape
  have HC := Lib.hid hc
  clear hc k
  have hmm := @run_makeMap Try.prog
  by_cases hl : 100 < hs.length
  · have HR := Lib.hid (checkL_len hl)
    go_enter Try.func18, Try.ntmps18
    go_wp2_with fail
    go_ret
    exact ⟨ret_int HR.out.symm, Below.refl _ _⟩
  have HL := Lib.hid hl
  go_enter Try.func18, Try.ntmps18
  go_wp2_with fail
  go_loopw [18] (fun i wr => ∃ k : Nat, i = .int .i64 k ∧ k ≤ hs.length ∧ Below w.heap.size w wr ∧ Hid (∀ j, j < k → (tx hs j).reads.length ≤ 64 ∧ (tx hs j).writes.length ≤ 64)) (fun i _ => hs.length - (intOf i).toNat)
  case atStart => exact ⟨0, rfl, by omega, Below.refl _ _, Lib.hid (fun j hj => by omega)⟩
  case round =>
    obtain ⟨k, rfl, hk, hB, HN⟩ := hrel
    have HB := Lib.hid hB
    have hsz := hB.size
    clear hB
    by_cases hlk : k < hs.length
    · obtain ⟨b, o, vr, vw, rfl, ha⟩ := HC.out k hlk
      obtain ⟨lt, ⟨⟨_, Ar, cr, rfl, hrm, _, _⟩, ⟨_, Aw, cw, rfl, hwm, _, _⟩, _, _, _⟩, c0, c1, c2, c3, c4, c5⟩ := ha.below HB.out
      obtain ⟨x, hx⟩ : ∃ x, x = tx hs k := ⟨_, rfl⟩
      rw [← hx] at c0 c1 c2 c3 c4 c5 hrm hwm
      have HX := Lib.hid hx
      clear hx ha
      by_cases e1 : x.reads.length < x.writes.length
      · by_cases e2 : 64 < x.writes.length
        · have HR := Lib.hid (checkL_big HL.out hlk (.inr (by rw [← HX.out]; exact e2)))
          go_wp2_with fail
          go_ret
          exact ⟨ret_int HR.out.symm, HB.out.alloc hsz _⟩
        · have HN' := Lib.hid (show ∀ j, j < k + 1 → (tx hs j).reads.length ≤ 64 ∧ (tx hs j).writes.length ≤ 64 from fun j hj => by
            by_cases e : j = k
            · subst e; rw [← HX.out]; omega
            · exact HN.out j (by omega))
          go_wp2_with fail
          go_roundw
          case rel => exact ⟨k + 1, by go_num, by omega, HB.out.alloc hsz _, HN'⟩
          case measure => simp [intOf]; omega
      · by_cases e2 : 64 < x.reads.length
        · have HR := Lib.hid (checkL_big HL.out hlk (.inl (by rw [← HX.out]; exact e2)))
          go_wp2_with fail
          go_ret
          exact ⟨ret_int HR.out.symm, HB.out.alloc hsz _⟩
        · have HN' := Lib.hid (show ∀ j, j < k + 1 → (tx hs j).reads.length ≤ 64 ∧ (tx hs j).writes.length ≤ 64 from fun j hj => by
            by_cases e : j = k
            · subst e; rw [← HX.out]; omega
            · exact HN.out j (by omega))
          go_wp2_with fail
          go_roundw
          case rel => exact ⟨k + 1, by go_num, by omega, HB.out.alloc hsz _, HN'⟩
          case measure => simp [intOf]; omega
    · obtain rfl : k = hs.length := by omega
      have HBig := Lib.hid (show bigB hs = false by
        unfold bigB
        rw [anyUpto_not]
        intro i hi
        have := HN.out i hi
        exact decide_eq_false (by omega))
      clear HN
      obtain ⟨wo, rfl⟩ : ∃ wo : World, wo = wr := ⟨_, rfl⟩
      have HB0 : Hid (Below w.heap.size w (wo.alloc (.map #[] 0))) := Lib.hid (HB.out.alloc hsz _)
      have HS0 := Lib.hid (SetAt.made wo Try.prog 3 4)
      clear HB
      go_wp2_with fail
      go_loopw [34] (fun i wr => ∃ (k : Nat) (ks : List Int), i = .int .i64 k ∧ k ≤ hs.length ∧ Below w.heap.size w wr ∧ SetAt Try.prog 3 4 wr wo.heap.size ks ∧ ks.length ≤ k ∧ Hid (∀ s, s ∈ ks ↔ 0 < s ∧ ∃ j, j < k ∧ (tx hs j).stamp = s) ∧ Hid (∀ j, j < k → badB hs j = false)) (fun i _ => hs.length - (intOf i).toNat)
      case atStart => exact ⟨0, [], rfl, by omega, HB0.out, HS0.out, by simp, Lib.hid (fun s => by simp), Lib.hid (fun j hj => by omega)⟩
      case round =>
        obtain ⟨k, ks, rfl, hk, hB, hS, hkl, HK, HN⟩ := hrel
        have HB := Lib.hid hB
        have HS := Lib.hid hS
        have hsz1 := hB.size
        have hslt := hS.lt
        clear hB hS HB0 HS0
        by_cases hlk : k < hs.length
        · obtain ⟨b, o, vr, vw, rfl, ha⟩ := HC.out k hlk
          obtain ⟨Ar, cr, rfl, hrm⟩ := ha.rd.r.shape
          obtain ⟨Aw, cw, rfl, hwm⟩ := ha.rd.w.shape
          obtain ⟨lt, hrd, c0, c1, c2, c3, c4, c5⟩ := ha.below HB.out
          have hfm := (ha.below HB.out).rd
          have HX := Lib.hid (rfl : tx hs k = tx hs k)
          have HBk : Hid (badB hs k = (!formedB (tx hs k) || decide ((tx hs k).stamp ∈ ks))) := Lib.hid (by
            unfold badB
            by_cases hf : formedB (tx hs k) = true
            · rw [hf]
              simp only [Bool.not_true, Bool.false_or]
              rw [Bool.eq_iff_iff, anyUpto_iff, decide_eq_true_eq, HK.out]
              have hnn := (formed_iff.1 hf).stamp_nn
              constructor
              · rintro ⟨j, hj, e⟩
                rw [decide_eq_true_eq] at e
                exact ⟨by omega, j, hj, e.2.symm⟩
              · rintro ⟨h0, j, hj, e⟩
                exact ⟨j, hj, decide_eq_true ⟨by omega, e.symm⟩⟩
            · have : formedB (tx hs k) = false := by simpa using hf
              rw [this]
              rfl)
          have HNN : Hid (formedB (tx hs k) = true → 0 ≤ (tx hs k).stamp) := Lib.hid (fun hf => (formed_iff.1 hf).stamp_nn)
          obtain ⟨x, hx⟩ : ∃ x, x = tx hs k := ⟨_, rfl⟩
          rw [← hx] at c0 c1 c2 c3 c4 c5 hrd hfm HBk HNN hrm hwm
          have hxw := hrd.stamp
          have HFm := Lib.hid (formed_any (w := wr.alloc (.cells (accCells x (.slice Ar x.reads.length cr) (.slice Aw x.writes.length cw)) 29)) (hfm.below ((Below.refl _ _).alloc (Nat.le_refl _) _)))
          have HXk := Lib.hid hx
          unfold accV accCells at HFm
          clear hx ha hrd hfm HX
          go_wp2_with fail
          refine HFm.out.mono ?_
          obtain ⟨fb, hfb⟩ : ∃ fb, fb = formedB x := ⟨_, rfl⟩
          rw [← hfb] at HBk HNN ⊢
          have HFB := Lib.hid hfb
          rintro e w3 ⟨rfl, hb3⟩
          have HB3 := Lib.hid hb3
          obtain ⟨hc, hf⟩ := bcell hb3
          have hz : wr.heap.size + 1 ≤ w3.heap.size := by have := hb3.size; simpa using this
          have hS3 : SetAt Try.prog 3 4 w3 wo.heap.size ks := HS.out.kept ((hb3.block _ (by simp; omega)).trans (Below.heap_alloc _ _ _ hslt))
          have hlook := hS3.look Try.underlying3 Try.underlying4 Try.underlying58 (zeroB w3) hxw
          have HS3 := Lib.hid hS3
          have HBB := Lib.hid ((HB.out.alloc hsz1 (.cells (accCells x (.slice Ar x.reads.length cr) (.slice Aw x.writes.length cw)) 29)).trans (hb3.mono (by simp; omega)))
          clear hb3 hS3 hfb
          cases fb
          · have HR := Lib.hid (checkL_bad HL.out HBig.out hlk HBk.out)
            go_wp2_with fail
            go_ret
            exact ⟨ret_int HR.out.symm, HBB.out⟩
          · by_cases hin : x.stamp ∈ ks
            · have HR := Lib.hid (checkL_bad HL.out HBig.out hlk (by rw [HBk.out, decide_eq_true hin]; rfl))
              rw [decide_eq_true hin] at hlook
              go_wp2_with fail
              go_ret
              exact ⟨ret_int HR.out.symm, HBB.out⟩
            · rw [decide_eq_false hin] at hlook
              have HIn := Lib.hid hin
              have HN' := Lib.hid (show ∀ j, j < k + 1 → badB hs j = false from fun j hj => by
                by_cases e : j = k
                · subst e; rw [HBk.out, decide_eq_false HIn.out]; rfl
                · exact HN.out j (by omega))
              clear hin
              by_cases h0 : 0 < x.stamp
              · have HKn := Lib.hid (show ∀ s, s ∈ ks ++ [x.stamp] ↔ 0 < s ∧ ∃ j, j < k + 1 ∧ (tx hs j).stamp = s from fun s => by
                  rw [List.mem_append, HK.out]
                  constructor
                  · rintro (⟨h1, j, h2, h3⟩ | h1)
                    · exact ⟨h1, j, by omega, h3⟩
                    · simp at h1; rw [h1]; exact ⟨h0, k, by omega, by rw [← HXk.out]⟩
                  · rintro ⟨h1, j, h2, h3⟩
                    by_cases e : j = k
                    · subst e; right; simp; rw [HXk.out]; exact h3.symm
                    · exact .inl ⟨h1, j, by omega, h3⟩)
                go_wp2_with (refine wpList_set_put rfl (.tmp 50) (.tmp 52) (.const (.bool true)) 58 rfl Try.underlying3 Try.underlying4 Try.underlying58 x.stamp rfl rfl rfl HS3.out (by simp only [maxLen]; omega) hxw HIn.out ?_; intro w4 hs4 ht4; have HS4 := Lib.hid hs4; have HT4 := Lib.hid ht4; clear hs4 ht4)
                go_roundw
                case rel => exact ⟨k + 1, ks ++ [x.stamp], by go_num, by omega, HBB.out.trans (((Only.refl w3 _).turned HT4.out (.inl rfl) : Only w3 w4 (fun c => c = wo.heap.size)).below (fun c hc => by rw [hc]; exact hsz) HBB.out.size), HS4.out, by simp; omega, HKn, HN'⟩
                case measure => simp [intOf]; omega
              · have hnn := HNN.out rfl
                have HKn := Lib.hid (show ∀ s, s ∈ ks ↔ 0 < s ∧ ∃ j, j < k + 1 ∧ (tx hs j).stamp = s from fun s => by
                  rw [HK.out]
                  constructor
                  · rintro ⟨h1, j, h2, h3⟩
                    exact ⟨h1, j, by omega, h3⟩
                  · rintro ⟨h1, j, h2, h3⟩
                    by_cases e : j = k
                    · subst e; rw [← HXk.out] at h3; omega
                    · exact ⟨h1, j, by omega, h3⟩)
                go_wp2_with fail
                go_roundw
                case rel => exact ⟨k + 1, ks, by go_num, by omega, HBB.out, HS3.out, by omega, HKn, HN'⟩
                case measure => simp [intOf]; omega
        · obtain rfl : k = hs.length := by omega
          have HBad := Lib.hid (show anyUpto hs.length (badB hs) = false by rw [anyUpto_not]; exact HN.out)
          clear HN HK HS
          go_wp2_with fail
          go_loopw [56] (fun i wr => ∃ k : Nat, i = .int .i64 k ∧ k ≤ hs.length ∧ Below w.heap.size w wr ∧ Hid (∀ i j, i < k → j < i → clashB hs i j = false)) (fun i _ => hs.length - (intOf i).toNat)
          case atStart => exact ⟨0, rfl, by omega, HB.out, Lib.hid (fun i j hi => by omega)⟩
          case round =>
            obtain ⟨k, rfl, hk, hB, HCl⟩ := hrel
            have HB := Lib.hid hB
            have hsz1 := hB.size
            clear hB
            by_cases hlk : k < hs.length
            · obtain ⟨b, o, vr, vw, rfl, ha⟩ := HC.out k hlk
              obtain ⟨Ar, cr, rfl, hrm⟩ := ha.rd.r.shape
              obtain ⟨Aw, cw, rfl, hwm⟩ := ha.rd.w.shape
              obtain ⟨lt, hrd, c0, c1, c2, c3, c4, c5⟩ := ha.below HB.out
              have HCe := Lib.hid (clash_eq hs k)
              have HNd : Hid ((tx hs k).writes.Nodup ∧ (tx hs k).writes.length ≤ 1000000) := Lib.hid (by
                have h1 := anyUpto_not.1 HBad.out k hlk
                unfold badB at h1
                rw [Bool.or_eq_false_iff] at h1
                have h2 : formedB (tx hs k) = true := by simpa using h1.1
                refine ⟨nodup_of_rising (formed_iff.1 h2).writes, ?_⟩
                have h3 := HBig.out
                unfold bigB at h3
                rw [anyUpto_not] at h3
                have := h3 k hlk
                rw [decide_eq_false_iff_not] at this
                omega)
              obtain ⟨x, hx⟩ : ∃ x, x = tx hs k := ⟨_, rfl⟩
              rw [← hx] at c0 c1 c2 c3 c4 c5 hrd HCe HNd hrm hwm
              have HXk := Lib.hid hx
              have HRd := Lib.hid hrd
              obtain ⟨xo, hxo⟩ : ∃ xo, xo = Obj.cells (accCells x (.slice Ar x.reads.length cr) (.slice Aw x.writes.length cw)) 29 := ⟨_, rfl⟩
              have HOf := Lib.hid (of_any (w := wr.alloc xo) (hrd.w.alloc xo) HNd.out.1 HNd.out.2)
              have HBx := Lib.hid (HB.out.alloc hsz1 xo)
              have HXc := Lib.hid (Cells.made wr 29 (accCells x (.slice Ar x.reads.length cr) (.slice Aw x.writes.length cw)))
              rw [← hxo] at HXc
              have HXo := Lib.hid hxo
              rw [hxo] at HOf
              unfold accCells at HOf
              clear hx ha hrd hxo
              go_wp2_with fail
              refine HOf.out.mono ?_
              rintro e w3 ⟨sb, rfl, hsb, hs3, hb3⟩
              obtain ⟨wq, rfl⟩ : ∃ wq : World, wq = wr := ⟨_, rfl⟩
              have hz3 : wq.heap.size + 1 ≤ w3.heap.size := by have := hb3.size; simpa using this
              have HX3 : Hid (Cells w3 wq.heap.size 29 (accCells x (.slice Ar x.reads.length cr) (.slice Aw x.writes.length cw))) := Lib.hid (HXc.out.kept (by rw [HXo.out]; exact hb3.block _ (by simp)))
              have HS3 := Lib.hid hs3
              have HB3 : Hid (Below w.heap.size w w3) := Lib.hid (HBx.out.trans (by rw [HXo.out]; exact hb3.mono (by have := HB.out.size; simp; omega)))
              have hsb3 := hs3.lt
              have HC2 : Hid (∀ j, j < hs.length → ∃ vr vw, At w3 b (o + j * 6) (tx hs j) vr vw) := Lib.hid fun j hj => by
                obtain ⟨b', o', vr, vw, e, ha⟩ := HC.out j hj
                injection e with e
                injection e with e1 e2
                subst e1 e2
                exact ⟨vr, vw, ha.below HB3.out⟩
              have HRx : Hid (Reads w3 x (.slice Ar x.reads.length cr) (.slice Aw x.writes.length cw)) := Lib.hid (HRd.out.below ((((Below.refl _ _).alloc (Nat.le_refl _) _).trans (hb3.mono (by simp))) : Below wq.heap.size wq w3))
              clear hs3 hb3 HOf HBx HXc HXo HRd lt c0 c1 c2 c3 c4 c5
              go_wp2_with fail
              go_loopw [68] (fun i wr => ∃ m : Nat, i = .int .i64 m ∧ m ≤ k ∧ Below w3.heap.size w3 wr ∧ Hid (∀ j, j < m → clashB hs k j = false)) (fun i _ => k - (intOf i).toNat)
              case atStart => exact ⟨0, rfl, by omega, Below.refl _ _, Lib.hid (fun j hj => by omega)⟩
              case round =>
                obtain ⟨m, rfl, hmk, hBi, HNi⟩ := hrel
                have HBi := Lib.hid hBi
                have hszi := hBi.size
                clear hBi
                by_cases hmlt : m < k
                · obtain ⟨ur, uw, ha⟩ := HC2.out m (by omega)
                  obtain ⟨Br, dr, rfl, hyr⟩ := ha.rd.r.shape
                  obtain ⟨Bw, dw, rfl, hyw⟩ := ha.rd.w.shape
                  obtain ⟨lt, hrd, c0, c1, c2, c3, c4, c5⟩ := ha.below HBi.out
                  have HCm := Lib.hid (HCe.out m)
                  obtain ⟨y, hy⟩ : ∃ y, y = tx hs m := ⟨_, rfl⟩
                  rw [← hy] at c0 c1 c2 c3 c4 c5 hrd HCm hyr hyw
                  have HYm := Lib.hid hy
                  have HRy := Lib.hid hrd
                  have hx3 := HX3.out.kept (HBi.out.block wq.heap.size (by omega))
                  have d0 : wr.cell? ⟨wq.heap.size, 0, none⟩ = some (.int .i64 x.mode) := hx3.cell 0
                  have d1 : wr.cell? ⟨wq.heap.size, 1, none⟩ = some (.int .i64 x.snap) := hx3.cell 1
                  have d2 : wr.cell? ⟨wq.heap.size, 2, none⟩ = some (.bool x.done) := hx3.cell 2
                  have d3 : wr.cell? ⟨wq.heap.size, 3, none⟩ = some (.int .i64 x.stamp) := hx3.cell 3
                  have d4 : wr.cell? ⟨wq.heap.size, 4, none⟩ = some (.slice Ar x.reads.length cr) := hx3.cell 4
                  have d5 : wr.cell? ⟨wq.heap.size, 5, none⟩ = some (.slice Aw x.writes.length cw) := hx3.cell 5
                  have hqlt : wq.heap.size < wr.heap.size := by omega
                  clear hx3 ha hrd hy
                  go_wp2_with fail
                  have HN1 : Hid (clashB hs k m = false → ∀ j, j < m + 1 → clashB hs k j = false) := Lib.hid fun hcl j hj => by
                    by_cases e : j = m
                    · subst e; exact hcl
                    · exact HNi.out j (by omega)
                  obtain ⟨w4, hw4⟩ : ∃ w4, w4 = wr.alloc (.cells (accCells y (.slice Br y.reads.length dr) (.slice Bw y.writes.length dw)) 29) := ⟨_, rfl⟩
                  have hyc : Cells w4 wr.heap.size 29 (accCells y (.slice Br y.reads.length dr) (.slice Bw y.writes.length dw)) := by rw [hw4]; exact Cells.made wr 29 _
                  have hb4 : Below w3.heap.size w3 w4 := by rw [hw4]; exact HBi.out.alloc hszi _
                  have hrx4 : Reads w4 x (.slice Ar x.reads.length cr) (.slice Aw x.writes.length cw) := HRx.out.below hb4
                  have hry4 : Reads w4 y (.slice Br y.reads.length dr) (.slice Bw y.writes.length dw) := by rw [hw4]; exact HRy.out.below ((Below.refl _ _).alloc (Nat.le_refl _) _)
                  have hxc : Cells w4 wq.heap.size 29 (accCells x (.slice Ar x.reads.length cr) (.slice Aw x.writes.length cw)) := HX3.out.kept (hb4.block _ (by omega))
                  have hsz4 : wr.heap.size + 1 ≤ w4.heap.size := by rw [hw4]; simp
                  have HW4 := Lib.hid hw4
                  obtain ⟨bx, hbx⟩ : ∃ bx, bx = x.writer := ⟨_, rfl⟩
                  obtain ⟨by', hby⟩ : ∃ by', by' = y.writer := ⟨_, rfl⟩
                  obtain ⟨bc, hbc⟩ : ∃ bc, bc = decide (x.snap < y.stamp ∧ y.snap < x.stamp) := ⟨_, rfl⟩
                  obtain ⟨bm, hbm⟩ : ∃ bm, bm = meet x.writes y.writes := ⟨_, rfl⟩
                  rw [← hbx, ← hby, ← hbc, ← hbm] at HCm
                  have HX := Lib.hid hbx
                  have HY := Lib.hid hby
                  have HCc := Lib.hid hbc
                  have HM := Lib.hid hbm
                  have HYc := Lib.hid hyc
                  have HXc4 := Lib.hid hxc
                  have HB4 := Lib.hid hb4
                  have HRx4 := Lib.hid hrx4
                  have HRy4 := Lib.hid hry4
                  clear hbx hby hbc hbm hyc hxc hb4 hrx4 hry4 c0 c1 c2 c3 c4 c5 d0 d1 d2 d3 d4 d5
                  have HC5 := Lib.hid (writes_any HRx4.out)
                  rw [hw4] at HC5
                  unfold accCells accV at HC5
                  clear hw4
                  refine HC5.out.mono ?_
                  rw [← HX.out]
                  rintro e w5 ⟨rfl, hb5⟩
                  rw [show wr.alloc (.cells #[.int .i64 y.mode, .int .i64 y.snap, .bool y.done, .int .i64 y.stamp, .slice Br y.reads.length dr, .slice Bw y.writes.length dw] 29) = w4 from HW4.out.symm] at hb5
                  have HB5 := Lib.hid hb5
                  have hsz5 := hb5.size
                  clear hb5
                  cases bx
                  · go_wp2_with fail
                    go_roundw
                    case rel => exact ⟨m + 1, by go_num, by omega, HB4.out.trans (HB5.out.mono HB4.out.size), Lib.hid (HN1.out HCm.out)⟩
                    case measure => simp [intOf]; omega
                  have HYc5 := Lib.hid (HYc.out.kept (HB5.out.block _ (by omega)))
                  have HXc5 := Lib.hid (HXc4.out.kept (HB5.out.block _ (by omega)))
                  have HBB5 := Lib.hid (HB4.out.trans (HB5.out.mono HB4.out.size))
                  obtain ⟨e0, e1, e2, e3, e4, e5⟩ := HYc5.out.acc
                  go_wp2_with fail
                  refine (writes_any (HRy4.out.below HB5.out)).mono ?_
                  rw [← HY.out]
                  rintro e w6 ⟨rfl, hb6⟩
                  have HB6 := Lib.hid hb6
                  have hsz6 := hb6.size
                  have HBB6 := Lib.hid (HBB5.out.trans (hb6.mono HBB5.out.size))
                  clear hb6 e0 e1 e2 e3 e4 e5
                  cases by'
                  · go_wp2_with fail
                    go_roundw
                    case rel => exact ⟨m + 1, by go_num, by omega, HBB6.out, Lib.hid (HN1.out HCm.out)⟩
                    case measure => simp [intOf]; omega
                  have HYc6 := Lib.hid (HYc5.out.kept (HB6.out.block _ (by omega)))
                  have HXc6 := Lib.hid (HXc5.out.kept (HB6.out.block _ (by omega)))
                  obtain ⟨e0, e1, e2, e3, e4, e5⟩ := HYc6.out.acc
                  obtain ⟨d0, d1, d2, d3, d4, d5⟩ := HXc6.out.acc
                  go_wp2_with fail
                  refine (concurrent_any (x := x) (y := y)).mono ?_
                  rw [← HCc.out]
                  rintro e w7 ⟨rfl, hb7⟩
                  have HB7 := Lib.hid hb7
                  have hsz7 := hb7.size
                  have HBB7 := Lib.hid (HBB6.out.trans (hb7.mono HBB6.out.size))
                  clear hb7 e0 e1 e2 e3 e4 e5 d0 d1 d2 d3 d4 d5
                  cases bc
                  · go_wp2_with fail
                    go_roundw
                    case rel => exact ⟨m + 1, by go_num, by omega, HBB7.out, Lib.hid (HN1.out HCm.out)⟩
                    case measure => simp [intOf]; omega
                  have HYc7 := Lib.hid (HYc6.out.kept (HB7.out.block _ (by omega)))
                  obtain ⟨e0, e1, e2, e3, e4, e5⟩ := HYc7.out.acc
                  have HS7 := Lib.hid (HS3.out.kept (HBB7.out.block _ hsb3))
                  have HIw := Lib.hid ((HRy4.out.below HB5.out).w.below (HB6.out.trans (HB7.out.mono HB6.out.size)))
                  go_wp2_with fail
                  refine (meets_any HIw.out HS7.out).mono ?_
                  rw [← HM.out]
                  rintro e w8 ⟨rfl, hb8⟩
                  have HBB8 := Lib.hid (HBB7.out.trans (hb8.mono HBB7.out.size))
                  clear hb8
                  cases bm
                  · go_wp2_with fail
                    go_roundw
                    case rel => exact ⟨m + 1, by go_num, by omega, HBB8.out, Lib.hid (HN1.out HCm.out)⟩
                    case measure => simp [intOf]; omega
                  have HR := Lib.hid (checkL_clash HL.out HBig.out HBad.out hlk hmlt HCm.out)
                  go_wp2_with fail
                  go_ret
                  exact ⟨ret_int HR.out.symm, HB3.out.trans (HBB8.out.mono HB3.out.size)⟩
                · obtain rfl : m = k := by omega
                  have HCn := Lib.hid (show ∀ i j, i < m + 1 → j < i → clashB hs i j = false from fun i j hi hj => by
                    by_cases e : i = m
                    · subst e; exact HNi.out j hj
                    · exact HCl.out i j (by omega) hj)
                  go_wp2_with fail
                  go_roundw
                  case rel => exact ⟨m + 1, by go_num, by omega, HB3.out.trans (HBi.out.mono HB3.out.size), HCn⟩
                  case measure => simp [intOf]; omega
            · obtain rfl : k = hs.length := by omega
              have HR := Lib.hid (checkL_ok HL.out HBig.out HBad.out (fun i j hi hj => HCl.out i j hi hj))
              go_wp2_with fail
              go_ret
              exact ⟨ret_int HR.out.symm, HB.out⟩
end Go.Proofs.Ytlfpkikmofgjfaa
