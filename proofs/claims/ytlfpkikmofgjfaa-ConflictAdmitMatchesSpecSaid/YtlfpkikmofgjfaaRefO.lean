/- The reference's walk of Admit. -/
import Derived.Test.YtlfpkikmofgjfaaRefM
import Derived.Test.YtlfpkikmofgjfaaRefD
namespace Go.Proofs.Ytlfpkikmofgjfaa
open Go.RowKit

theorem adm_check {hs : List Acc} {i : Int} (h : checkL hs ≠ 0) : admitL hs i = (0, checkL hs) := by unfold admitL; rw [if_pos h]
theorem adm_arg {hs : List Acc} {i : Int} (hv : checkL hs = 0) (h : i < 0 ∨ (hs.length : Int) ≤ i ∨ (tx hs i.toNat).done = true) : admitL hs i = (0, 1) := by
  unfold admitL
  rw [if_neg (by simp [hv]), if_pos h]
theorem adm_limit {hs : List Acc} {q : Nat} (hv : checkL hs = 0) (hq : q < hs.length) (hd : (tx hs q).done = false) (h : 1073741824 < stampL hs q) : admitL hs q = (0, 2) := by
  unfold admitL
  rw [if_neg (by simp [hv]), if_neg (by rw [Int.toNat_natCast, hd]; simp; omega), Int.toNat_natCast, if_pos h]
theorem adm_write {hs : List Acc} {q : Nat} (hv : checkL hs = 0) (hq : q < hs.length) (hd : (tx hs q).done = false) (h : ¬ 1073741824 < stampL hs q) (hl : losesB hs q = true) : admitL hs q = (0, 271) := by
  unfold admitL
  rw [if_neg (by simp [hv]), if_neg (by rw [Int.toNat_natCast, hd]; simp; omega), Int.toNat_natCast, if_neg h, if_pos hl]
theorem loses_yes {hs : List Acc} {q k : Nat} (hk : k < hs.length) (h : loseB hs q k = true) : losesB hs q = true := anyUpto_iff.2 ⟨k, hk, h⟩
theorem loses_no {hs : List Acc} {q : Nat} (h : ∀ k, k < hs.length → loseB hs q k = false) : losesB hs q = false := anyUpto_not.2 h
theorem hurts_yes {hs : List Acc} {q a b c : Nat} (ha : a < hs.length) (hb : b < hs.length) (hc : c < hs.length) (h : structB hs a b c = true) (ht : a = q ∨ b = q ∨ c = q) : hurtsB hs q = true :=
  anyUpto_iff.2 ⟨a, ha, anyUpto_iff.2 ⟨b, hb, anyUpto_iff.2 ⟨c, hc, by rw [h, decide_eq_true ht]; rfl⟩⟩⟩
theorem hurts_no {hs : List Acc} {q : Nat} (h : ∀ a b c, a < hs.length → b < hs.length → c < hs.length → (a = q ∨ b = q ∨ c = q) → structB hs a b c = false) : hurtsB hs q = false :=
  anyUpto_not.2 fun a ha => anyUpto_not.2 fun b hb => anyUpto_not.2 fun c hc => by
    by_cases ht : a = q ∨ b = q ∨ c = q
    · rw [h a b c ha hb hc ht]; rfl
    · rw [decide_eq_false ht, Bool.and_false]
theorem last_le {hs : List Acc} (hv : Valid hs) : lastL hs ≤ 1073741824 := lastL_le (by omega) fun i hi => by
  have f := hv.at hi
  cases hw : (tx hs i).writer with
  | true => have := f.writer hw; have := f.snap; omega
  | false => have := f.other hw; have := f.snap; omega
/-- What the first loops leave: the stamp, and what it is. -/
theorem stampL_eq (hs : List Acc) (q : Nat) : stampL hs q = if 0 < (tx hs q).writes.length then lastL hs + 1 else 0 := by
  unfold stampL
  cases (tx hs q).writes <;> simp
set_option maxRecDepth 100000 in
set_option maxHeartbeats 4000000 in
/-- From the loop over the others on: what Admit answers. -/
theorem radmit_any {w : World} {v : Value} {hs : List Acc} (h : Hist w v hs) (i : Int) :
    Calls Try.prog 39 #[v, .int .i64 i] w fun e w' => e = .returned (.tuple #[.int .i64 (admitL hs i).1, .int .i64 (admitL hs i).2]) ∧ Below w.heap.size w w' := by
  obtain ⟨A, c, rfl, hm, hcap, hc⟩ := h.shape
  have HC := Lib.hid hc
  have HH := Lib.hid h
  have HCk := Lib.hid (rcheck_any h)
  clear h hc
  by_cases hv : checkL hs = 0
  case neg =>
    rw [adm_check hv]
    generalize checkL hs = cc at *
    have hcb : (cc != 0) = true := by simp [hv]
    clear hv
    go_enter Try.func39, Try.ntmps39
    go_wp2_with fail
    refine HCk.out.mono ?_
    rintro e w1 ⟨rfl, hb⟩
    have HB := Lib.hid hb
    clear hb
    go_wp2_with fail
    refine bodyPost_ret (v := .tuple #[.int .i64 0, .int .i64 cc]) (by simp [results, Try.results39, go_sem]) rfl ⟨rfl, HB.out⟩
  have HV := Lib.hid (checkL_zero.1 hv)
  have HV0 := Lib.hid hv
  have hlen := HV.out.len
  rw [hv] at HCk
  clear hv
  by_cases hi0 : i < 0
  · rw [adm_arg HV0.out (.inl hi0)]
    go_enter Try.func39, Try.ntmps39
    go_wp2_with fail
    refine HCk.out.mono ?_
    rintro e w1 ⟨rfl, hb⟩
    have HB := Lib.hid hb
    clear hb
    go_wp2_with fail
    refine bodyPost_ret (v := .tuple #[.int .i64 0, .int .i64 1]) (by simp [results, Try.results39, go_sem]) rfl ⟨rfl, HB.out⟩
  by_cases hil : i < hs.length
  case neg =>
    rw [adm_arg HV0.out (.inr (.inl (by omega)))]
    go_enter Try.func39, Try.ntmps39
    go_wp2_with fail
    refine HCk.out.mono ?_
    rintro e w1 ⟨rfl, hb⟩
    have HB := Lib.hid hb
    clear hb
    go_wp2_with fail
    refine bodyPost_ret (v := .tuple #[.int .i64 0, .int .i64 1]) (by simp [results, Try.results39, go_sem]) rfl ⟨rfl, HB.out⟩
  obtain ⟨q, rfl⟩ : ∃ q : Nat, i = q := ⟨i.toNat, by omega⟩
  have hq : q < hs.length := by omega
  have hq0 : decide ((q : Int) < 0) = false := decide_eq_false (by omega)
  have hql : decide (hs.length ≤ q) = false := decide_eq_false (by omega)
  obtain ⟨b, o, vr, vw, rfl, ha⟩ := HC.out q hq
  have HAt : Hid (∀ W, Below w.heap.size w W → At W b (o + q * 6) (tx hs q) vr vw) := Lib.hid fun W hW => ha.below hW
  obtain ⟨Aw, cw, rfl, hwm⟩ := ha.rd.w.shape
  have HRdw := Lib.hid ha.rd.w
  clear ha
  by_cases hd : (tx hs q).done = true
  · rw [adm_arg HV0.out (.inr (.inr (by rw [Int.toNat_natCast]; exact hd)))]
    go_enter Try.func39, Try.ntmps39
    go_wp2_with fail
    refine HCk.out.mono ?_
    rintro e w1 ⟨rfl, hb⟩
    have HB := Lib.hid hb
    clear hb
    have g2 := (HAt.out _ HB.out).c2
    rw [hd] at g2
    clear hd
    go_wp2_with fail
    refine bodyPost_ret (v := .tuple #[.int .i64 0, .int .i64 1]) (by simp [results, Try.results39, go_sem]) rfl ⟨rfl, HB.out⟩
  have hd' : (tx hs q).done = false := by simpa using hd
  have HDn := Lib.hid hd'
  have HSe := Lib.hid (stampL_eq hs q)
  have hll := last_le HV.out
  have hl0 := lastL_nn hs
  have HTop : Hid (∀ (st : Int) (W : World), st = stampL hs q → Below w.heap.size w W → True) := Lib.hid fun _ _ _ _ => trivial
  clear HTop hd hd'
  generalize hlw : (tx hs q).writes.length = lw at *
  have HLw := Lib.hid hlw
  clear hlw
  go_enter Try.func39, Try.ntmps39
  go_wp2_with fail
  refine HCk.out.mono ?_
  rintro e w1 ⟨rfl, hb⟩
  have HB1 := Lib.hid hb
  clear hb HCk
  have g2 := (HAt.out _ HB1.out).c2
  have g5 := (HAt.out _ HB1.out).c5
  rw [HDn.out] at g2
  by_cases hw0 : 0 < lw
  · rw [if_pos hw0] at HSe
    go_wp2_with fail
    refine (rlast_any (HH.out.below HB1.out)).mono ?_
    generalize lastL hs = L at *
    rintro e w2 ⟨rfl, n2, rfl⟩
    have HB2' : Hid (Below w.heap.size w (w1.drewN n2)) := Lib.hid (Below.drewN' HB1.out n2)
    obtain ⟨W2, hW2⟩ : ∃ W2, w1.drewN n2 = W2 := ⟨_, rfl⟩
    rw [hW2] at HB2' ⊢
    have HB2 := Lib.hid HB2'.out
    clear hW2 HB2' g2 g5 HB1
    have HSt := Lib.hid (show stampL hs q = L + 1 from HSe.out)
    by_cases hlim : 1073741824 < (L + 1 : Int)
    · have HRs := Lib.hid (adm_limit HV0.out hq HDn.out (by rw [HSt.out]; exact hlim))
      go_wp2_with fail
      refine bodyPost_ret (v := .tuple #[.int .i64 0, .int .i64 2]) (by simp [results, Try.results39, go_sem]) rfl ⟨by rw [HRs.out], HB2.out⟩
    go_wp2_with fail
    go_loopw [8] (fun i wr => ∃ k n : Nat, i = .int .i64 k ∧ k ≤ hs.length ∧ wr = W2.drewN n ∧ Hid (∀ j, j < k → loseB hs q j = false)) (fun i _ => hs.length - (intOf i).toNat)
    case atStart => exact ⟨0, 0, rfl, by omega, rfl, Lib.hid (fun j hj => by omega)⟩
    case round =>
      obtain ⟨k, n, rfl, hk, rfl, HNl⟩ := hrel
      by_cases hlk : k < hs.length
      · obtain ⟨b', o', ur, uw, e', hy⟩ := HC.out k hlk
        injection e' with e'
        injection e' with e1 e2
        subst e1 e2
        have hy2 := hy.below HB2.out
        have d2 := hy2.c2
        have d3 := hy2.c3
        have d5 := hy2.c5
        have a1 := (HAt.out _ HB2.out).c1
        have a5 := (HAt.out _ HB2.out).c5
        have HMt : Hid (∀ m, Calls Try.prog 60 #[.slice Aw lw cw, uw] (W2.drewN (n + m)) fun e w' => e = .returned (.bool (meet (tx hs q).writes (tx hs k).writes)) ∧ ∃ m', w' = W2.drewN (n + m')) := Lib.hid fun m => (meet_any ((HRdw.out.below HB2.out).drewN (n + m)) (hy2.rd.w.drewN (n + m))).mono fun e w' ⟨h, m', h'⟩ => ⟨h, m + m', by rw [h', World.drewN_drewN]; congr 1; omega⟩
        have HLo := Lib.hid (show loseB hs q k = ((tx hs k).done && meet (tx hs q).writes (tx hs k).writes && decide ((tx hs q).snap < (tx hs k).stamp)) from rfl)
        have HNx : Hid (loseB hs q k = false → ∀ j, j < k + 1 → loseB hs q j = false) := Lib.hid fun hf j hj => by
          by_cases e : j = k
          · subst e; exact hf
          · exact HNl.out j (by omega)
        have HYes := Lib.hid (fun h => adm_write HV0.out hq HDn.out (by rw [HSt.out]; omega) (loses_yes hlk h))
        clear hy hy2
        generalize (tx hs k).done = dk at *
        generalize (tx hs k).stamp = sk at *
        generalize (tx hs q).snap = sq at *
        generalize meet (tx hs q).writes (tx hs k).writes = bm at *
        cases dk
        · have HNn := Lib.hid (HNx.out (by rw [HLo.out]; rfl))
          clear HMt
          go_wp2_with fail
          go_quiet (fail)
          go_wp2_with fail
          go_quiet (fail)
          go_wp2_with fail
          go_roundw
          case rel => exact ⟨k + 1, _, by go_num, by omega, by first | rfl | (simp only [World.drewN_drewN]; rfl), HNn⟩
          case measure => simp [intOf]; omega
        cases bm
        · have HNn := Lib.hid (HNx.out (by rw [HLo.out]; rfl))
          go_wp2_with fail
          go_quiet ((go_at_call 60; exact HMt.out _))
          go_wp2_with fail
          go_quiet (fail)
          go_wp2_with fail
          go_roundw
          case rel => exact ⟨k + 1, _, by go_num, by omega, by first | rfl | (simp only [World.drewN_drewN]; rfl), HNn⟩
          case measure => simp [intOf]; omega
        by_cases hst : sq < sk
        · have HRs := Lib.hid (HYes.out (by rw [HLo.out, decide_eq_true hst]; rfl))
          have hdb : decide (sq < sk) = true := decide_eq_true hst
          go_wp2_with fail
          go_quiet ((go_at_call 60; exact HMt.out _))
          go_wp2_with fail
          go_quiet (fail)
          go_wp2_with fail
          refine bodyPost_ret (v := .tuple #[.int .i64 0, .int .i64 271]) (by simp [results, Try.results39, go_sem]) rfl ⟨by rw [HRs.out], by (try simp only [World.drewN_drewN]); exact Below.drewN' HB2.out _⟩
        · have HNn := Lib.hid (HNx.out (by rw [HLo.out, decide_eq_false hst]; rfl))
          have hdb : decide (sq < sk) = false := decide_eq_false hst
          go_wp2_with fail
          go_quiet ((go_at_call 60; exact HMt.out _))
          go_wp2_with fail
          go_quiet (fail)
          go_wp2_with fail
          go_roundw
          case rel => exact ⟨k + 1, _, by go_num, by omega, by first | rfl | (simp only [World.drewN_drewN]; rfl), HNn⟩
          case measure => simp [intOf]; omega
      · obtain rfl : k = hs.length := by omega
        have a0 := (HAt.out _ HB2.out).c0
        by_cases hmd : (tx hs q).mode = 1
        case neg =>
          have HRs := Lib.hid (show admitL hs q = (L + 1, 0) by
            rw [admit_last HV0.out hq HDn.out (by rw [HSt.out]; omega) (loses_no HNl.out), if_neg (fun h => hmd h.1), HSt.out])
          have hb : ((tx hs q).mode == 1) = false := by simp [hmd]
          clear hmd
          generalize (tx hs q).mode = md at *
          go_wp2_with fail
          refine bodyPost_ret (v := .tuple #[.int .i64 (L + 1), .int .i64 0]) (by simp [results, Try.results39, go_sem]) rfl ⟨by rw [HRs.out], Below.drewN' HB2.out n⟩
        have HMd := Lib.hid hmd
        rw [hmd] at a0
        clear hmd
        go_wp2_with fail
        refine (rwith_any ((HH.out.below HB2.out).drewN n) hlen q hq (L + 1) (wfI (by omega) (by omega))).mono ?_
        rintro e w3 ⟨gb, cap, fr, fw, rfl, hcl⟩
        have HC3 : Hid (Hist w3 (.slice (some ⟨gb, 0, none⟩) hs.length cap) (withL hs q (L + 1))) := Lib.hid (by have := hcl.hist; rwa [withL_length] at this)
        have HB3 := Lib.hid ((Below.drewN' HB2.out n).trans (hcl.below.mono (Below.drewN' HB2.out n).size))
        clear hcl a0
        go_wp2_with fail
        go_loopw [11] (fun i wr => ∃ a1 n : Nat, i = .int .i64 a1 ∧ a1 ≤ hs.length ∧ wr = w3.drewN n ∧ Hid (∀ a b c, a < a1 → b < hs.length → c < hs.length → (a = q ∨ b = q ∨ c = q) → structB (withL hs q (L + 1)) a b c = false)) (fun i _ => hs.length - (intOf i).toNat)
        case atStart => exact ⟨0, 0, rfl, by omega, rfl, Lib.hid (fun a b c ha => by omega)⟩
        case round =>
          obtain ⟨a1, n, rfl, ha1, rfl, HNa⟩ := hrel
          by_cases hal : a1 < hs.length
          · go_wp2_with fail
            go_loopw [12] (fun i wr => ∃ b1 n : Nat, i = .int .i64 b1 ∧ b1 ≤ hs.length ∧ wr = w3.drewN n ∧ Hid (∀ b c, b < b1 → c < hs.length → (a1 = q ∨ b = q ∨ c = q) → structB (withL hs q (L + 1)) a1 b c = false)) (fun i _ => hs.length - (intOf i).toNat)
            case atStart => exact ⟨0, n, rfl, by omega, rfl, Lib.hid (fun b c hb => by omega)⟩
            case round =>
              obtain ⟨b1, n, rfl, hb1, rfl, HNb⟩ := hrel
              by_cases hbl : b1 < hs.length
              · go_wp2_with fail
                go_loopw [13] (fun i wr => ∃ c1 n : Nat, i = .int .i64 c1 ∧ c1 ≤ hs.length ∧ wr = w3.drewN n ∧ Hid (∀ c, c < c1 → (a1 = q ∨ b1 = q ∨ c = q) → structB (withL hs q (L + 1)) a1 b1 c = false)) (fun i _ => hs.length - (intOf i).toNat)
                case atStart => exact ⟨0, n, rfl, by omega, rfl, Lib.hid (fun c hc => by omega)⟩
                case round =>
                  obtain ⟨c1, n, rfl, hc1, rfl, HNc⟩ := hrel
                  by_cases hcl' : c1 < hs.length
                  · by_cases haq : a1 = q
                    · have HTq : Hid (a1 = q ∨ b1 = q ∨ c1 = q) := Lib.hid (.inl haq)
                      have t1 : ((a1 : Int) != (q : Int)) = false := by simp [haq]
                      clear haq
                      go_wp2_with fail
                      refine (rstruct_any (HC3.out.drewN n) a1 b1 c1 (by rw [withL_length]; exact hal) (by rw [withL_length]; exact hbl) (by rw [withL_length]; exact hcl')).mono ?_
                      obtain ⟨sb, hsb⟩ : ∃ sb, sb = structB (withL hs q (L + 1)) a1 b1 c1 := ⟨_, rfl⟩
                      rw [← hsb]
                      have HSb := Lib.hid hsb
                      clear hsb
                      rintro e w4 ⟨rfl, n4, rfl⟩
                      cases sb
                      · have HNc1 : Hid (∀ c, c < c1 + 1 → (a1 = q ∨ b1 = q ∨ c = q) → structB (withL hs q (L + 1)) a1 b1 c = false) := Lib.hid fun c hc ht => by
                          by_cases e : c = c1
                          · subst e; exact HSb.out.symm
                          · exact HNc.out c (by omega) ht
                        go_wp2_with fail
                        go_roundw
                        case rel => exact ⟨c1 + 1, _, by go_num, by omega, rfl, HNc1⟩
                        case measure => simp [intOf]; omega
                      · have HRs := Lib.hid (show admitL hs q = (0, 272) by
                          rw [admit_last HV0.out hq HDn.out (by rw [HSt.out]; omega) (loses_no HNl.out), if_pos]
                          rw [HSt.out]
                          exact ⟨HMd.out, hurts_yes (by rw [withL_length]; exact hal) (by rw [withL_length]; exact hbl) (by rw [withL_length]; exact hcl') HSb.out.symm HTq.out⟩)
                        go_wp2_with fail
                        refine bodyPost_ret (v := .tuple #[.int .i64 0, .int .i64 272]) (by simp [results, Try.results39, go_sem]) rfl ⟨by rw [HRs.out], Below.drewN' HB3.out _⟩
                    · have t1 : ((a1 : Int) != (q : Int)) = true := by simp; omega
                      by_cases hbq : b1 = q
                      · have HTq : Hid (a1 = q ∨ b1 = q ∨ c1 = q) := Lib.hid (.inr (.inl hbq))
                        have t2 : ((b1 : Int) != (q : Int)) = false := by simp [hbq]
                        clear haq hbq
                        go_wp2_with fail
                        refine (rstruct_any (HC3.out.drewN n) a1 b1 c1 (by rw [withL_length]; exact hal) (by rw [withL_length]; exact hbl) (by rw [withL_length]; exact hcl')).mono ?_
                        obtain ⟨sb, hsb⟩ : ∃ sb, sb = structB (withL hs q (L + 1)) a1 b1 c1 := ⟨_, rfl⟩
                        rw [← hsb]
                        have HSb := Lib.hid hsb
                        clear hsb
                        rintro e w4 ⟨rfl, n4, rfl⟩
                        cases sb
                        · have HNc1 : Hid (∀ c, c < c1 + 1 → (a1 = q ∨ b1 = q ∨ c = q) → structB (withL hs q (L + 1)) a1 b1 c = false) := Lib.hid fun c hc ht => by
                            by_cases e : c = c1
                            · subst e; exact HSb.out.symm
                            · exact HNc.out c (by omega) ht
                          go_wp2_with fail
                          go_roundw
                          case rel => exact ⟨c1 + 1, _, by go_num, by omega, rfl, HNc1⟩
                          case measure => simp [intOf]; omega
                        · have HRs := Lib.hid (show admitL hs q = (0, 272) by
                            rw [admit_last HV0.out hq HDn.out (by rw [HSt.out]; omega) (loses_no HNl.out), if_pos]
                            rw [HSt.out]
                            exact ⟨HMd.out, hurts_yes (by rw [withL_length]; exact hal) (by rw [withL_length]; exact hbl) (by rw [withL_length]; exact hcl') HSb.out.symm HTq.out⟩)
                          go_wp2_with fail
                          refine bodyPost_ret (v := .tuple #[.int .i64 0, .int .i64 272]) (by simp [results, Try.results39, go_sem]) rfl ⟨by rw [HRs.out], Below.drewN' HB3.out _⟩
                      · have t2 : ((b1 : Int) != (q : Int)) = true := by simp; omega
                        by_cases hcq : c1 = q
                        · have HTq : Hid (a1 = q ∨ b1 = q ∨ c1 = q) := Lib.hid (.inr (.inr hcq))
                          have t3 : ((c1 : Int) != (q : Int)) = false := by simp [hcq]
                          clear haq hbq hcq
                          go_wp2_with fail
                          refine (rstruct_any (HC3.out.drewN n) a1 b1 c1 (by rw [withL_length]; exact hal) (by rw [withL_length]; exact hbl) (by rw [withL_length]; exact hcl')).mono ?_
                          obtain ⟨sb, hsb⟩ : ∃ sb, sb = structB (withL hs q (L + 1)) a1 b1 c1 := ⟨_, rfl⟩
                          rw [← hsb]
                          have HSb := Lib.hid hsb
                          clear hsb
                          rintro e w4 ⟨rfl, n4, rfl⟩
                          cases sb
                          · have HNc1 : Hid (∀ c, c < c1 + 1 → (a1 = q ∨ b1 = q ∨ c = q) → structB (withL hs q (L + 1)) a1 b1 c = false) := Lib.hid fun c hc ht => by
                              by_cases e : c = c1
                              · subst e; exact HSb.out.symm
                              · exact HNc.out c (by omega) ht
                            go_wp2_with fail
                            go_roundw
                            case rel => exact ⟨c1 + 1, _, by go_num, by omega, rfl, HNc1⟩
                            case measure => simp [intOf]; omega
                          · have HRs := Lib.hid (show admitL hs q = (0, 272) by
                              rw [admit_last HV0.out hq HDn.out (by rw [HSt.out]; omega) (loses_no HNl.out), if_pos]
                              rw [HSt.out]
                              exact ⟨HMd.out, hurts_yes (by rw [withL_length]; exact hal) (by rw [withL_length]; exact hbl) (by rw [withL_length]; exact hcl') HSb.out.symm HTq.out⟩)
                            go_wp2_with fail
                            refine bodyPost_ret (v := .tuple #[.int .i64 0, .int .i64 272]) (by simp [results, Try.results39, go_sem]) rfl ⟨by rw [HRs.out], Below.drewN' HB3.out _⟩
                        · have t3 : ((c1 : Int) != (q : Int)) = true := by simp; omega
                          have HNc1 : Hid (∀ c, c < c1 + 1 → (a1 = q ∨ b1 = q ∨ c = q) → structB (withL hs q (L + 1)) a1 b1 c = false) := Lib.hid fun c hc ht => by
                            by_cases e : c = c1
                            · subst e; rcases ht with h | h | h
                              · exact absurd h haq
                              · exact absurd h hbq
                              · exact absurd h hcq
                            · exact HNc.out c (by omega) ht
                          clear haq hbq hcq
                          go_wp2_with fail
                          go_roundw
                          case rel => exact ⟨c1 + 1, n, by go_num, by omega, rfl, HNc1⟩
                          case measure => simp [intOf]; omega
                  · have hce : c1 = hs.length := by omega
                    have HNb1 : Hid (∀ b c, b < b1 + 1 → c < hs.length → (a1 = q ∨ b = q ∨ c = q) → structB (withL hs q (L + 1)) a1 b c = false) := Lib.hid fun b c hb hc ht => by
                      by_cases e : b = b1
                      · subst e; exact HNc.out c (by omega) ht
                      · exact HNb.out b c (by omega) hc ht
                    clear hce
                    go_wp2_with fail
                    go_roundw
                    case rel => exact ⟨b1 + 1, n, by go_num, by omega, rfl, HNb1⟩
                    case measure => simp [intOf]; omega
              · have hbe : b1 = hs.length := by omega
                have HNa1 : Hid (∀ a b c, a < a1 + 1 → b < hs.length → c < hs.length → (a = q ∨ b = q ∨ c = q) → structB (withL hs q (L + 1)) a b c = false) := Lib.hid fun a b c ha hb hc ht => by
                  by_cases e : a = a1
                  · subst e; exact HNb.out b c (by omega) hc ht
                  · exact HNa.out a b c (by omega) hb hc ht
                clear hbe
                go_wp2_with fail
                go_roundw
                case rel => exact ⟨a1 + 1, n, by go_num, by omega, rfl, HNa1⟩
                case measure => simp [intOf]; omega
          · have hae : a1 = hs.length := by omega
            have HRs := Lib.hid (show admitL hs q = (L + 1, 0) by
              rw [admit_last HV0.out hq HDn.out (by rw [HSt.out]; omega) (loses_no HNl.out), if_neg, HSt.out]
              rw [HSt.out]
              rintro ⟨_, h⟩
              rw [hurts_no (fun a b c ha hb hc ht => HNa.out a b c (by rw [withL_length] at ha; omega) (by rw [withL_length] at hb; exact hb) (by rw [withL_length] at hc; exact hc) ht)] at h
              cases h)
            clear hae
            go_wp2_with fail
            refine bodyPost_ret (v := .tuple #[.int .i64 (L + 1), .int .i64 0]) (by simp [results, Try.results39, go_sem]) rfl ⟨by rw [HRs.out], Below.drewN' HB3.out n⟩
  · rw [if_neg hw0] at HSe
    have hwb : decide (0 < lw) = false := decide_eq_false hw0
    clear hw0
    obtain ⟨W2, hW2⟩ : ∃ W2 : World, W2 = w1 := ⟨_, rfl⟩
    have HB2 : Hid (Below w.heap.size w W2) := Lib.hid (by rw [hW2]; exact HB1.out)
    go_wp2_with fail
    rw [← hW2]
    clear hW2 HB1 g2 g5 hwb
    have HSt := Lib.hid (show stampL hs q = 0 from HSe.out)
    go_wp2_with fail
    go_loopw [8] (fun i wr => ∃ k n : Nat, i = .int .i64 k ∧ k ≤ hs.length ∧ wr = W2.drewN n ∧ Hid (∀ j, j < k → loseB hs q j = false)) (fun i _ => hs.length - (intOf i).toNat)
    case atStart => exact ⟨0, 0, rfl, by omega, rfl, Lib.hid (fun j hj => by omega)⟩
    case round =>
      obtain ⟨k, n, rfl, hk, rfl, HNl⟩ := hrel
      by_cases hlk : k < hs.length
      · obtain ⟨b', o', ur, uw, e', hy⟩ := HC.out k hlk
        injection e' with e'
        injection e' with e1 e2
        subst e1 e2
        have hy2 := hy.below HB2.out
        have d2 := hy2.c2
        have d3 := hy2.c3
        have d5 := hy2.c5
        have a1 := (HAt.out _ HB2.out).c1
        have a5 := (HAt.out _ HB2.out).c5
        have HMt : Hid (∀ m, Calls Try.prog 60 #[.slice Aw lw cw, uw] (W2.drewN (n + m)) fun e w' => e = .returned (.bool (meet (tx hs q).writes (tx hs k).writes)) ∧ ∃ m', w' = W2.drewN (n + m')) := Lib.hid fun m => (meet_any ((HRdw.out.below HB2.out).drewN (n + m)) (hy2.rd.w.drewN (n + m))).mono fun e w' ⟨h, m', h'⟩ => ⟨h, m + m', by rw [h', World.drewN_drewN]; congr 1; omega⟩
        have HLo := Lib.hid (show loseB hs q k = ((tx hs k).done && meet (tx hs q).writes (tx hs k).writes && decide ((tx hs q).snap < (tx hs k).stamp)) from rfl)
        have HNx : Hid (loseB hs q k = false → ∀ j, j < k + 1 → loseB hs q j = false) := Lib.hid fun hf j hj => by
          by_cases e : j = k
          · subst e; exact hf
          · exact HNl.out j (by omega)
        have HYes := Lib.hid (fun h => adm_write HV0.out hq HDn.out (by rw [HSt.out]; omega) (loses_yes hlk h))
        clear hy hy2
        generalize (tx hs k).done = dk at *
        generalize (tx hs k).stamp = sk at *
        generalize (tx hs q).snap = sq at *
        generalize meet (tx hs q).writes (tx hs k).writes = bm at *
        cases dk
        · have HNn := Lib.hid (HNx.out (by rw [HLo.out]; rfl))
          clear HMt
          go_wp2_with fail
          go_quiet (fail)
          go_wp2_with fail
          go_quiet (fail)
          go_wp2_with fail
          go_roundw
          case rel => exact ⟨k + 1, _, by go_num, by omega, by first | rfl | (simp only [World.drewN_drewN]; rfl), HNn⟩
          case measure => simp [intOf]; omega
        cases bm
        · have HNn := Lib.hid (HNx.out (by rw [HLo.out]; rfl))
          go_wp2_with fail
          go_quiet ((go_at_call 60; exact HMt.out _))
          go_wp2_with fail
          go_quiet (fail)
          go_wp2_with fail
          go_roundw
          case rel => exact ⟨k + 1, _, by go_num, by omega, by first | rfl | (simp only [World.drewN_drewN]; rfl), HNn⟩
          case measure => simp [intOf]; omega
        by_cases hst : sq < sk
        · have HRs := Lib.hid (HYes.out (by rw [HLo.out, decide_eq_true hst]; rfl))
          have hdb : decide (sq < sk) = true := decide_eq_true hst
          go_wp2_with fail
          go_quiet ((go_at_call 60; exact HMt.out _))
          go_wp2_with fail
          go_quiet (fail)
          go_wp2_with fail
          refine bodyPost_ret (v := .tuple #[.int .i64 0, .int .i64 271]) (by simp [results, Try.results39, go_sem]) rfl ⟨by rw [HRs.out], by (try simp only [World.drewN_drewN]); exact Below.drewN' HB2.out _⟩
        · have HNn := Lib.hid (HNx.out (by rw [HLo.out, decide_eq_false hst]; rfl))
          have hdb : decide (sq < sk) = false := decide_eq_false hst
          go_wp2_with fail
          go_quiet ((go_at_call 60; exact HMt.out _))
          go_wp2_with fail
          go_quiet (fail)
          go_wp2_with fail
          go_roundw
          case rel => exact ⟨k + 1, _, by go_num, by omega, by first | rfl | (simp only [World.drewN_drewN]; rfl), HNn⟩
          case measure => simp [intOf]; omega
      · obtain rfl : k = hs.length := by omega
        have a0 := (HAt.out _ HB2.out).c0
        by_cases hmd : (tx hs q).mode = 1
        case neg =>
          have HRs := Lib.hid (show admitL hs q = (0, 0) by
            rw [admit_last HV0.out hq HDn.out (by rw [HSt.out]; omega) (loses_no HNl.out), if_neg (fun h => hmd h.1), HSt.out])
          have hb : ((tx hs q).mode == 1) = false := by simp [hmd]
          clear hmd
          generalize (tx hs q).mode = md at *
          go_wp2_with fail
          refine bodyPost_ret (v := .tuple #[.int .i64 (0), .int .i64 0]) (by simp [results, Try.results39, go_sem]) rfl ⟨by rw [HRs.out], Below.drewN' HB2.out n⟩
        have HMd := Lib.hid hmd
        rw [hmd] at a0
        clear hmd
        go_wp2_with fail
        refine (rwith_any ((HH.out.below HB2.out).drewN n) hlen q hq (0) (wfI (by omega) (by omega))).mono ?_
        rintro e w3 ⟨gb, cap, fr, fw, rfl, hcl⟩
        have HC3 : Hid (Hist w3 (.slice (some ⟨gb, 0, none⟩) hs.length cap) (withL hs q (0))) := Lib.hid (by have := hcl.hist; rwa [withL_length] at this)
        have HB3 := Lib.hid ((Below.drewN' HB2.out n).trans (hcl.below.mono (Below.drewN' HB2.out n).size))
        clear hcl a0
        go_wp2_with fail
        go_loopw [11] (fun i wr => ∃ a1 n : Nat, i = .int .i64 a1 ∧ a1 ≤ hs.length ∧ wr = w3.drewN n ∧ Hid (∀ a b c, a < a1 → b < hs.length → c < hs.length → (a = q ∨ b = q ∨ c = q) → structB (withL hs q (0)) a b c = false)) (fun i _ => hs.length - (intOf i).toNat)
        case atStart => exact ⟨0, 0, rfl, by omega, rfl, Lib.hid (fun a b c ha => by omega)⟩
        case round =>
          obtain ⟨a1, n, rfl, ha1, rfl, HNa⟩ := hrel
          by_cases hal : a1 < hs.length
          · go_wp2_with fail
            go_loopw [12] (fun i wr => ∃ b1 n : Nat, i = .int .i64 b1 ∧ b1 ≤ hs.length ∧ wr = w3.drewN n ∧ Hid (∀ b c, b < b1 → c < hs.length → (a1 = q ∨ b = q ∨ c = q) → structB (withL hs q (0)) a1 b c = false)) (fun i _ => hs.length - (intOf i).toNat)
            case atStart => exact ⟨0, n, rfl, by omega, rfl, Lib.hid (fun b c hb => by omega)⟩
            case round =>
              obtain ⟨b1, n, rfl, hb1, rfl, HNb⟩ := hrel
              by_cases hbl : b1 < hs.length
              · go_wp2_with fail
                go_loopw [13] (fun i wr => ∃ c1 n : Nat, i = .int .i64 c1 ∧ c1 ≤ hs.length ∧ wr = w3.drewN n ∧ Hid (∀ c, c < c1 → (a1 = q ∨ b1 = q ∨ c = q) → structB (withL hs q (0)) a1 b1 c = false)) (fun i _ => hs.length - (intOf i).toNat)
                case atStart => exact ⟨0, n, rfl, by omega, rfl, Lib.hid (fun c hc => by omega)⟩
                case round =>
                  obtain ⟨c1, n, rfl, hc1, rfl, HNc⟩ := hrel
                  by_cases hcl' : c1 < hs.length
                  · by_cases haq : a1 = q
                    · have HTq : Hid (a1 = q ∨ b1 = q ∨ c1 = q) := Lib.hid (.inl haq)
                      have t1 : ((a1 : Int) != (q : Int)) = false := by simp [haq]
                      clear haq
                      go_wp2_with fail
                      refine (rstruct_any (HC3.out.drewN n) a1 b1 c1 (by rw [withL_length]; exact hal) (by rw [withL_length]; exact hbl) (by rw [withL_length]; exact hcl')).mono ?_
                      obtain ⟨sb, hsb⟩ : ∃ sb, sb = structB (withL hs q (0)) a1 b1 c1 := ⟨_, rfl⟩
                      rw [← hsb]
                      have HSb := Lib.hid hsb
                      clear hsb
                      rintro e w4 ⟨rfl, n4, rfl⟩
                      cases sb
                      · have HNc1 : Hid (∀ c, c < c1 + 1 → (a1 = q ∨ b1 = q ∨ c = q) → structB (withL hs q (0)) a1 b1 c = false) := Lib.hid fun c hc ht => by
                          by_cases e : c = c1
                          · subst e; exact HSb.out.symm
                          · exact HNc.out c (by omega) ht
                        go_wp2_with fail
                        go_roundw
                        case rel => exact ⟨c1 + 1, _, by go_num, by omega, rfl, HNc1⟩
                        case measure => simp [intOf]; omega
                      · have HRs := Lib.hid (show admitL hs q = (0, 272) by
                          rw [admit_last HV0.out hq HDn.out (by rw [HSt.out]; omega) (loses_no HNl.out), if_pos]
                          rw [HSt.out]
                          exact ⟨HMd.out, hurts_yes (by rw [withL_length]; exact hal) (by rw [withL_length]; exact hbl) (by rw [withL_length]; exact hcl') HSb.out.symm HTq.out⟩)
                        go_wp2_with fail
                        refine bodyPost_ret (v := .tuple #[.int .i64 0, .int .i64 272]) (by simp [results, Try.results39, go_sem]) rfl ⟨by rw [HRs.out], Below.drewN' HB3.out _⟩
                    · have t1 : ((a1 : Int) != (q : Int)) = true := by simp; omega
                      by_cases hbq : b1 = q
                      · have HTq : Hid (a1 = q ∨ b1 = q ∨ c1 = q) := Lib.hid (.inr (.inl hbq))
                        have t2 : ((b1 : Int) != (q : Int)) = false := by simp [hbq]
                        clear haq hbq
                        go_wp2_with fail
                        refine (rstruct_any (HC3.out.drewN n) a1 b1 c1 (by rw [withL_length]; exact hal) (by rw [withL_length]; exact hbl) (by rw [withL_length]; exact hcl')).mono ?_
                        obtain ⟨sb, hsb⟩ : ∃ sb, sb = structB (withL hs q (0)) a1 b1 c1 := ⟨_, rfl⟩
                        rw [← hsb]
                        have HSb := Lib.hid hsb
                        clear hsb
                        rintro e w4 ⟨rfl, n4, rfl⟩
                        cases sb
                        · have HNc1 : Hid (∀ c, c < c1 + 1 → (a1 = q ∨ b1 = q ∨ c = q) → structB (withL hs q (0)) a1 b1 c = false) := Lib.hid fun c hc ht => by
                            by_cases e : c = c1
                            · subst e; exact HSb.out.symm
                            · exact HNc.out c (by omega) ht
                          go_wp2_with fail
                          go_roundw
                          case rel => exact ⟨c1 + 1, _, by go_num, by omega, rfl, HNc1⟩
                          case measure => simp [intOf]; omega
                        · have HRs := Lib.hid (show admitL hs q = (0, 272) by
                            rw [admit_last HV0.out hq HDn.out (by rw [HSt.out]; omega) (loses_no HNl.out), if_pos]
                            rw [HSt.out]
                            exact ⟨HMd.out, hurts_yes (by rw [withL_length]; exact hal) (by rw [withL_length]; exact hbl) (by rw [withL_length]; exact hcl') HSb.out.symm HTq.out⟩)
                          go_wp2_with fail
                          refine bodyPost_ret (v := .tuple #[.int .i64 0, .int .i64 272]) (by simp [results, Try.results39, go_sem]) rfl ⟨by rw [HRs.out], Below.drewN' HB3.out _⟩
                      · have t2 : ((b1 : Int) != (q : Int)) = true := by simp; omega
                        by_cases hcq : c1 = q
                        · have HTq : Hid (a1 = q ∨ b1 = q ∨ c1 = q) := Lib.hid (.inr (.inr hcq))
                          have t3 : ((c1 : Int) != (q : Int)) = false := by simp [hcq]
                          clear haq hbq hcq
                          go_wp2_with fail
                          refine (rstruct_any (HC3.out.drewN n) a1 b1 c1 (by rw [withL_length]; exact hal) (by rw [withL_length]; exact hbl) (by rw [withL_length]; exact hcl')).mono ?_
                          obtain ⟨sb, hsb⟩ : ∃ sb, sb = structB (withL hs q (0)) a1 b1 c1 := ⟨_, rfl⟩
                          rw [← hsb]
                          have HSb := Lib.hid hsb
                          clear hsb
                          rintro e w4 ⟨rfl, n4, rfl⟩
                          cases sb
                          · have HNc1 : Hid (∀ c, c < c1 + 1 → (a1 = q ∨ b1 = q ∨ c = q) → structB (withL hs q (0)) a1 b1 c = false) := Lib.hid fun c hc ht => by
                              by_cases e : c = c1
                              · subst e; exact HSb.out.symm
                              · exact HNc.out c (by omega) ht
                            go_wp2_with fail
                            go_roundw
                            case rel => exact ⟨c1 + 1, _, by go_num, by omega, rfl, HNc1⟩
                            case measure => simp [intOf]; omega
                          · have HRs := Lib.hid (show admitL hs q = (0, 272) by
                              rw [admit_last HV0.out hq HDn.out (by rw [HSt.out]; omega) (loses_no HNl.out), if_pos]
                              rw [HSt.out]
                              exact ⟨HMd.out, hurts_yes (by rw [withL_length]; exact hal) (by rw [withL_length]; exact hbl) (by rw [withL_length]; exact hcl') HSb.out.symm HTq.out⟩)
                            go_wp2_with fail
                            refine bodyPost_ret (v := .tuple #[.int .i64 0, .int .i64 272]) (by simp [results, Try.results39, go_sem]) rfl ⟨by rw [HRs.out], Below.drewN' HB3.out _⟩
                        · have t3 : ((c1 : Int) != (q : Int)) = true := by simp; omega
                          have HNc1 : Hid (∀ c, c < c1 + 1 → (a1 = q ∨ b1 = q ∨ c = q) → structB (withL hs q (0)) a1 b1 c = false) := Lib.hid fun c hc ht => by
                            by_cases e : c = c1
                            · subst e; rcases ht with h | h | h
                              · exact absurd h haq
                              · exact absurd h hbq
                              · exact absurd h hcq
                            · exact HNc.out c (by omega) ht
                          clear haq hbq hcq
                          go_wp2_with fail
                          go_roundw
                          case rel => exact ⟨c1 + 1, n, by go_num, by omega, rfl, HNc1⟩
                          case measure => simp [intOf]; omega
                  · have hce : c1 = hs.length := by omega
                    have HNb1 : Hid (∀ b c, b < b1 + 1 → c < hs.length → (a1 = q ∨ b = q ∨ c = q) → structB (withL hs q (0)) a1 b c = false) := Lib.hid fun b c hb hc ht => by
                      by_cases e : b = b1
                      · subst e; exact HNc.out c (by omega) ht
                      · exact HNb.out b c (by omega) hc ht
                    clear hce
                    go_wp2_with fail
                    go_roundw
                    case rel => exact ⟨b1 + 1, n, by go_num, by omega, rfl, HNb1⟩
                    case measure => simp [intOf]; omega
              · have hbe : b1 = hs.length := by omega
                have HNa1 : Hid (∀ a b c, a < a1 + 1 → b < hs.length → c < hs.length → (a = q ∨ b = q ∨ c = q) → structB (withL hs q (0)) a b c = false) := Lib.hid fun a b c ha hb hc ht => by
                  by_cases e : a = a1
                  · subst e; exact HNb.out b c (by omega) hc ht
                  · exact HNa.out a b c (by omega) hb hc ht
                clear hbe
                go_wp2_with fail
                go_roundw
                case rel => exact ⟨a1 + 1, n, by go_num, by omega, rfl, HNa1⟩
                case measure => simp [intOf]; omega
          · have hae : a1 = hs.length := by omega
            have HRs := Lib.hid (show admitL hs q = (0, 0) by
              rw [admit_last HV0.out hq HDn.out (by rw [HSt.out]; omega) (loses_no HNl.out), if_neg, HSt.out]
              rw [HSt.out]
              rintro ⟨_, h⟩
              rw [hurts_no (fun a b c ha hb hc ht => HNa.out a b c (by rw [withL_length] at ha; omega) (by rw [withL_length] at hb; exact hb) (by rw [withL_length] at hc; exact hc) ht)] at h
              cases h)
            clear hae
            go_wp2_with fail
            refine bodyPost_ret (v := .tuple #[.int .i64 (0), .int .i64 0]) (by simp [results, Try.results39, go_sem]) rfl ⟨by rw [HRs.out], Below.drewN' HB3.out n⟩
end Go.Proofs.Ytlfpkikmofgjfaa
