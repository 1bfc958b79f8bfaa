/- The reference's walk of Safe. -/
import Derived.Test.YtlfpkikmofgjfaaRefA
import Derived.Test.YtlfpkikmofgjfaaWalkE
import Derived.Test.YtlfpkikmofgjfaaAdmit
namespace Go.Proofs.Ytlfpkikmofgjfaa
open Go.RowKit

def ropenB (h : List Acc) (s : Int) (i : Nat) : Bool := !(tx h i).done && decide ((tx h i).mode ≠ 2 ∧ (tx h i).snap < s)
def rriskB (h : List Acc) (s : Int) (i j : Nat) : Bool := antiB h i j && decide (s < (tx h i).stamp ∧ (tx h j).stamp ≤ s)
theorem rsafeL_open {h : List Acc} {s : Int} {i : Nat} (hi : i < h.length) (hp : ropenB h s i = true) : safeL h s = false := by
  unfold safeL
  rw [show (anyUpto h.length fun i => !(tx h i).done && decide ((tx h i).mode ≠ 2 ∧ (tx h i).snap < s)) = true from anyUpto_iff.2 ⟨i, hi, hp⟩]
  simp
theorem rsafeL_risk {h : List Acc} {s : Int} {i j : Nat} (hi : i < h.length) (hj : j < h.length) (hp : rriskB h s i j = true) : safeL h s = false := by
  unfold safeL
  rw [show (anyUpto h.length fun i => anyUpto h.length fun j => antiB h i j && decide (s < (tx h i).stamp ∧ (tx h j).stamp ≤ s)) = true from anyUpto_iff.2 ⟨i, hi, anyUpto_iff.2 ⟨j, hj, hp⟩⟩]
  simp
theorem rsafeL_bad {h : List Acc} {s : Int} (hp : ¬ (checkL h = 0 ∧ 0 ≤ s ∧ s ≤ 1073741824)) : safeL h s = false := by
  unfold safeL
  rw [decide_eq_false hp]
  rfl
theorem rsafeL_yes {h : List Acc} {s : Int} (hp : checkL h = 0 ∧ 0 ≤ s ∧ s ≤ 1073741824) (h1 : ∀ i, i < h.length → ropenB h s i = false) (h2 : ∀ i j, i < h.length → j < h.length → rriskB h s i j = false) : safeL h s = true := by
  unfold safeL
  rw [decide_eq_true hp, show (anyUpto h.length fun i => !(tx h i).done && decide ((tx h i).mode ≠ 2 ∧ (tx h i).snap < s)) = false from anyUpto_not.2 h1, show (anyUpto h.length fun i => anyUpto h.length fun j => antiB h i j && decide (s < (tx h i).stamp ∧ (tx h j).stamp ≤ s)) = false from anyUpto_not.2 fun i hi => anyUpto_not.2 fun j hj => h2 i j hi hj]
  rfl
theorem rno_writer_stamp {h : List Acc} (hv : Valid h) {i : Nat} (hi : i < h.length) (hw : (tx h i).writer = false) : (tx h i).stamp = 0 := by
  exact (hv.at hi).other hw
set_option maxRecDepth 100000 in
set_option maxHeartbeats 2000000 in
theorem rsafe_any {w : World} {v : Value} {hs : List Acc} (h : Hist w v hs) (s : Int) :
    Calls Try.prog 40 #[v, .int .i64 s] w fun e w' => e = .returned (.bool (safeL hs s)) ∧ Below w.heap.size w w' := by
  obtain ⟨A, c, rfl, hm, hcap, hc⟩ := h.shape
  have HC := Lib.hid hc
  have HH := Lib.hid h
  have HCk := Lib.hid (rcheck_any h)
  clear h hc
  by_cases hv : checkL hs = 0
  case neg =>
    have HR := Lib.hid (rsafeL_bad (h := hs) (s := s) (fun h => hv h.1))
    generalize checkL hs = cc at *
    have hcb : (cc != 0) = true := by simp [hv]
    clear hv
    go_enter Try.func40, Try.ntmps40
    go_wp2_with fail
    refine HCk.out.mono ?_
    rintro e w1 ⟨rfl, hb⟩
    have HB := Lib.hid hb
    clear hb
    go_wp2_with fail
    go_ret
    exact ⟨ret_bool HR.out.symm, HB.out⟩
  have HV := Lib.hid (checkL_zero.1 hv)
  have HV0 := Lib.hid hv
  rw [hv] at HCk
  clear hv
  by_cases hs0 : s < 0
  · have HR := Lib.hid (rsafeL_bad (h := hs) (s := s) (fun h => by omega))
    go_enter Try.func40, Try.ntmps40
    go_wp2_with fail
    refine HCk.out.mono ?_
    rintro e w1 ⟨rfl, hb⟩
    have HB := Lib.hid hb
    clear hb
    go_wp2_with fail
    go_ret
    exact ⟨ret_bool HR.out.symm, HB.out⟩
  by_cases hs1 : 1073741824 < s
  · have HR := Lib.hid (rsafeL_bad (h := hs) (s := s) (fun h => by omega))
    go_enter Try.func40, Try.ntmps40
    go_wp2_with fail
    refine HCk.out.mono ?_
    rintro e w1 ⟨rfl, hb⟩
    have HB := Lib.hid hb
    clear hb
    go_wp2_with fail
    go_ret
    exact ⟨ret_bool HR.out.symm, HB.out⟩
  go_enter Try.func40, Try.ntmps40
  go_wp2_with fail
  refine HCk.out.mono ?_
  rintro e w1 ⟨rfl, hb⟩
  have HB1 := Lib.hid hb
  clear hb HCk
  go_wp2_with fail
  go_loopw [5] (fun i wr => ∃ k : Nat, i = .int .i64 k ∧ k ≤ hs.length ∧ Hid (Below w.heap.size w wr) ∧ Hid (∀ i, i < k → ropenB hs s i = false ∧ ∀ j, j < hs.length → rriskB hs s i j = false)) (fun i _ => hs.length - (intOf i).toNat)
  case atStart => exact ⟨0, rfl, by omega, HB1, Lib.hid (fun i hi => by omega)⟩
  case round =>
    obtain ⟨k, rfl, hk, HB, HN⟩ := hrel
    clear HB1
    by_cases hlk : k < hs.length
    · obtain ⟨b, o, vr, vw, rfl, ha⟩ := HC.out k hlk
      have HAt : Hid (∀ W, Below w.heap.size w W → At W b (o + k * 6) (tx hs k) vr vw) := Lib.hid fun W hW => ha.below hW
      have HAj : Hid (∀ W, Below w.heap.size w W → ∀ j, j < hs.length → W.cell? ⟨b, o + j * 6 + 3, none⟩ = some (.int .i64 (tx hs j).stamp)) := Lib.hid fun W hW j hj => by
        obtain ⟨b', o', vr', vw', e', hj'⟩ := HC.out j hj
        injection e' with e'
        injection e' with e1 e2
        subst e1 e2
        exact (hj'.below hW).c3
      have HOp := Lib.hid (show ropenB hs s k = (!(tx hs k).done && decide ((tx hs k).mode ≠ 2 ∧ (tx hs k).snap < s)) from rfl)
      have HNo := Lib.hid (fun h => rsafeL_open (s := s) hlk h)
      have HRk := Lib.hid (fun j => show rriskB hs s k j = (antiB hs k j && decide (s < (tx hs k).stamp ∧ (tx hs j).stamp ≤ s)) from rfl)
      have HNW := Lib.hid (fun h => rno_writer_stamp HV.out hlk h)
      have HWr : Hid (∀ W, Below w.heap.size w W → Calls Try.prog 76 #[accV (tx hs k) vr vw] W fun e w' => e = .returned (.bool (tx hs k).writer) ∧ Below W.heap.size W w') := Lib.hid fun W hW => writer_any (ha.rd.below hW)
      unfold accV at HWr
      clear ha
      have hat := HAt.out wr HB.out
      obtain ⟨_, _, c0, c1, c2, _, _, _⟩ := hat
      have hcase : ropenB hs s k = true ∨ ropenB hs s k = false := by cases ropenB hs s k <;> simp
      generalize tx hs k = x at *
      generalize hop : ropenB hs s k = op at *
      have hdm : (x.done = true ∧ op = false) ∨ (x.done = false ∧ x.mode = 2 ∧ op = false) ∨ (x.done = false ∧ x.mode ≠ 2 ∧ x.snap < s ∧ op = true) ∨ (x.done = false ∧ x.mode ≠ 2 ∧ ¬ x.snap < s ∧ op = false) := by
        rw [HOp.out]
        cases x.done
        · by_cases h1 : x.mode = 2
          · simp [h1]
          · by_cases h2 : x.snap < s <;> simp [h1, h2]
        · simp
      have HOpk := Lib.hid hop
      clear HOp hcase hop
      cases op with
      | true =>
        have hd : x.done = false ∧ x.mode ≠ 2 ∧ x.snap < s := by
          rcases hdm with ⟨_, h⟩ | ⟨_, _, h⟩ | ⟨h1, h2, h3, _⟩ | ⟨_, _, _, h⟩
          · cases h
          · cases h
          · exact ⟨h1, h2, h3⟩
          · cases h
        obtain ⟨hd1, hd2, hd3⟩ := hd
        rw [hd1] at c2
        have b1 : (x.mode != 2) = true := by simp [hd2]
        have HR := Lib.hid (HNo.out rfl)
        clear hdm hd1 hd2
        go_wp2_with fail
        go_ret
        exact ⟨ret_bool HR.out.symm, HB.out⟩
      | false =>
      have hd : x.done = true ∨ (x.done = false ∧ x.mode = 2) ∨ (x.done = false ∧ x.mode ≠ 2 ∧ ¬ x.snap < s) := by
        rcases hdm with ⟨h, _⟩ | ⟨h1, h2, h⟩ | ⟨h1, h2, h3, h⟩ | ⟨h1, h2, h3, h⟩
        · exact .inl h
        · exact .inr (.inl ⟨h1, h2⟩)
        · cases h
        · exact .inr (.inr ⟨h1, h2, h3⟩)
      clear hdm HNo
      rcases hd with hd1 | ⟨hd1, hd2⟩ | ⟨hd1, hd2, hd3⟩
      · rw [hd1] at c2
        clear hd1
        go_wp2_with fail
        clear c0 c1 c2
        go_loopw [6] (fun i wr => ∃ m : Nat, i = .int .i64 m ∧ m ≤ hs.length ∧ Hid (Below w.heap.size w wr) ∧ Hid (∀ j, j < m → rriskB hs s k j = false)) (fun i _ => hs.length - (intOf i).toNat)
        case atStart => exact ⟨0, rfl, by omega, HB, Lib.hid (fun j hj => by omega)⟩
        case round =>
          obtain ⟨m, rfl, hm', HBm, HNm⟩ := hrel
          by_cases hlm : m < hs.length
          · have HAn := Lib.hid (ranti_any (HH.out.below HBm.out) k m hlk hlm)
            have HR1 := Lib.hid (HRk.out m)
            have HNx : Hid (rriskB hs s k m = false → ∀ j, j < m + 1 → rriskB hs s k j = false) := Lib.hid fun hf j hj => by
              by_cases e : j = m
              · subst e; exact hf
              · exact HNm.out j (by omega)
            have HRet := Lib.hid (fun h => rsafeL_risk (s := s) hlk hlm h)
            have HAm : Hid (∀ W, Below w.heap.size w W → W.cell? ⟨b, o + m * 6 + 3, none⟩ = some (.int .i64 (tx hs m).stamp)) := Lib.hid fun W hW => HAj.out W hW m hlm
            generalize antiB hs k m = am at *
            generalize (tx hs m).stamp = sm at *
            go_wp2_with fail
            refine HAn.out.mono ?_
            rintro e w2 ⟨rfl, n2, rfl⟩
            have HB2 : Hid (Below w.heap.size w (wr.drewN n2)) := Lib.hid (Below.drewN' HBm.out n2)
            obtain ⟨_, _, g0, g1, g2, g3, g4, g5⟩ := HAt.out _ HB2.out
            go_wp2_with fail
            refine (HWr.out _ HB2.out).mono ?_
            obtain ⟨wb, hwb⟩ : ∃ wb, wb = x.writer := ⟨_, rfl⟩
            rw [← hwb] at HNW ⊢
            clear hwb g0 g1 g2 g3 g4 g5
            rintro e w3 ⟨rfl, hb3⟩
            have HB3 := Lib.hid (HB2.out.trans (hb3.mono HB2.out.size))
            have g3 := (HAt.out _ HB3.out).c3
            have gm := HAm.out _ HB3.out
            clear hb3
            cases am
            · have HNn := Lib.hid (HNx.out (by rw [HR1.out]; rfl))
              go_wp2_with fail
              go_roundw
              case rel => exact ⟨m + 1, by go_num, by omega, HB3, HNn⟩
              case measure => simp [intOf]; omega
            cases wb
            · have HNn := Lib.hid (HNx.out (by rw [HR1.out, decide_eq_false (by rw [HNW.out rfl]; omega)]; rfl))
              go_wp2_with fail
              go_roundw
              case rel => exact ⟨m + 1, by go_num, by omega, HB3, HNn⟩
              case measure => simp [intOf]; omega
            by_cases q1 : s < x.stamp
            case neg =>
              have HNn := Lib.hid (HNx.out (by rw [HR1.out, decide_eq_false (fun h => q1 h.1)]; rfl))
              go_wp2_with fail
              go_roundw
              case rel => exact ⟨m + 1, by go_num, by omega, HB3, HNn⟩
              case measure => simp [intOf]; omega
            by_cases q2 : sm ≤ s
            case neg =>
              have HNn := Lib.hid (HNx.out (by rw [HR1.out, decide_eq_false (fun h => q2 h.2)]; rfl))
              go_wp2_with fail
              go_roundw
              case rel => exact ⟨m + 1, by go_num, by omega, HB3, HNn⟩
              case measure => simp [intOf]; omega
            have HRt := Lib.hid (HRet.out (by rw [HR1.out, decide_eq_true ⟨q1, q2⟩]; rfl))
            go_wp2_with fail
            go_ret
            exact ⟨ret_bool HRt.out.symm, HB3.out⟩
          · have hme : m = hs.length := by omega
            have HN1 : Hid (∀ i, i < k + 1 → ropenB hs s i = false ∧ ∀ j, j < hs.length → rriskB hs s i j = false) := Lib.hid fun i hi => by
              by_cases e : i = k
              · subst e; exact ⟨HOpk.out, fun j hj => HNm.out j (by omega)⟩
              · exact HN.out i (by omega)
            clear hme
            go_wp2_with fail
            go_roundw
            case rel => exact ⟨k + 1, by go_num, by omega, HBm, HN1⟩
            case measure => simp [intOf]; omega
      · rw [hd1] at c2
        have b1 : (x.mode != 2) = false := by simp [hd2]
        clear hd1 hd2
        go_wp2_with fail
        clear b1
        clear c0 c1 c2
        go_loopw [6] (fun i wr => ∃ m : Nat, i = .int .i64 m ∧ m ≤ hs.length ∧ Hid (Below w.heap.size w wr) ∧ Hid (∀ j, j < m → rriskB hs s k j = false)) (fun i _ => hs.length - (intOf i).toNat)
        case atStart => exact ⟨0, rfl, by omega, HB, Lib.hid (fun j hj => by omega)⟩
        case round =>
          obtain ⟨m, rfl, hm', HBm, HNm⟩ := hrel
          by_cases hlm : m < hs.length
          · have HAn := Lib.hid (ranti_any (HH.out.below HBm.out) k m hlk hlm)
            have HR1 := Lib.hid (HRk.out m)
            have HNx : Hid (rriskB hs s k m = false → ∀ j, j < m + 1 → rriskB hs s k j = false) := Lib.hid fun hf j hj => by
              by_cases e : j = m
              · subst e; exact hf
              · exact HNm.out j (by omega)
            have HRet := Lib.hid (fun h => rsafeL_risk (s := s) hlk hlm h)
            have HAm : Hid (∀ W, Below w.heap.size w W → W.cell? ⟨b, o + m * 6 + 3, none⟩ = some (.int .i64 (tx hs m).stamp)) := Lib.hid fun W hW => HAj.out W hW m hlm
            generalize antiB hs k m = am at *
            generalize (tx hs m).stamp = sm at *
            go_wp2_with fail
            refine HAn.out.mono ?_
            rintro e w2 ⟨rfl, n2, rfl⟩
            have HB2 : Hid (Below w.heap.size w (wr.drewN n2)) := Lib.hid (Below.drewN' HBm.out n2)
            obtain ⟨_, _, g0, g1, g2, g3, g4, g5⟩ := HAt.out _ HB2.out
            go_wp2_with fail
            refine (HWr.out _ HB2.out).mono ?_
            obtain ⟨wb, hwb⟩ : ∃ wb, wb = x.writer := ⟨_, rfl⟩
            rw [← hwb] at HNW ⊢
            clear hwb g0 g1 g2 g3 g4 g5
            rintro e w3 ⟨rfl, hb3⟩
            have HB3 := Lib.hid (HB2.out.trans (hb3.mono HB2.out.size))
            have g3 := (HAt.out _ HB3.out).c3
            have gm := HAm.out _ HB3.out
            clear hb3
            cases am
            · have HNn := Lib.hid (HNx.out (by rw [HR1.out]; rfl))
              go_wp2_with fail
              go_roundw
              case rel => exact ⟨m + 1, by go_num, by omega, HB3, HNn⟩
              case measure => simp [intOf]; omega
            cases wb
            · have HNn := Lib.hid (HNx.out (by rw [HR1.out, decide_eq_false (by rw [HNW.out rfl]; omega)]; rfl))
              go_wp2_with fail
              go_roundw
              case rel => exact ⟨m + 1, by go_num, by omega, HB3, HNn⟩
              case measure => simp [intOf]; omega
            by_cases q1 : s < x.stamp
            case neg =>
              have HNn := Lib.hid (HNx.out (by rw [HR1.out, decide_eq_false (fun h => q1 h.1)]; rfl))
              go_wp2_with fail
              go_roundw
              case rel => exact ⟨m + 1, by go_num, by omega, HB3, HNn⟩
              case measure => simp [intOf]; omega
            by_cases q2 : sm ≤ s
            case neg =>
              have HNn := Lib.hid (HNx.out (by rw [HR1.out, decide_eq_false (fun h => q2 h.2)]; rfl))
              go_wp2_with fail
              go_roundw
              case rel => exact ⟨m + 1, by go_num, by omega, HB3, HNn⟩
              case measure => simp [intOf]; omega
            have HRt := Lib.hid (HRet.out (by rw [HR1.out, decide_eq_true ⟨q1, q2⟩]; rfl))
            go_wp2_with fail
            go_ret
            exact ⟨ret_bool HRt.out.symm, HB3.out⟩
          · have hme : m = hs.length := by omega
            have HN1 : Hid (∀ i, i < k + 1 → ropenB hs s i = false ∧ ∀ j, j < hs.length → rriskB hs s i j = false) := Lib.hid fun i hi => by
              by_cases e : i = k
              · subst e; exact ⟨HOpk.out, fun j hj => HNm.out j (by omega)⟩
              · exact HN.out i (by omega)
            clear hme
            go_wp2_with fail
            go_roundw
            case rel => exact ⟨k + 1, by go_num, by omega, HBm, HN1⟩
            case measure => simp [intOf]; omega
      · rw [hd1] at c2
        have b1 : (x.mode != 2) = true := by simp [hd2]
        clear hd1 hd2
        go_wp2_with fail
        clear b1 hd3
        clear c0 c1 c2
        go_loopw [6] (fun i wr => ∃ m : Nat, i = .int .i64 m ∧ m ≤ hs.length ∧ Hid (Below w.heap.size w wr) ∧ Hid (∀ j, j < m → rriskB hs s k j = false)) (fun i _ => hs.length - (intOf i).toNat)
        case atStart => exact ⟨0, rfl, by omega, HB, Lib.hid (fun j hj => by omega)⟩
        case round =>
          obtain ⟨m, rfl, hm', HBm, HNm⟩ := hrel
          by_cases hlm : m < hs.length
          · have HAn := Lib.hid (ranti_any (HH.out.below HBm.out) k m hlk hlm)
            have HR1 := Lib.hid (HRk.out m)
            have HNx : Hid (rriskB hs s k m = false → ∀ j, j < m + 1 → rriskB hs s k j = false) := Lib.hid fun hf j hj => by
              by_cases e : j = m
              · subst e; exact hf
              · exact HNm.out j (by omega)
            have HRet := Lib.hid (fun h => rsafeL_risk (s := s) hlk hlm h)
            have HAm : Hid (∀ W, Below w.heap.size w W → W.cell? ⟨b, o + m * 6 + 3, none⟩ = some (.int .i64 (tx hs m).stamp)) := Lib.hid fun W hW => HAj.out W hW m hlm
            generalize antiB hs k m = am at *
            generalize (tx hs m).stamp = sm at *
            go_wp2_with fail
            refine HAn.out.mono ?_
            rintro e w2 ⟨rfl, n2, rfl⟩
            have HB2 : Hid (Below w.heap.size w (wr.drewN n2)) := Lib.hid (Below.drewN' HBm.out n2)
            obtain ⟨_, _, g0, g1, g2, g3, g4, g5⟩ := HAt.out _ HB2.out
            go_wp2_with fail
            refine (HWr.out _ HB2.out).mono ?_
            obtain ⟨wb, hwb⟩ : ∃ wb, wb = x.writer := ⟨_, rfl⟩
            rw [← hwb] at HNW ⊢
            clear hwb g0 g1 g2 g3 g4 g5
            rintro e w3 ⟨rfl, hb3⟩
            have HB3 := Lib.hid (HB2.out.trans (hb3.mono HB2.out.size))
            have g3 := (HAt.out _ HB3.out).c3
            have gm := HAm.out _ HB3.out
            clear hb3
            cases am
            · have HNn := Lib.hid (HNx.out (by rw [HR1.out]; rfl))
              go_wp2_with fail
              go_roundw
              case rel => exact ⟨m + 1, by go_num, by omega, HB3, HNn⟩
              case measure => simp [intOf]; omega
            cases wb
            · have HNn := Lib.hid (HNx.out (by rw [HR1.out, decide_eq_false (by rw [HNW.out rfl]; omega)]; rfl))
              go_wp2_with fail
              go_roundw
              case rel => exact ⟨m + 1, by go_num, by omega, HB3, HNn⟩
              case measure => simp [intOf]; omega
            by_cases q1 : s < x.stamp
            case neg =>
              have HNn := Lib.hid (HNx.out (by rw [HR1.out, decide_eq_false (fun h => q1 h.1)]; rfl))
              go_wp2_with fail
              go_roundw
              case rel => exact ⟨m + 1, by go_num, by omega, HB3, HNn⟩
              case measure => simp [intOf]; omega
            by_cases q2 : sm ≤ s
            case neg =>
              have HNn := Lib.hid (HNx.out (by rw [HR1.out, decide_eq_false (fun h => q2 h.2)]; rfl))
              go_wp2_with fail
              go_roundw
              case rel => exact ⟨m + 1, by go_num, by omega, HB3, HNn⟩
              case measure => simp [intOf]; omega
            have HRt := Lib.hid (HRet.out (by rw [HR1.out, decide_eq_true ⟨q1, q2⟩]; rfl))
            go_wp2_with fail
            go_ret
            exact ⟨ret_bool HRt.out.symm, HB3.out⟩
          · have hme : m = hs.length := by omega
            have HN1 : Hid (∀ i, i < k + 1 → ropenB hs s i = false ∧ ∀ j, j < hs.length → rriskB hs s i j = false) := Lib.hid fun i hi => by
              by_cases e : i = k
              · subst e; exact ⟨HOpk.out, fun j hj => HNm.out j (by omega)⟩
              · exact HN.out i (by omega)
            clear hme
            go_wp2_with fail
            go_roundw
            case rel => exact ⟨k + 1, by go_num, by omega, HBm, HN1⟩
            case measure => simp [intOf]; omega
    · have hkl : k = hs.length := by omega
      have HR := Lib.hid (rsafeL_yes (s := s) ⟨HV0.out, by omega, by omega⟩ (fun i hi => (HN.out i (by omega)).1) (fun i j hi hj => (HN.out i (by omega)).2 j hj))
      clear hkl
      go_wp2_with fail
      go_ret
      exact ⟨ret_bool HR.out.symm, HB.out⟩
end Go.Proofs.Ytlfpkikmofgjfaa
