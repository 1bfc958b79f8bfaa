/- The reference's walk of Equivalent. -/
import Derived.Test.YtlfpkikmofgjfaaRefK
import Derived.Deep.RegionHeld3
namespace Go.Proofs.Ytlfpkikmofgjfaa
open Go.RowKit

/-- What is asked of the place p. -/
def OkAt (hs : List Acc) (t : List Nat) (p : Nat) : Prop := (∀ x, x ∈ (tx hs (t.getD p 0)).reads → beforeL hs (t.take p) x = sourceL hs (tx hs (t.getD p 0)).snap x) ∧ ∀ x, x ∈ (tx hs (t.getD p 0)).writes → beforeL hs t x = sourceL hs 1073741824 x
theorem equivB_ok {hs : List Acc} {t : List Nat} : equivB hs t = true ↔ ∀ p, p < t.length → OkAt hs t p := by
  unfold equivB OkAt
  simp only [List.all_eq_true, List.mem_range, Bool.and_eq_true, decide_eq_true_eq]
theorem equivB_at {hs : List Acc} {t : List Nat} (e : equivB hs t = true) {p : Nat} (hp : p < t.length) : OkAt hs t p := equivB_ok.1 e p hp
theorem once_back {hs : List Acc} {o : List Int} (h : onceB hs o = true) : ∃ t, o = natV t ∧ (∀ i, i ∈ t → i < hs.length) ∧ o.map Int.toNat = t := by
  obtain ⟨f, _⟩ := fine_of_once h
  have e : o = natV (o.map Int.toNat) := by
    unfold natV
    rw [List.map_map]
    conv => lhs; rw [← List.map_id o]
    exact List.map_congr_left fun x hx => by have := (f.ok x hx).1; simp; omega
  refine ⟨o.map Int.toNat, e, fun i hi => ?_, rfl⟩
  obtain ⟨y, hy, rfl⟩ := List.mem_map.1 hi
  have := f.ok y hy
  omega
set_option maxRecDepth 100000 in
set_option maxHeartbeats 4000000 in
theorem requiv_any {w : World} {v ov : Value} {hs : List Acc} {o : List Int} (h : Hist w v hs) (ho : Ints w ov o) :
    Calls Try.prog 37 #[v, ov] w fun e w' => e = .returned (.bool (equivL hs o)) ∧ Below w.heap.size w w' := by
  have HO1 := Lib.hid (ronce_any h ho)
  have HH := Lib.hid h
  have HOI0 := Lib.hid ho
  have HEq0 := Lib.hid (show equivL hs o = (decide (checkL hs = 0) && onceB hs o && equivB hs (o.map Int.toNat)) from rfl)
  by_cases hv : checkL hs = 0
  case neg =>
    have HR := Lib.hid (show equivL hs o = false by rw [HEq0.out, decide_eq_false hv]; rfl)
    generalize onceB hs o = ob at *
    go_enter Try.func37, Try.ntmps37
    go_wp2_with fail
    refine HO1.out.mono ?_
    rintro e w1 ⟨rfl, hb⟩
    have HB1 := Lib.hid hb
    clear hb
    go_wp2_with fail
    refine (rcheck_any (HH.out.below HB1.out)).mono ?_
    generalize checkL hs = cc at *
    have hcb : (cc != 0) = true := by simp [hv]
    clear hv
    rintro e w2 ⟨rfl, hb⟩
    have HB2 := Lib.hid (HB1.out.trans (hb.mono HB1.out.size))
    clear hb
    go_wp2_with fail
    go_ret
    exact ⟨ret_bool HR.out.symm, HB2.out⟩
  have HV := Lib.hid hv
  clear hv
  cases hon : onceB hs o
  · have HR := Lib.hid (show equivL hs o = false by rw [HEq0.out, hon, Bool.and_false]; rfl)
    rw [hon] at HO1
    clear hon
    go_enter Try.func37, Try.ntmps37
    go_wp2_with fail
    refine HO1.out.mono ?_
    rintro e w1 ⟨rfl, hb⟩
    have HB1 := Lib.hid hb
    clear hb
    go_wp2_with fail
    refine (rcheck_any (HH.out.below HB1.out)).mono ?_
    rw [HV.out]
    rintro e w2 ⟨rfl, hb⟩
    have HB2 := Lib.hid (HB1.out.trans (hb.mono HB1.out.size))
    clear hb
    go_wp2_with fail
    go_ret
    exact ⟨ret_bool HR.out.symm, HB2.out⟩
  obtain ⟨t, ht, hti, htn⟩ := once_back hon
  have HEq := Lib.hid (show equivL hs o = equivB hs t by rw [HEq0.out, hon, decide_eq_true HV.out, htn]; rfl)
  rw [hon] at HO1
  have HT := Lib.hid hti
  have HOI : Hid (Ints w ov (natV t)) := Lib.hid (by rw [← ht]; exact HOI0.out)
  obtain ⟨A, c, rfl, hm, hcap, hc⟩ := h.shape
  have HC := Lib.hid hc
  have hoi := HOI.out
  obtain ⟨_, B, d, rfl, hm2, hdap, hoc⟩ := hoi
  have HO := Lib.hid hoc
  clear h ho hc hoc hon ht hti htn HEq0 HOI0
  rw [natV_length'] at *
  generalize hL : t.length = L at *
  have HL := Lib.hid hL
  clear hL
  go_enter Try.func37, Try.ntmps37
  go_wp2_with fail
  refine HO1.out.mono ?_
  rintro e w1 ⟨rfl, hb⟩
  have HB1 := Lib.hid hb
  clear hb HO1
  go_wp2_with fail
  refine (rcheck_any (HH.out.below HB1.out)).mono ?_
  rw [HV.out]
  rintro e w2 ⟨rfl, hb⟩
  have HB2 := Lib.hid (HB1.out.trans (hb.mono HB1.out.size))
  clear hb HB1
  go_wp2_with fail
  go_loopw [6] (fun i wr => ∃ p : Nat, i = .int .i64 p ∧ p ≤ L ∧ Hid (Below w.heap.size w wr) ∧ Hid (∀ q, q < p → OkAt hs t q)) (fun i _ => L - (intOf i).toNat)
  case atStart => exact ⟨0, rfl, by omega, HB2, Lib.hid (fun q hq => by omega)⟩
  case round =>
    obtain ⟨p, rfl, hpL, HB, HOk⟩ := hrel
    clear HB2
    by_cases hp : p < L
    · obtain ⟨ob, oo, rfl, hobl, hcell⟩ := HO.out p hp
      have hp' : p < t.length := by rw [HL.out]; exact hp
      rw [natV_getD' hp'] at hcell
      have hil : t.getD p 0 < hs.length := HT.out _ (Bfs.getD_mem hp')
      have hcz := (HB.out.cell (p := ⟨ob, oo + p, none⟩) hobl).trans hcell
      obtain ⟨i, hi⟩ : ∃ i, i = t.getD p 0 := ⟨_, rfl⟩
      rw [← hi] at hcz hil
      have HIe := Lib.hid hi.symm
      obtain ⟨b, o', vr, vw, rfl, ha⟩ := HC.out i hil
      have ha1 := ha.below HB.out
      obtain ⟨_, ⟨⟨_, Ar, cr, rfl, hrm, hrc, hrd⟩, ⟨_, Aw, cw, rfl, hwm, hwc, hwd⟩, _, _, _⟩, c0, c1, c2, c3, c4, c5⟩ := ha1
      have hsz := HB.out.size
      have hbw : b < wr.heap.size := by have := ha.lt; omega
      clear hi hcell ha
      generalize hsn : (tx hs i).snap = sn at *
      have HSn := Lib.hid hsn
      generalize hrs : (tx hs i).reads = rs at *
      generalize hws : (tx hs i).writes = ws at *
      have HRs := Lib.hid hrs
      have HWs := Lib.hid hws
      generalize (tx hs i).mode = md at *
      generalize (tx hs i).done = dn at *
      generalize (tx hs i).stamp = sm at *
      generalize hlr : rs.length = lr at *
      generalize hlw : ws.length = lw at *
      have HRDL := Lib.hid hlr
      have HWDL := Lib.hid hlw
      obtain ⟨xb, hxb⟩ : ∃ xb, wr.heap.size = xb := ⟨_, rfl⟩
      obtain ⟨wx, hwx⟩ : ∃ wx, wr.alloc (.cells #[.int .i64 md, .int .i64 sn, .bool dn, .int .i64 sm, .slice Ar lr cr, .slice Aw lw cw] 29) = wx := ⟨_, rfl⟩
      have HBx : Hid (Below w.heap.size w wx) := Lib.hid (by rw [← hwx]; exact HB.out.alloc hsz _)
      have hCx : Cells wx xb 29 #[.int .i64 md, .int .i64 sn, .bool dn, .int .i64 sm, .slice Ar lr cr, .slice Aw lw cw] := by rw [← hwx, ← hxb]; exact Cells.made wr 29 _
      have hxl : xb < wx.heap.size := hCx.lt
      have hBwx : Below wr.heap.size wr wx := by rw [← hwx]; exact (Below.refl _ _).alloc (Nat.le_refl _) _
      have HK : Hid (wx.cell? ⟨xb, 1, none⟩ = some (.int .i64 sn) ∧ wx.cell? ⟨xb, 4, none⟩ = some (.slice Ar lr cr) ∧ wx.cell? ⟨xb, 5, none⟩ = some (.slice Aw lw cw)) := Lib.hid ⟨hCx.cell 1, hCx.cell 4, hCx.cell 5⟩
      have HRD : Hid (∀ j, j < lr → ∃ b o, Ar = some ⟨b, o, none⟩ ∧ b < wx.heap.size ∧ wx.cell? ⟨b, o + j, none⟩ = some (.int .i64 (rs.getD j 0))) := Lib.hid fun j hj => by
        obtain ⟨b, o, e1, e2, e3⟩ := hrd j hj
        exact ⟨b, o, e1, by have := hBwx.size; omega, (hBwx.cell (p := ⟨b, o + j, none⟩) e2).trans e3⟩
      have HWD : Hid (∀ j, j < lw → ∃ b o, Aw = some ⟨b, o, none⟩ ∧ b < wx.heap.size ∧ wx.cell? ⟨b, o + j, none⟩ = some (.int .i64 (ws.getD j 0))) := Lib.hid fun j hj => by
        obtain ⟨b, o, e1, e2, e3⟩ := hwd j hj
        exact ⟨b, o, e1, by have := hBwx.size; omega, (hBwx.cell (p := ⟨b, o + j, none⟩) e2).trans e3⟩
      clear hCx hBwx hrd hwd hsn hrs hws hlr hlw
      go_wp2_with fail
      try rw [hwx]
      try rw [hxb]
      clear hwx hxb c0 c1 c2 c3 c4 c5 hcz
      have hk4 := HK.out.2.1
      go_wp2_with fail
      clear hk4
      go_loopw [8] (fun jv wr => ∃ j : Nat, jv = .int .i64 j ∧ j ≤ lr ∧ Hid (Below wx.heap.size wx wr) ∧ Hid (∀ x, x ∈ rs.take j → (fun x => beforeL hs (t.take p) x = sourceL hs sn x) x)) (fun jv _ => lr - (intOf jv).toNat)
      case atStart => exact ⟨0, rfl, by omega, Lib.hid (Below.refl _ _), Lib.hid (fun x hx => by simp at hx)⟩
      case round =>
        obtain ⟨j, rfl, hj, HBj, HPj⟩ := hrel
        have k1 : wr.cell? ⟨xb, 1, none⟩ = some (.int .i64 sn) := (HBj.out.cell (p := ⟨xb, 1, none⟩) hxl).trans HK.out.1
        have k4 : wr.cell? ⟨xb, 4, none⟩ = some (.slice Ar lr cr) := (HBj.out.cell (p := ⟨xb, 4, none⟩) hxl).trans HK.out.2.1
        have hxw : xb < wr.heap.size := by have := HBj.out.size; omega
        by_cases hjn : j < lr
        · obtain ⟨eb, eo, rfl, hebl, hec⟩ := HRD.out j hjn
          have hmt := fun x => mem_take_succ (xs := rs) (k := j) (by rw [HRDL.out]; exact hjn) x
          have hmem : rs.getD j 0 ∈ rs := getD_mem' (by rw [HRDL.out]; exact hjn)
          have k5 := (HBj.out.cell (p := ⟨eb, eo + j, none⟩) hebl).trans hec
          have hebw : eb < wr.heap.size := by have := HBj.out.size; omega
          generalize rs.getD j 0 = x at *
          obtain ⟨wo, rfl⟩ : ∃ wo : World, wo = wr := ⟨_, rfl⟩
          have HWo := Lib.hid (HBx.out.trans (HBj.out.mono HBx.out.size))
          have HKk := Lib.hid (And.intro k1 (And.intro k4 k5))
          have HCa : Hid (∀ W, Below wo.heap.size wo W → Calls Try.prog 72 #[.slice (some ⟨b, o', none⟩) hs.length c, (.slice (some ⟨ob, oo, none⟩) L d), .int .i64 (p : Nat), .int .i64 x] W fun e w' => e = .returned (.int .i64 (beforeL hs (t.take p) x)) ∧ Below wo.heap.size wo w' ∧ w'.cell? ⟨xb, 1, none⟩ = some (.int .i64 sn) ∧ w'.cell? ⟨xb, 4, none⟩ = some (.slice (some ⟨eb, eo, none⟩) lr cr) ∧ w'.cell? ⟨eb, eo + j, none⟩ = some (.int .i64 x)) := Lib.hid fun W hW => by
            have hww := HWo.out.trans (hW.mono HWo.out.size)
            refine (rbefore_any (HH.out.below hww) (HOI.out.below hww) HT.out p (by rw [HL.out]; omega) x).mono ?_
            rintro e w' ⟨rfl, q, rfl⟩
            exact ⟨rfl, Below.drewN' hW q, (hW.cell (p := ⟨xb, 1, none⟩) hxw).trans HKk.out.1, (hW.cell (p := ⟨xb, 4, none⟩) hxw).trans HKk.out.2.1, (hW.cell (p := ⟨eb, eo + j, none⟩) hebw).trans HKk.out.2.2⟩
          have HCb : Hid (∀ W, Below wo.heap.size wo W → Calls Try.prog 73 #[.slice (some ⟨b, o', none⟩) hs.length c, .int .i64 sn, .int .i64 x] W fun e w' => e = .returned (.int .i64 (sourceL hs sn x)) ∧ Below wo.heap.size wo w' ∧ w'.cell? ⟨xb, 1, none⟩ = some (.int .i64 sn) ∧ w'.cell? ⟨xb, 4, none⟩ = some (.slice (some ⟨eb, eo, none⟩) lr cr) ∧ w'.cell? ⟨eb, eo + j, none⟩ = some (.int .i64 x)) := Lib.hid fun W hW => by
            have hww := HWo.out.trans (hW.mono HWo.out.size)
            refine (rsource_any (HH.out.below hww) sn x).mono ?_
            rintro e w' ⟨rfl, hb⟩
            have hWW := hW.trans (hb.mono hW.size)
            exact ⟨rfl, hWW, (hWW.cell (p := ⟨xb, 1, none⟩) hxw).trans HKk.out.1, (hWW.cell (p := ⟨xb, 4, none⟩) hxw).trans HKk.out.2.1, (hWW.cell (p := ⟨eb, eo + j, none⟩) hebw).trans HKk.out.2.2⟩
          have HPx : Hid (beforeL hs (t.take p) x = sourceL hs sn x → ∀ y, y ∈ rs.take (j + 1) → (fun x => beforeL hs (t.take p) x = sourceL hs sn x) y) := Lib.hid fun h y hy => by
            rcases (hmt y).1 hy with h' | h'
            · exact HPj.out y h'
            · subst h'; exact h
          have HNo : Hid (¬ beforeL hs (t.take p) x = sourceL hs sn x → equivL hs o = false) := Lib.hid fun h => by
            rw [HEq.out]
            cases e : equivB hs t with
            | false => rfl
            | true => exact absurd ((equivB_at e hp').1 x (by rw [HIe.out, HRs.out]; exact hmem)) (by rw [HIe.out, HSn.out]; exact h)
          clear hmt hmem
          generalize beforeL hs (t.take p) x = bv at *
          generalize sourceL hs sn x = sv at *
          go_wp2_with fail
          go_region_held3 (fun w' => w'.cell? ⟨xb, 1, none⟩ = some (.int .i64 sn) ∧ w'.cell? ⟨xb, 4, none⟩ = some (.slice (some ⟨eb, eo, none⟩) lr cr) ∧ w'.cell? ⟨eb, eo + j, none⟩ = some (.int .i64 x)) (go_keep)
            (first | (go_at_call 72; refine (HCa.out _ ?_).mono ?_; (first | exact Below.refl _ _ | exact (Below.refl _ _).drew | assumption); rintro e wV ⟨rfl, hbV, kV1, kV2, kV3⟩) | (go_at_call 73; refine (HCb.out _ ?_).mono ?_; (first | exact Below.refl _ _ | exact (Below.refl _ _).drew | assumption); rintro e wV ⟨rfl, hbV, kV1, kV2, kV3⟩))
          all_goals
            have HBn := Lib.hid (HBj.out.trans (hbV.mono HBj.out.size))
            clear hbV kV1 kV2 kV3 HCa HCb k1 k4 k5
            by_cases hbs : bv = sv
            · have HPn := Lib.hid (HPx.out hbs)
              have hd : (bv != sv) = false := by simp [hbs]
              clear hbs
              go_wp2_with fail
              go_roundw
              case rel => exact ⟨j + 1, by go_num, by omega, HBn, HPn⟩
              case measure => simp [intOf]; omega
            · have HR := Lib.hid (HNo.out hbs)
              have hd : (bv != sv) = true := by simp [hbs]
              clear hbs
              go_wp2_with fail
              go_ret
              exact ⟨ret_bool HR.out.symm, HBx.out.trans (HBn.out.mono HBx.out.size)⟩
        · have hjn' : j = lr := by omega
          have HAR : Hid (∀ x, x ∈ rs → (fun x => beforeL hs (t.take p) x = sourceL hs sn x) x) := Lib.hid (by have := HPj.out; rwa [hjn', ← HRDL.out, List.take_length] at this)
          clear hjn'
          have HB2 : Hid (Below wx.heap.size wx wr) := HBj
          clear HBj HPj
          have k5 : wr.cell? ⟨xb, 5, none⟩ = some (.slice Aw lw cw) := (HB2.out.cell (p := ⟨xb, 5, none⟩) hxl).trans HK.out.2.2
          go_wp2_with fail
          clear k1 k4 k5
          go_loopw [9] (fun jv wr => ∃ j : Nat, jv = .int .i64 j ∧ j ≤ lw ∧ Hid (Below wx.heap.size wx wr) ∧ Hid (∀ x, x ∈ ws.take j → (fun x => beforeL hs t x = sourceL hs 1073741824 x) x)) (fun jv _ => lw - (intOf jv).toNat)
          case atStart => exact ⟨0, rfl, by omega, HB2, Lib.hid (fun x hx => by simp at hx)⟩
          case round =>
            obtain ⟨j, rfl, hj, HBj, HPj⟩ := hrel
            have k1 : wr.cell? ⟨xb, 1, none⟩ = some (.int .i64 sn) := (HBj.out.cell (p := ⟨xb, 1, none⟩) hxl).trans HK.out.1
            have k4 : wr.cell? ⟨xb, 5, none⟩ = some (.slice Aw lw cw) := (HBj.out.cell (p := ⟨xb, 5, none⟩) hxl).trans HK.out.2.2
            have hxw : xb < wr.heap.size := by have := HBj.out.size; omega
            by_cases hjn : j < lw
            · obtain ⟨eb, eo, rfl, hebl, hec⟩ := HWD.out j hjn
              have hmt := fun x => mem_take_succ (xs := ws) (k := j) (by rw [HWDL.out]; exact hjn) x
              have hmem : ws.getD j 0 ∈ ws := getD_mem' (by rw [HWDL.out]; exact hjn)
              have k5 := (HBj.out.cell (p := ⟨eb, eo + j, none⟩) hebl).trans hec
              have hebw : eb < wr.heap.size := by have := HBj.out.size; omega
              generalize ws.getD j 0 = x at *
              obtain ⟨wo, rfl⟩ : ∃ wo : World, wo = wr := ⟨_, rfl⟩
              have HWo := Lib.hid (HBx.out.trans (HBj.out.mono HBx.out.size))
              have HKk := Lib.hid (And.intro k1 (And.intro k4 k5))
              have HCa : Hid (∀ W, Below wo.heap.size wo W → Calls Try.prog 72 #[.slice (some ⟨b, o', none⟩) hs.length c, (.slice (some ⟨ob, oo, none⟩) L d), .int .i64 (L : Nat), .int .i64 x] W fun e w' => e = .returned (.int .i64 (beforeL hs (t) x)) ∧ Below wo.heap.size wo w' ∧ w'.cell? ⟨xb, 1, none⟩ = some (.int .i64 sn) ∧ w'.cell? ⟨xb, 5, none⟩ = some (.slice (some ⟨eb, eo, none⟩) lw cw) ∧ w'.cell? ⟨eb, eo + j, none⟩ = some (.int .i64 x)) := Lib.hid fun W hW => by
                have hww := HWo.out.trans (hW.mono HWo.out.size)
                refine (rbefore_any (HH.out.below hww) (HOI.out.below hww) HT.out L (by rw [HL.out]; exact Nat.le_refl _) x).mono ?_
                rintro e w' ⟨rfl, q, rfl⟩
                exact ⟨by rw [show t.take L = t by rw [← HL.out, List.take_length]], Below.drewN' hW q, (hW.cell (p := ⟨xb, 1, none⟩) hxw).trans HKk.out.1, (hW.cell (p := ⟨xb, 5, none⟩) hxw).trans HKk.out.2.1, (hW.cell (p := ⟨eb, eo + j, none⟩) hebw).trans HKk.out.2.2⟩
              have HCb : Hid (∀ W, Below wo.heap.size wo W → Calls Try.prog 73 #[.slice (some ⟨b, o', none⟩) hs.length c, .int .i64 1073741824, .int .i64 x] W fun e w' => e = .returned (.int .i64 (sourceL hs 1073741824 x)) ∧ Below wo.heap.size wo w' ∧ w'.cell? ⟨xb, 1, none⟩ = some (.int .i64 sn) ∧ w'.cell? ⟨xb, 5, none⟩ = some (.slice (some ⟨eb, eo, none⟩) lw cw) ∧ w'.cell? ⟨eb, eo + j, none⟩ = some (.int .i64 x)) := Lib.hid fun W hW => by
                have hww := HWo.out.trans (hW.mono HWo.out.size)
                refine (rsource_any (HH.out.below hww) 1073741824 x).mono ?_
                rintro e w' ⟨rfl, hb⟩
                have hWW := hW.trans (hb.mono hW.size)
                exact ⟨rfl, hWW, (hWW.cell (p := ⟨xb, 1, none⟩) hxw).trans HKk.out.1, (hWW.cell (p := ⟨xb, 5, none⟩) hxw).trans HKk.out.2.1, (hWW.cell (p := ⟨eb, eo + j, none⟩) hebw).trans HKk.out.2.2⟩
              have HPx : Hid (beforeL hs (t) x = sourceL hs 1073741824 x → ∀ y, y ∈ ws.take (j + 1) → (fun x => beforeL hs t x = sourceL hs 1073741824 x) y) := Lib.hid fun h y hy => by
                rcases (hmt y).1 hy with h' | h'
                · exact HPj.out y h'
                · subst h'; exact h
              have HNo : Hid (¬ beforeL hs (t) x = sourceL hs 1073741824 x → equivL hs o = false) := Lib.hid fun h => by
                rw [HEq.out]
                cases e : equivB hs t with
                | false => rfl
                | true => exact absurd ((equivB_at e hp').2 x (by rw [HIe.out, HWs.out]; exact hmem)) (by exact h)
              clear hmt hmem
              generalize beforeL hs (t) x = bv at *
              generalize sourceL hs 1073741824 x = sv at *
              go_wp2_with fail
              go_region_held3 (fun w' => w'.cell? ⟨xb, 1, none⟩ = some (.int .i64 sn) ∧ w'.cell? ⟨xb, 5, none⟩ = some (.slice (some ⟨eb, eo, none⟩) lw cw) ∧ w'.cell? ⟨eb, eo + j, none⟩ = some (.int .i64 x)) (go_keep)
                (first | (go_at_call 72; refine (HCa.out _ ?_).mono ?_; (first | exact Below.refl _ _ | exact (Below.refl _ _).drew | assumption); rintro e wV ⟨rfl, hbV, kV1, kV2, kV3⟩) | (go_at_call 73; refine (HCb.out _ ?_).mono ?_; (first | exact Below.refl _ _ | exact (Below.refl _ _).drew | assumption); rintro e wV ⟨rfl, hbV, kV1, kV2, kV3⟩))
              all_goals
                have HBn := Lib.hid (HBj.out.trans (hbV.mono HBj.out.size))
                clear hbV kV1 kV2 kV3 HCa HCb k1 k4 k5
                by_cases hbs : bv = sv
                · have HPn := Lib.hid (HPx.out hbs)
                  have hd : (bv != sv) = false := by simp [hbs]
                  clear hbs
                  go_wp2_with fail
                  go_roundw
                  case rel => exact ⟨j + 1, by go_num, by omega, HBn, HPn⟩
                  case measure => simp [intOf]; omega
                · have HR := Lib.hid (HNo.out hbs)
                  have hd : (bv != sv) = true := by simp [hbs]
                  clear hbs
                  go_wp2_with fail
                  go_ret
                  exact ⟨ret_bool HR.out.symm, HBx.out.trans (HBn.out.mono HBx.out.size)⟩
            · have hjn' : j = lw := by omega
              have HAW : Hid (∀ x, x ∈ ws → (fun x => beforeL hs t x = sourceL hs 1073741824 x) x) := Lib.hid (by have := HPj.out; rwa [hjn', ← HWDL.out, List.take_length] at this)
              clear hjn'
              have HAt2 : Hid (∀ q, q < p + 1 → OkAt hs t q) := Lib.hid (fun q hq => by
                by_cases e : q = p
                · subst e; exact ⟨fun x hx => by rw [HIe.out, HRs.out] at hx; rw [HIe.out, HSn.out]; exact HAR.out x hx, fun x hx => by rw [HIe.out, HWs.out] at hx; exact HAW.out x hx⟩
                · exact HOk.out q (by omega))
              go_wp2_with fail
              go_roundw
              case rel => exact ⟨p + 1, by go_num, by omega, Lib.hid (HBx.out.trans (HBj.out.mono HBx.out.size)), HAt2⟩
              case measure => simp [intOf]; omega
    · have hpe : p = L := by omega
      have HR := Lib.hid (show equivL hs o = true by rw [HEq.out, equivB_ok]; intro q hq; exact HOk.out q (by rw [HL.out] at hq; omega))
      clear hpe
      go_wp2_with fail
      go_ret
      exact ⟨ret_bool HR.out.symm, HB.out⟩
end Go.Proofs.Ytlfpkikmofgjfaa
