/- The walk of Safe. -/
import Derived.Test.YtlfpkikmofgjfaaWalkM
namespace Go.Proofs.Ytlfpkikmofgjfaa
open Go.RowKit

/-- What the closure of Safe asks of a pair. -/
def pastB (hs : List Acc) (s : Int) (p : Nat × Nat) : Bool := decide (s < (tx hs p.1).stamp) && decide ((tx hs p.2).stamp ≤ s)
set_option maxHeartbeats 1000000 in
theorem safe_at {w : World} {v : Value} {hs : List Acc} {s : Int} {hb sb : Nat} {i j : Nat} (hh : Hist w v hs) (hc1 : w.cell? ⟨hb, 0, none⟩ = some v) (hc2 : w.cell? ⟨sb, 0, none⟩ = some (.int .i64 s)) (h1 : hb < w.heap.size) (h2 : sb < w.heap.size) (hi : i < hs.length) (hj : j < hs.length) :
    Calls Try.prog 51 #[.agg #[.int .i64 i, .int .i64 j], .pointer (some ⟨hb, 0, none⟩), .pointer (some ⟨sb, 0, none⟩)] w fun e w' => e = .returned (.bool (pastB hs s (i, j))) ∧ Below w.heap.size w w' := by
  obtain ⟨A, c, rfl, hm, hcap, hc⟩ := hh.shape
  obtain ⟨b, o, vr, vw, rfl, ha⟩ := hc i hi
  obtain ⟨b', o', ur, uw, e', hb'⟩ := hc j hj
  injection e' with e'
  injection e' with e1 e2
  subst e1 e2
  have hlt := ha.lt
  have k1 := ha.c3
  have k2 := hb'.c3
  have HR := Lib.hid (show pastB hs s (i, j) = (decide (s < (tx hs i).stamp) && decide ((tx hs j).stamp ≤ s)) from rfl)
  clear ha hb' hc hh
  generalize (tx hs i).stamp = x at *
  generalize (tx hs j).stamp = y at *
  by_cases ex : s < x
  · by_cases ey : y ≤ s
    · rw [decide_eq_true ex, decide_eq_true ey] at HR
      go_enter Try.func51, Try.ntmps51
      go_wp2_with fail
      go_quiet (fail)
      go_wp2_with fail
      go_ret
      exact ⟨ret_bool (by rw [HR.out]; rfl), Below.drewN' ((Below.refl _ _).alloc (Nat.le_refl _) _) _⟩
    · rw [decide_eq_true ex, decide_eq_false ey] at HR
      go_enter Try.func51, Try.ntmps51
      go_wp2_with fail
      go_quiet (fail)
      go_wp2_with fail
      go_ret
      exact ⟨ret_bool (by rw [HR.out]; simp [ey]), Below.drewN' ((Below.refl _ _).alloc (Nat.le_refl _) _) _⟩
  · rw [decide_eq_false ex] at HR
    have hd : decide (s < x) = false := decide_eq_false ex
    clear ex
    go_enter Try.func51, Try.ntmps51
    go_wp2_with fail
    go_quiet (fail)
    go_wp2_with fail
    go_ret
    exact ⟨ret_bool (by rw [HR.out]; rfl), Below.drewN' ((Below.refl _ _).alloc (Nat.le_refl _) _) _⟩
theorem any_take_succ {α : Type} {ps : List α} {q : α → Bool} {k : Nat} (hk : k < ps.length) : (ps.take (k + 1)).any q = ((ps.take k).any q || q ps[k]) := by
  rw [List.take_add_one, List.getElem?_eq_getElem hk, List.any_append]
  simp
set_option maxHeartbeats 1000000 in
theorem index_pairs {w : World} {v : Value} {ps : List (Nat × Nat)} {q : Nat × Nat → Bool} {c1 c2 : Value} (hp : PNums w v ps)
    (hq : ∀ w1, Below w.heap.size w w1 → ∀ i j : Nat, (i, j) ∈ ps → Calls Try.prog 51 #[.agg #[.int .i64 i, .int .i64 j], c1, c2] w1 fun e w' => e = .returned (.bool (q (i, j))) ∧ Below w1.heap.size w1 w') :
    Calls Try.prog 80 #[v, .func (Fn.func 51) #[] #[c1, c2]] w fun e w' => IsIdx e (ps.any q) ∧ Below w.heap.size w w' := by
  obtain ⟨A, c, rfl, hm, hc⟩ := hp
  have HC := Lib.hid hc
  have HQ := Lib.hid hq
  clear hc hq
  go_enter Try.func80, Try.ntmps80
  go_wp2
  go_loopw [8] (fun i wr => ∃ k : Nat, i = .int .i64 k ∧ k ≤ ps.length ∧ Below w.heap.size w wr ∧ Hid ((ps.take k).any q = false)) (fun i _ => ps.length - (intOf i).toNat)
  case atStart => exact ⟨0, rfl, by omega, Below.refl _ _, Lib.hid (by simp)⟩
  case round =>
    obtain ⟨k, rfl, hk, hB, HN⟩ := hrel
    have HB := Lib.hid hB
    have hsz := hB.size
    clear hB
    by_cases hlk : k < ps.length
    · obtain ⟨g, rfl, hlt, hc1, hc2⟩ := HC.out k hlk
      have f1 : wr.cell? ⟨g, k * 2, none⟩ = some (.int .i64 ((ps.getD k (0, 0)).1 : Nat)) := (HB.out.cell (p := ⟨g, k * 2, none⟩) hlt).trans hc1
      have f2 : wr.cell? ⟨g, k * 2 + 1, none⟩ = some (.int .i64 ((ps.getD k (0, 0)).2 : Nat)) := (HB.out.cell (p := ⟨g, k * 2 + 1, none⟩) hlt).trans hc2
      have hgd : ps.getD k (0, 0) = ps[k] := by simp [List.getD, List.getElem?_eq_getElem hlk]
      rw [hgd] at f1 f2
      have HMem := Lib.hid (List.getElem_mem hlk)
      have HTk := Lib.hid (any_take_succ (q := q) hlk)
      generalize ps[k] = p at *
      obtain ⟨i, j⟩ := p
      clear hc1 hc2 hgd
      have f1 : wr.cell? ⟨g, k * 2, none⟩ = some (.int .i64 (i : Nat)) := f1
      have f2 : wr.cell? ⟨g, k * 2 + 1, none⟩ = some (.int .i64 (j : Nat)) := f2
      go_wp2_with fail
      refine (HQ.out wr HB.out i j HMem.out).mono ?_
      by_cases he : q (i, j) = true
      · rw [he]
        rintro e w1 ⟨rfl, hb⟩
        have HR := Lib.hid (show ps.any q = true from List.any_eq_true.2 ⟨_, HMem.out, he⟩)
        have HB1 := Lib.hid (HB.out.trans (hb.mono hsz))
        go_wp2
        go_ret
        exact ⟨⟨k, rfl, by omega, by rw [HR.out]; simp⟩, HB1.out⟩
      · have he' : q (i, j) = false := by simpa using he
        rw [he']
        rintro e w1 ⟨rfl, hb⟩
        have HB1 := Lib.hid (HB.out.trans (hb.mono hsz))
        have HR : Hid ((ps.take (k + 1)).any q = false) := Lib.hid (by rw [HTk.out, HN.out, he']; rfl)
        clear hb he he'
        go_wp2
        go_roundw
        case rel => exact ⟨k + 1, by go_num, by omega, HB1.out, HR⟩
        case measure => simp [intOf]; omega
    · obtain rfl : k = ps.length := by omega
      have HR := Lib.hid (show ps.any q = false by have := HN.out; rwa [List.take_length] at this)
      go_wp2
      go_ret
      exact ⟨⟨-1, rfl, by omega, by rw [HR.out]; rfl⟩, HB.out⟩
theorem contains_pairs {w : World} {v : Value} {ps : List (Nat × Nat)} {q : Nat × Nat → Bool} {c1 c2 : Value} (hp : PNums w v ps)
    (hq : ∀ w1, Below w.heap.size w w1 → ∀ i j : Nat, (i, j) ∈ ps → Calls Try.prog 51 #[.agg #[.int .i64 i, .int .i64 j], c1, c2] w1 fun e w' => e = .returned (.bool (q (i, j))) ∧ Below w1.heap.size w1 w') :
    Calls Try.prog 49 #[v, .func (Fn.func 51) #[] #[c1, c2]] w fun e w' => e = .returned (.bool (ps.any q)) ∧ Below w.heap.size w w' := by
  have HI := Lib.hid (index_pairs hp hq)
  clear hq hp
  go_enter Try.func49, Try.ntmps49
  go_wp2_with fail
  refine HI.out.mono ?_
  rintro e w1 ⟨⟨r, rfl, hr, hd⟩, hb⟩
  have HB := Lib.hid hb
  have HD := Lib.hid hd
  clear hb hd
  go_wp2_with fail
  go_ret
  exact ⟨ret_bool (by rw [← HD.out]), HB.out⟩
theorem pairs_past (hs : List Acc) (s : Int) : (pairsOf hs.length (antiB hs)).any (pastB hs s) = anyUpto hs.length fun i => anyUpto hs.length fun j => antiB hs i j && decide (s < (tx hs i).stamp ∧ (tx hs j).stamp ≤ s) := by
  rw [Bool.eq_iff_iff, List.any_eq_true, anyUpto_iff]
  constructor
  · rintro ⟨⟨i, j⟩, hm, hp⟩
    simp only [pairsOf, List.mem_flatMap, List.mem_map, List.mem_filter, List.mem_range, Prod.mk.injEq] at hm
    obtain ⟨i', hi, j', ⟨hj, ha⟩, rfl, rfl⟩ := hm
    simp only [pastB, Bool.and_eq_true, decide_eq_true_eq] at hp
    exact ⟨i', hi, anyUpto_iff.2 ⟨j', hj, by simp [ha, hp.1, hp.2]⟩⟩
  · rintro ⟨i, hi, h⟩
    obtain ⟨j, hj, h⟩ := anyUpto_iff.1 h
    simp only [Bool.and_eq_true, decide_eq_true_eq] at h
    refine ⟨(i, j), ?_, by simp [pastB, h.2.1, h.2.2]⟩
    simp only [pairsOf, List.mem_flatMap, List.mem_map, List.mem_filter, List.mem_range, Prod.mk.injEq]
    exact ⟨i, hi, j, ⟨hj, h.1⟩, rfl, rfl⟩
theorem pairs_lt {n : Nat} {p : Nat → Nat → Bool} {i j : Nat} (h : (i, j) ∈ pairsOf n p) : i < n ∧ j < n := by
  simp only [pairsOf, List.mem_flatMap, List.mem_map, List.mem_filter, List.mem_range, Prod.mk.injEq] at h
  obtain ⟨i', hi, j', ⟨hj, _⟩, rfl, rfl⟩ := h
  exact ⟨hi, hj⟩
/-- A transaction that makes a snapshot unsafe. -/
def openB (hs : List Acc) (s : Int) (i : Nat) : Bool := !(tx hs i).done && decide ((tx hs i).mode ≠ 2 ∧ (tx hs i).snap < s)
set_option maxRecDepth 100000 in
set_option maxHeartbeats 2000000 in
theorem safe_any {w : World} {v : Value} {hs : List Acc} {s : Int} (k : Hist w v hs) (_hs64 : W64 s) :
    Calls Try.prog 19 #[v, .int .i64 s] w fun e w' => e = .returned (.bool (safeL hs s)) ∧ Below w.heap.size w w' := by
  have HW := Lib.hid ((((Below.refl w.heap.size w).alloc (Nat.le_refl _) (.cells #[v] 24)).alloc (by simp) (.cells #[.int .i64 s] 3)))
  have HK := Lib.hid ((k.alloc (.cells #[v] 24)).alloc (.cells #[.int .i64 s] 3))
  have b1 : ((w.alloc (.cells #[v] 24)).alloc (.cells #[.int .i64 s] 3)).cell? ⟨w.heap.size, 0, none⟩ = some v := by
    rw [World.cell?_alloc_some _ _ _ (by rw [(Cells.made w 24 #[v]).cell]; rfl), (Cells.made w 24 #[v]).cell]; rfl
  have b2 : ((w.alloc (.cells #[v] 24)).alloc (.cells #[.int .i64 s] 3)).cell? ⟨w.heap.size + 1, 0, none⟩ = some (.int .i64 s) := by
    have := (Cells.made (w.alloc (.cells #[v] 24)) 3 #[.int .i64 s]).cell 0
    rw [show (w.alloc (.cells #[v] 24)).heap.size = w.heap.size + 1 by simp] at this
    exact this
  have hsz0 : ((w.alloc (.cells #[v] 24)).alloc (.cells #[.int .i64 s] 3)).heap.size = w.heap.size + 1 + 1 := by simp
  have HG := Lib.hid (graph_any HK.out)
  obtain ⟨A, c, rfl, hm, hcap, hc⟩ := k.shape
  have HC := Lib.hid hc
  clear k hc
  by_cases hv : checkL hs = 0
  case' neg =>
    have HV := Lib.hid hv
    have HR := Lib.hid (show safeL hs s = false by unfold safeL; rw [decide_eq_false (fun h => hv h.1)]; rfl)
    clear hv
    go_enter Try.func19, Try.ntmps19
    go_wp2_with fail
    refine HG.out.mono ?_
    rintro e w1 ⟨hg, hb⟩
    unfold IsGraph at hg
    rw [if_neg HV.out] at hg
    subst hg
    rw [hsz0] at hb
    have HB := Lib.hid (HW.out.trans (hb.mono (by omega)))
    clear hb
    go_wp2_with fail
    go_ret
    exact ⟨ret_bool HR.out.symm, HB.out⟩
  have HV := Lib.hid hv
  have HL := Lib.hid (checkL_zero.1 hv).len
  clear hv
  by_cases hss : 0 ≤ s ∧ s ≤ 1073741824
  case' neg =>
    have HR := Lib.hid (show safeL hs s = false by unfold safeL; rw [decide_eq_false (fun h => hss h.2)]; rfl)
    have hs2 : s < 0 ∨ (¬ s < 0 ∧ 1073741824 < s) := by omega
    clear hss
    go_enter Try.func19, Try.ntmps19
    go_wp2_with fail
    refine HG.out.mono ?_
    rintro e w1 ⟨hg, hb⟩
    unfold IsGraph at hg
    rw [if_pos HV.out] at hg
    obtain ⟨g, rfl, hgr, hge⟩ := hg
    have c2 : w1.cell? ⟨w.heap.size + 1, 0, none⟩ = some (.int .i64 s) := (hb.cell (p := ⟨w.heap.size + 1, 0, none⟩) (by rw [hsz0]; simp)).trans b2
    rw [hsz0] at hb
    have HB := Lib.hid (HW.out.trans (hb.mono (by omega)))
    clear hb hgr hge
    rcases hs2 with hs2 | ⟨hs2, hs3⟩
    · go_wp2_with fail
      go_ret
      exact ⟨ret_bool HR.out.symm, HB.out⟩
    · go_wp2_with fail
      go_ret
      exact ⟨ret_bool HR.out.symm, HB.out⟩
  have HR := Lib.hid (show safeL hs s = (!(anyUpto hs.length (openB hs s)) && !(pairsOf hs.length (antiB hs)).any (pastB hs s)) by
    unfold safeL
    rw [decide_eq_true ⟨HV.out, hss⟩, pairs_past, Bool.true_and]
    rfl)
  obtain ⟨hs0, hs1⟩ := hss
  go_enter Try.func19, Try.ntmps19
  go_wp2_with fail
  refine HG.out.mono ?_
  rintro e w1 ⟨hg, hb⟩
  unfold IsGraph at hg
  rw [if_pos HV.out] at hg
  obtain ⟨g, rfl, hgr, hge⟩ := hg
  have c1 : w1.cell? ⟨w.heap.size, 0, none⟩ = some (.slice A hs.length c) := (hb.cell (p := ⟨w.heap.size, 0, none⟩) (by rw [hsz0]; simp; omega)).trans b1
  have c2 : w1.cell? ⟨w.heap.size + 1, 0, none⟩ = some (.int .i64 s) := (hb.cell (p := ⟨w.heap.size + 1, 0, none⟩) (by rw [hsz0]; simp)).trans b2
  have HK1 := Lib.hid (HK.out.below hb)
  rw [hsz0] at hb
  have HB := Lib.hid (HW.out.trans (hb.mono (by omega)))
  have hz1 : w.heap.size + 2 ≤ w1.heap.size := by have := hb.size; rw [hsz0] at this; omega
  have HGr := Lib.hid hgr
  clear hb hgr hge
  go_wp2_with fail
  go_loopw [22] (fun i wr => ∃ k : Nat, i = .int .i64 k ∧ k ≤ hs.length ∧ Below w1.heap.size w1 wr ∧ Hid (∀ i, i < k → openB hs s i = false)) (fun i _ => hs.length - (intOf i).toNat)
  case atStart => exact ⟨0, rfl, by omega, Below.refl _ _, Lib.hid (fun i hi => by omega)⟩
  case round =>
    obtain ⟨k, rfl, hk, hB1, HN⟩ := hrel
    have HB1 := Lib.hid hB1
    have hsz := hB1.size
    have d1 : wr.cell? ⟨w.heap.size, 0, none⟩ = some (.slice A hs.length c) := (hB1.cell (p := ⟨w.heap.size, 0, none⟩) (by simp; omega)).trans c1
    have d2 : wr.cell? ⟨w.heap.size + 1, 0, none⟩ = some (.int .i64 s) := (hB1.cell (p := ⟨w.heap.size + 1, 0, none⟩) (by simp; omega)).trans c2
    clear hB1
    have l1 : w.heap.size < wr.heap.size := by omega
    have l2 : w.heap.size + 1 < wr.heap.size := by omega
    by_cases hlk : k < hs.length
    · obtain ⟨b, o, vr, vw, rfl, ha⟩ := HC.out k hlk
      obtain ⟨Ar, cr, rfl, hrm⟩ := ha.rd.r.shape
      obtain ⟨Aw, cw, rfl, hwm⟩ := ha.rd.w.shape
      obtain ⟨lt, _, q0, q1, q2, q3, q4, q5⟩ := ha.below (HB.out.trans (HB1.out.mono HB.out.size))
      obtain ⟨x, hx⟩ : ∃ x, x = tx hs k := ⟨_, rfl⟩
      rw [← hx] at q0 q1 q2 q3 q4 q5 hrm hwm
      have HX := Lib.hid hx
      have HO := Lib.hid (show openB hs s k = (!x.done && decide (x.mode ≠ 2 ∧ x.snap < s)) by unfold openB; rw [hx])
      clear hx ha
      have HB2 := Lib.hid (fun o => HB1.out.alloc hsz o)
      by_cases ho : openB hs s k = true
      · have HF := Lib.hid (show safeL hs s = false by rw [HR.out, anyUpto_iff.2 ⟨k, hlk, ho⟩]; rfl)
        rw [HO.out] at ho
        simp only [Bool.and_eq_true, Bool.not_eq_true', decide_eq_true_eq] at ho
        obtain ⟨o1, o2, o3⟩ := ho
        rw [o1] at q2
        have o2' : (x.mode != 2) = true := by simpa using o2
        clear o1 o2
        go_wp2_with fail
        go_ret
        exact ⟨ret_bool HF.out.symm, HB.out.trans ((HB2.out _).mono HB.out.size)⟩
      · have ho' : openB hs s k = false := by simpa using ho
        have HN2 : Hid (∀ i, i < k + 1 → openB hs s i = false) := Lib.hid (fun i hi => by
          by_cases e : i = k
          · rw [e]; exact ho'
          · exact HN.out i (by omega))
        rw [HO.out] at ho'
        clear ho
        cases hd : x.done
        · rw [hd] at ho' q2
          by_cases hm2 : x.mode = 2
          · have o2' : (x.mode != 2) = false := by simpa using hm2
            clear hm2 hd ho'
            go_wp2_with fail
            go_roundw
            case rel => exact ⟨k + 1, by go_num, by omega, HB2.out _, HN2⟩
            case measure => simp [intOf]; omega
          · have o2' : (x.mode != 2) = true := by simpa using hm2
            have o3 : s ≤ x.snap := by
              apply Classical.byContradiction
              intro h
              rw [decide_eq_true ⟨hm2, by omega⟩] at ho'
              cases ho'
            clear hm2 hd ho'
            go_wp2_with fail
            go_roundw
            case rel => exact ⟨k + 1, by go_num, by omega, HB2.out _, HN2⟩
            case measure => simp [intOf]; omega
        · rw [hd] at q2
          clear hd ho'
          go_wp2_with fail
          go_roundw
          case rel => exact ⟨k + 1, by go_num, by omega, HB2.out _, HN2⟩
          case measure => simp [intOf]; omega
    · obtain rfl : k = hs.length := by omega
      have HNo := Lib.hid (anyUpto_not.2 HN.out)
      go_wp2_with fail
      refine (pairs_any 2 (antiB hs) (and_two hs) (HGr.out.below HB1.out) (HK1.out.below HB1.out) HL.out).mono ?_
      rintro e w2 ⟨⟨u, rfl, hp⟩, hb2⟩
      have HB2 := Lib.hid (HB1.out.trans (hb2.mono hsz))
      have HP := Lib.hid hp.read
      clear hp hb2
      have hz2 := HB2.out.size
      have HCt := Lib.hid (contains_pairs (q := pastB hs s) (c1 := .pointer (some ⟨w.heap.size, 0, none⟩)) (c2 := .pointer (some ⟨w.heap.size + 1, 0, none⟩)) HP.out (fun w3 hb3 i j hij => by
        have hb3' := HB2.out.trans (hb3.mono HB2.out.size)
        have h3 := hb3'.size
        exact safe_at (HK1.out.below hb3') ((hb3'.cell (p := ⟨w.heap.size, 0, none⟩) (by simp; omega)).trans c1) ((hb3'.cell (p := ⟨w.heap.size + 1, 0, none⟩) (by simp; omega)).trans c2) (by omega) (by omega) (pairs_lt hij).1 (pairs_lt hij).2))
      clear HP
      go_wp2_with fail
      refine HCt.out.mono ?_
      rintro e w3 ⟨rfl, hb3⟩
      have HB3 := Lib.hid (HB.out.trans ((HB2.out.trans (hb3.mono hz2)).mono HB.out.size))
      have HF := Lib.hid (show safeL hs s = !(pairsOf hs.length (antiB hs)).any (pastB hs s) by rw [HR.out, HNo.out]; rfl)
      clear hb3 HCt
      go_wp2_with fail
      go_ret
      exact ⟨ret_bool (by rw [HF.out]), HB3.out⟩
end Go.Proofs.Ytlfpkikmofgjfaa
