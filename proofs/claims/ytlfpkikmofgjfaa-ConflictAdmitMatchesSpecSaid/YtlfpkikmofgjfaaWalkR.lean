/- The walk of Equivalent. -/
import Derived.Test.YtlfpkikmofgjfaaEqv
namespace Go.Proofs.Ytlfpkikmofgjfaa
open Go.RowKit

theorem Fine.len {hs : List Acc} {o : List Int} (f : Fine hs o) : o.length ≤ hs.length := by
  have := nodup_length_le _ (List.range hs.length) f.nats (fun x hx => by
    obtain ⟨y, hy, rfl⟩ := List.mem_map.1 hx
    have := f.ok y hy
    simp
    omega)
  simpa using this
theorem Fine.take {hs : List Acc} {o : List Int} (f : Fine hs o) (k : Nat) : Fine hs (o.take k) := ⟨fun x hx => f.ok x (List.mem_of_mem_take hx), f.nodup.sublist (List.take_sublist _ _)⟩
theorem Fine.snoc {hs : List Acc} {o : List Int} {k : Nat} (hk : k < o.length) (f : Fine hs (o.take k)) (h0 : 0 ≤ o.getD k 0) (h1 : o.getD k 0 < hs.length) (hd : (tx hs (o.getD k 0).toNat).done = true) (hn : o.getD k 0 ∉ o.take k) : Fine hs (o.take (k + 1)) := by
  rw [take_succ_getD hk]
  refine ⟨fun x hx => ?_, ?_⟩
  · rcases List.mem_append.1 hx with hx | hx
    · exact f.ok x hx
    · simp only [List.mem_singleton] at hx
      subst hx
      exact ⟨h0, h1, hd⟩
  · rw [List.nodup_append]
    exact ⟨f.nodup, by simp, fun x hx y hy => by simp only [List.mem_singleton] at hy; subst hy; rintro rfl; exact hn hx⟩
theorem equiv_not {hs : List Acc} {o : List Int} (h : ¬ Fine hs o) : equivL hs o = false := by
  unfold equivL
  have : onceB hs o = false := by
    cases e : onceB hs o with
    | false => rfl
    | true => exact absurd (fine_of_once e).1 h
  rw [this]
  simp
theorem Ints.get {w : World} {A : Option Addr} {n c : Nat} {xs : List Int} (h : Ints w (.slice A n c) xs) {j : Nat} (hj : j < xs.length) : ∃ b o, A = some ⟨b, o, none⟩ ∧ b < w.heap.size ∧ w.cell? ⟨b, o + j, none⟩ = some (.int .i64 (xs.getD j 0)) := by
  obtain ⟨_, A', c', e, _, _, hc⟩ := h
  injection e with e1 e2 e3
  rw [e1]
  exact hc j hj
/-- The loop of Equivalent over the order: what the state map holds. -/
structure EqSt (w1 : World) (hs : List Acc) (mb n : Nat) (f : Int → Option Int) (wr : World) : Prop where
  box : Cells wr (mb + 1) 74 #[.map (some mb)]
  map : MapAt Try.prog 3 3 wr mb n f
  new : w1.heap.size ≤ mb
  below : Below w1.heap.size w1 wr
theorem EqSt.keep {w1 : World} {hs : List Acc} {mb n : Nat} {f : Int → Option Int} {wr w2 : World} (e : EqSt w1 hs mb n f wr) (hb : Below wr.heap.size wr w2) : EqSt w1 hs mb n f w2 :=
  ⟨e.box.kept (hb.block _ e.box.lt), e.map.kept (hb.block _ e.map.lt), e.new, e.below.trans (hb.mono e.below.size)⟩
theorem EqSt.grown {w1 : World} {hs : List Acc} {mb n : Nat} {f : Int → Option Int} {wr w2 : World} {row : Option Nat} (e : EqSt w1 hs mb n f wr) (hg : wr.grownBy w2 row) (h : ∀ q, row = some q → mb + 1 < q) : EqSt w1 hs mb n f w2 :=
  ⟨e.box.kept (hg.block _ e.box.lt (fun e' => by have := h _ e'.symm; omega)), e.map.kept (hg.block _ e.map.lt (fun e' => by have := h _ e'.symm; omega)), e.new, e.below.grown hg e.below.size (fun q hq => by have := h q hq; have := e.new; omega)⟩
theorem tx_lt_of_mem {hs : List Acc} {i : Nat} {x : Int} (h : x ∈ (tx hs i).writes) : i < hs.length := by
  apply Classical.byContradiction
  intro hn
  have : tx hs i = acc0 := by unfold tx; simp [List.getD, List.getElem?_eq_none (by omega : hs.length ≤ i)]
  rw [this] at h
  cases h
/-- The last loop of Equivalent. -/
def LastSt (w1 : World) (hs : List Acc) (mb r n : Nat) (ns : List Nat) (wr : World) : Prop :=
  ∃ (left : Int → Bool) (cnt : Nat), RangeAt Try.prog 3 3 wr mb r n (beforeF hs ns) left cnt ∧ EqSt w1 hs mb n (beforeF hs ns) wr ∧ ∀ x, W64 x → (beforeF hs ns x).isSome = true → left x = false → beforeL hs ns x = sourceL hs 1073741824 x
/-- All that was read at the places below p was what the history read. -/
def ReadsOk (hs : List Acc) (ns : List Nat) (p : Nat) : Prop := ∀ p', p' < p → ∀ x, x ∈ (tx hs (ns.getD p' 0)).reads → beforeL hs (ns.take p') x = sourceL hs (tx hs (ns.getD p' 0)).snap x
theorem nat_take {l : List Nat} {k : Nat} (hk : k < l.length) : l.take (k + 1) = l.take k ++ [l.getD k 0] := by
  rw [List.take_add_one, List.getElem?_eq_getElem hk]
  simp [List.getD, List.getElem?_eq_getElem hk]
set_option maxRecDepth 100000 in
set_option maxHeartbeats 4000000 in
theorem equiv_any {w : World} {v ov : Value} {hs : List Acc} {o : List Int} (k : Hist w v hs) (ho : Ints w ov o) :
    Calls Try.prog 23 #[v, ov] w fun e w' => e = .returned (.bool (equivL hs o)) ∧ Below w.heap.size w w' := by
  have HW := Lib.hid ((Below.refl w.heap.size w).alloc (Nat.le_refl _) (.cells #[v] 24))
  have HK := Lib.hid (k.alloc (.cells #[v] 24))
  have HO := Lib.hid (ho.alloc (.cells #[v] 24))
  have b1 : (w.alloc (.cells #[v] 24)).cell? ⟨w.heap.size, 0, none⟩ = some v := (Cells.made w 24 #[v]).cell 0
  have hsz0 : (w.alloc (.cells #[v] 24)).heap.size = w.heap.size + 1 := by simp
  have HCk := Lib.hid (check_any HK.out)
  have hmm := @run_makeMap Try.prog
  obtain ⟨A, c, rfl, hm, hcap, hc⟩ := k.shape
  have HC := Lib.hid hc
  obtain ⟨how, OA, oc, rfl, hom, hocap, hoc⟩ := ho
  have HOw := Lib.hid how
  have HOc := Lib.hid hoc
  clear k hc hoc how
  by_cases hv : checkL hs = 0
  case' neg =>
    have HR := Lib.hid (show equivL hs o = false by unfold equivL; rw [decide_eq_false hv]; rfl)
    have hvb : (checkL hs != 0) = true := by simp [hv]
    clear hv
    go_enter Try.func23, Try.ntmps23
    go_wp2_with fail
    refine HCk.out.mono ?_
    rintro e w1 ⟨rfl, hb⟩
    rw [hsz0] at hb
    have HB := Lib.hid (HW.out.trans (hb.mono (by omega)))
    clear hb
    go_wp2_with fail
    go_ret
    exact ⟨ret_bool HR.out.symm, HB.out⟩
  have HV := Lib.hid hv
  have HVal := Lib.hid (checkL_zero.1 hv)
  have hln := (checkL_zero.1 hv).len
  rw [hv] at HCk
  clear hv
  go_enter Try.func23, Try.ntmps23
  go_wp2_with fail
  refine HCk.out.mono ?_
  rintro e w1 ⟨rfl, hb⟩
  have c1 : w1.cell? ⟨w.heap.size, 0, none⟩ = some (.slice A hs.length c) := (hb.cell (p := ⟨w.heap.size, 0, none⟩) (by rw [hsz0]; simp)).trans b1
  have hz1 := hb.size
  have HK1 := Lib.hid (HK.out.below hb)
  have HO1 := Lib.hid (HO.out.below hb)
  rw [hsz0] at hb hz1
  have HB := Lib.hid (HW.out.trans (hb.mono (by omega)))
  have l1 : w.heap.size < w1.heap.size := by omega
  clear hb
  go_wp2_with fail
  go_loopw [26] (fun i wr => ∃ k : Nat, i = .int .i64 k ∧ k ≤ o.length ∧ SetAt Try.prog 3 4 wr w1.heap.size (o.take k) ∧ Below w1.heap.size w1 wr ∧ Hid (Fine hs (o.take k))) (fun i _ => o.length - (intOf i).toNat)
  case atStart => exact ⟨0, rfl, by omega, SetAt.made w1 _ 3 4, (Below.refl _ _).alloc (Nat.le_refl _) _, Lib.hid ⟨fun x hx => (by cases hx), List.nodup_nil⟩⟩
  case round =>
    obtain ⟨k, rfl, hk, hS, hB1, HF⟩ := hrel
    have HS := Lib.hid hS
    have HB1 := Lib.hid hB1
    have hsz := hB1.size
    have d1 : wr.cell? ⟨w.heap.size, 0, none⟩ = some (.slice A hs.length c) := (hB1.cell (p := ⟨w.heap.size, 0, none⟩) l1).trans c1
    clear hS hB1
    by_cases hlk : k < o.length
    · obtain ⟨ob, oo, rfl, hobl, hcell⟩ := HOc.out k hlk
      have hzw := HOw.out _ (getD_mem' hlk)
      have hcz : wr.cell? ⟨ob, oo + k, none⟩ = some (.int .i64 (o.getD k 0)) := ((HB.out.trans (HB1.out.mono HB.out.size)).cell (p := ⟨ob, oo + k, none⟩) hobl).trans hcell
      have HSn := Lib.hid (Fine.snoc hlk HF.out)
      have HTS := Lib.hid (take_succ_getD hlk)
      have HNo : Hid (∀ h : Fine hs o, 0 ≤ o.getD k 0 ∧ o.getD k 0 < hs.length ∧ (tx hs (o.getD k 0).toNat).done = true ∧ o.getD k 0 ∉ o.take k) := Lib.hid (fun f => by
        have f1 := f.ok _ (getD_mem' hlk)
        exact ⟨f1.1, f1.2.1, f1.2.2, getD_not_mem f.nodup hlk⟩)
      obtain ⟨z, hz⟩ : ∃ z, z = o.getD k 0 := ⟨_, rfl⟩
      rw [← hz] at hzw hcz HSn HTS HNo
      clear hz hcell
      by_cases hr : 0 ≤ z ∧ z < hs.length
      case' neg =>
        have HR := Lib.hid (equiv_not (hs := hs) (o := o) (fun f => hr ⟨(HNo.out f).1, (HNo.out f).2.1⟩))
        have hr2 : z < 0 ∨ (¬ z < 0 ∧ (hs.length : Int) ≤ z) := by omega
        clear hr
        rcases hr2 with hr2 | ⟨hr2, hr3⟩
        · go_wp2_with fail
          go_ret
          exact ⟨ret_bool HR.out.symm, HB.out.trans (HB1.out.mono HB.out.size)⟩
        · go_wp2_with fail
          go_ret
          exact ⟨ret_bool HR.out.symm, HB.out.trans (HB1.out.mono HB.out.size)⟩
      obtain ⟨hr0, hr1⟩ := hr
      obtain ⟨q, rfl⟩ : ∃ q : Nat, z = q := ⟨z.toNat, by omega⟩
      have hq : q < hs.length := by omega
      obtain ⟨b, o', vr, vw, rfl, ha⟩ := HC.out q hq
      have c2 := (ha.below (HB.out.trans (HB1.out.mono HB.out.size))).c2
      have hlook := HS.out.look (t := 58) Try.underlying3 Try.underlying4 Try.underlying58 (zeroB wr) hzw
      clear ha hr0 hr1
      cases hd : (tx hs q).done with
      | false =>
        rw [hd] at c2
        have HR := Lib.hid (equiv_not (hs := hs) (o := o) (fun f => by have := (HNo.out f).2.2.1; rw [Int.toNat_natCast, hd] at this; cases this))
        clear hd
        go_wp2_with fail
        go_ret
        exact ⟨ret_bool HR.out.symm, HB.out.trans (HB1.out.mono HB.out.size)⟩
      | true =>
        rw [hd] at c2
        by_cases hin : (q : Int) ∈ o.take k
        · have HR := Lib.hid (equiv_not (hs := hs) (o := o) (fun f => (HNo.out f).2.2.2 hin))
          have hdec : decide ((q : Int) ∈ o.take k) = true := decide_eq_true hin
          rw [hdec] at hlook
          clear hd hin hdec
          go_wp2_with fail
          go_ret
          exact ⟨ret_bool HR.out.symm, HB.out.trans (HB1.out.mono HB.out.size)⟩
        · have HF2 := Lib.hid (HSn.out (by omega) (by omega) (by rw [Int.toNat_natCast]; exact hd) hin)
          have HIn := Lib.hid hin
          have hdec : decide ((q : Int) ∈ o.take k) = false := decide_eq_false hin
          rw [hdec] at hlook
          have hkl : (o.take k).length ≤ 100 := by have := HF.out.len; omega
          clear hd hin hdec
          go_wp2_with (refine wpList_set_put rfl (.tmp 51) (.tmp 52) (.const (.bool true)) 58 rfl Try.underlying3 Try.underlying4 Try.underlying58 q rfl rfl rfl HS.out (by simp only [maxLen]; omega) hzw HIn.out ?_; intro w3 hs3 ht3; rw [← HTS.out] at hs3; have HS3 := Lib.hid hs3; have HT3 := Lib.hid ht3; clear hs3 ht3)
          go_roundw
          case rel => exact ⟨k + 1, by go_num, by omega, HS3.out, ((Only.refl wr _).turned HT3.out (.inl rfl) : Only wr w3 (fun c => c = w1.heap.size)).below_new' HB1.out (Nat.le_refl _), HF2⟩
          case measure => simp [intOf]; omega
    · obtain rfl : k = o.length := by omega
      rw [List.take_length] at HS HF
      have hol : o.length ≤ 100 := by have := HF.out.len; omega
      clear HOw
      go_wp2_with fail
      go_loopw [56] (fun i wr => ∃ k : Nat, i = .int .i64 k ∧ k ≤ hs.length ∧ SetAt Try.prog 3 4 wr w1.heap.size o ∧ Below w1.heap.size w1 wr ∧ Hid (∀ i : Nat, i < k → (tx hs i).done = true → (i : Int) ∈ o)) (fun i _ => hs.length - (intOf i).toNat)
      case atStart => exact ⟨0, rfl, by omega, HS.out, HB1.out, Lib.hid (fun i hi => by omega)⟩
      case round =>
        obtain ⟨k, rfl, hk, hS, hB1, HAll⟩ := hrel
        clear HS HB1
        have HS := Lib.hid hS
        have HB1 := Lib.hid hB1
        have hsz := hB1.size
        have d1 : wr.cell? ⟨w.heap.size, 0, none⟩ = some (.slice A hs.length c) := (hB1.cell (p := ⟨w.heap.size, 0, none⟩) l1).trans c1
        clear hS hB1
        by_cases hlk : k < hs.length
        · obtain ⟨b, o', vr, vw, rfl, ha⟩ := HC.out k hlk
          obtain ⟨Ar, cr, rfl, hrm⟩ := ha.rd.r.shape
          obtain ⟨Aw, cw, rfl, hwm⟩ := ha.rd.w.shape
          obtain ⟨lt, _, q0, q1, q2, q3, q4, q5⟩ := ha.below (HB.out.trans (HB1.out.mono HB.out.size))
          obtain ⟨x, hx⟩ : ∃ x, x = tx hs k := ⟨_, rfl⟩
          rw [← hx] at q0 q1 q2 q3 q4 q5 hrm hwm
          have HX := Lib.hid hx
          have HB2 := Lib.hid (fun o => HB1.out.alloc hsz o)
          have HS2 := Lib.hid (fun o => HS.out.kept (Below.heap_alloc wr o _ HS.out.lt))
          have hkw : W64 (k : Int) := wfI (by omega) (by omega)
          have hlook := (HS2.out (.cells #[.int .i64 x.mode, .int .i64 x.snap, .bool x.done, .int .i64 x.stamp, .slice Ar x.reads.length cr, .slice Aw x.writes.length cw] 29)).look (t := 58) Try.underlying3 Try.underlying4 Try.underlying58 (zeroB _) hkw
          clear hx ha
          cases hd : x.done with
          | false =>
            have HAll2 : Hid (∀ i : Nat, i < k + 1 → (tx hs i).done = true → (i : Int) ∈ o) := Lib.hid (fun i hi h => by
              by_cases e : i = k
              · rw [e, ← HX.out, hd] at h; cases h
              · exact HAll.out i (by omega) h)
            rw [hd] at q2 hlook
            clear hd
            go_wp2_with fail
            go_roundw
            case rel => exact ⟨k + 1, by go_num, by omega, HS2.out _, HB2.out _, HAll2⟩
            case measure => simp [intOf]; omega
          | true =>
            by_cases hin : (k : Int) ∈ o
            · have HAll2 : Hid (∀ i : Nat, i < k + 1 → (tx hs i).done = true → (i : Int) ∈ o) := Lib.hid (fun i hi h => by
                by_cases e : i = k
                · rw [e]; exact hin
                · exact HAll.out i (by omega) h)
              rw [hd] at q2 hlook
              rw [decide_eq_true hin] at hlook
              clear hd hin
              go_wp2_with fail
              go_roundw
              case rel => exact ⟨k + 1, by go_num, by omega, HS2.out _, HB2.out _, HAll2⟩
              case measure => simp [intOf]; omega
            · have HR := Lib.hid (show equivL hs o = false by
                unfold equivL
                have : onceB hs o = false := by
                  cases e : onceB hs o with
                  | false => rfl
                  | true => exact absurd ((fine_of_once e).2 k (by rw [← HX.out]; exact hd)) hin
                rw [this]
                simp)
              rw [hd] at q2 hlook
              rw [decide_eq_false hin] at hlook
              clear hd hin
              go_wp2_with fail
              go_ret
              exact ⟨ret_bool HR.out.symm, HB.out.trans ((HB2.out _).mono HB.out.size)⟩
        · obtain rfl : k = hs.length := by omega
          have HOn := Lib.hid (once_of HF.out HAll.out)
          clear HS
          obtain ⟨ns, hns⟩ : ∃ ns, ns = o.map Int.toNat := ⟨_, rfl⟩
          have HEq := Lib.hid (show equivL hs o = equivB hs ns by unfold equivL; rw [HV.out, HOn.out, hns]; rfl)
          have hnl : ns.length = o.length := by rw [hns]; simp
          have HAt : Hid (∀ p, p < o.length → o.getD p 0 = ((ns.getD p 0 : Nat) : Int) ∧ ns.getD p 0 < hs.length) := Lib.hid (fun p hp => by
            have h1 := HF.out.ok _ (getD_mem' hp)
            have h2 : ns.getD p 0 = (o.getD p 0).toNat := by rw [hns]; simp [List.getD, List.getElem?_eq_getElem hp]
            rw [h2]
            omega)
          have HNl := Lib.hid hnl
          have HSt0 : Hid (EqSt w1 hs wr.heap.size 0 (beforeF hs (ns.take 0)) ((wr.alloc (.map #[] 0)).alloc (.cells #[.map (some wr.heap.size)] 74))) := Lib.hid (by
            refine ⟨?_, ?_, hsz, (HB1.out.alloc hsz _).alloc (by simp; omega) _⟩
            · have := Cells.made (wr.alloc (.map #[] 0)) 74 #[.map (some wr.heap.size)]
              rw [World.size_alloc] at this
              exact this
            · rw [List.take_zero, beforeF_nil]
              exact (MapAt.made wr Try.prog 3 3).alloc _)
          clear hns hnl
          obtain ⟨mb, hmb⟩ : ∃ mb, mb = wr.heap.size := ⟨_, rfl⟩
          rw [← hmb] at HSt0
          go_wp2_with fail
          rw [← hmb]
          clear hmb
          go_loopw [75] (fun i wr => ∃ p n : Nat, i = .int .i64 p ∧ p ≤ o.length ∧ n ≤ 64 * p ∧ EqSt w1 hs mb n (beforeF hs (ns.take p)) wr ∧ Hid (ReadsOk hs ns p)) (fun i _ => o.length - (intOf i).toNat)
          case atStart => exact ⟨0, 0, rfl, by omega, by omega, HSt0.out, Lib.hid (fun p' h => by omega)⟩
          case round =>
            obtain ⟨p, n, rfl, hp, hn, hst, HRo⟩ := hrel
            clear HSt0
            have HSt := Lib.hid hst
            have hB1 := hst.below
            have d1 : wr.cell? ⟨w.heap.size, 0, none⟩ = some (.slice A hs.length c) := (hB1.cell (p := ⟨w.heap.size, 0, none⟩) l1).trans c1
            clear hst hB1
            by_cases hpo : p < o.length
            · obtain ⟨ob, oo, rfl, hobl, hcell⟩ := HOc.out p hpo
              have hcz : wr.cell? ⟨ob, oo + p, none⟩ = some (.int .i64 (o.getD p 0)) := ((HB.out.trans (HSt.out.below.mono HB.out.size)).cell (p := ⟨ob, oo + p, none⟩) hobl).trans hcell
              rw [(HAt.out p hpo).1] at hcz
              have hil := (HAt.out p hpo).2
              obtain ⟨i, hi⟩ : ∃ i, i = ns.getD p 0 := ⟨_, rfl⟩
              rw [← hi] at hcz hil
              have HIe := Lib.hid hi
              obtain ⟨b, o', vr, vw, rfl, ha⟩ := HC.out i hil
              obtain ⟨Ar, cr, rfl, hrm⟩ := ha.rd.r.shape
              obtain ⟨Aw, cw, rfl, hwm⟩ := ha.rd.w.shape
              have HA := Lib.hid ha
              have a4 := (ha.below (HB.out.trans (HSt.out.below.mono HB.out.size))).c4
              clear hi hcell ha
              go_wp2_with fail
              go_loopw [85] (fun jv wr => ∃ j : Nat, jv = .int .i64 j ∧ j ≤ (tx hs i).reads.length ∧ EqSt w1 hs mb n (beforeF hs (ns.take p)) wr ∧ Hid (∀ x, x ∈ (tx hs i).reads.take j → beforeL hs (ns.take p) x = sourceL hs (tx hs i).snap x)) (fun jv _ => (tx hs i).reads.length - (intOf jv).toNat)
              case atStart => exact ⟨0, rfl, by omega, HSt.out, Lib.hid (fun x hx => (by cases hx))⟩
              case round =>
                obtain ⟨j, rfl, hj, hst, HRd⟩ := hrel
                clear HSt
                have HSt := Lib.hid hst
                have hB1 := hst.below
                have hsz := hB1.size
                have d1 : wr.cell? ⟨w.heap.size, 0, none⟩ = some (.slice (some ⟨b, o', none⟩) hs.length c) := (hB1.cell (p := ⟨w.heap.size, 0, none⟩) l1).trans c1
                have ha := HA.out.below (HB.out.trans (hB1.mono HB.out.size))
                have a1 := ha.c1
                have a5 := ha.c5
                have HRr := Lib.hid ha.rd.r
                have hbl := ha.lt
                clear hst hB1 ha
                by_cases hjr : j < (tx hs i).reads.length
                · obtain ⟨xb, xo, rfl, hxl, hxc⟩ := HRr.out.get hjr
                  have hxw := HRr.out.1 _ (getD_mem' hjr)
                  have HTS := Lib.hid (take_succ_getD hjr)
                  have HMem := Lib.hid (getD_mem' hjr)
                  obtain ⟨x, hx⟩ : ∃ x, x = (tx hs i).reads.getD j 0 := ⟨_, rfl⟩
                  rw [← hx] at hxc hxw HTS HMem
                  clear hx
                  obtain ⟨snap, hsn⟩ : ∃ snap, snap = (tx hs i).snap := ⟨_, rfl⟩
                  rw [← hsn] at a1 HRd
                  have HSn := Lib.hid hsn
                  clear hsn
                  obtain ⟨wo, rfl⟩ : ∃ wo : World, wo = wr := ⟨_, rfl⟩
                  have HRead : Hid (∀ W, Below wo.heap.size wo W → Calls Try.prog 58 #[.int .i64 x, .pointer (some ⟨mb + 1, 0, none⟩)] W fun e w' => e = .returned (.int .i64 (beforeL hs (ns.take p) x)) ∧ W = w') := Lib.hid fun W hW => by
                    have hk := HSt.out.keep hW
                    have := read_at (hk.box.cell 0) hk.map hxw
                    rwa [beforeF_getD] at this
                  have HVer : Hid (∀ W, Below wo.heap.size wo W → Calls Try.prog 56 #[.int .i64 x, .int .i64 snap, .pointer (some ⟨w.heap.size, 0, none⟩)] W fun e w' => e = .returned (.int .i64 (sourceL hs snap x)) ∧ Below wo.heap.size wo w' ∧ w'.cell? ⟨w.heap.size, 0, none⟩ = some (.slice (some ⟨b, o', none⟩) hs.length c) ∧ w'.cell? ⟨b, o' + i * 6 + 1, none⟩ = some (.int .i64 snap)) := Lib.hid fun W hW => by
                    have hW1 := HSt.out.below.trans (hW.mono HSt.out.below.size)
                    have d1W := (hW.cell (p := ⟨w.heap.size, 0, none⟩) (by simp; omega)).trans d1
                    have a1W := (hW.cell (p := ⟨b, o' + i * 6 + 1, none⟩) hbl).trans a1
                    refine (version_at (HK1.out.below hW1) HVal.out d1W (by have := hW.size; omega) hxw).mono ?_
                    rintro e w' ⟨rfl, hb⟩
                    exact ⟨rfl, hW.trans (hb.mono hW.size), (hb.cell (p := ⟨w.heap.size, 0, none⟩) (by have := hW.size; simp; omega)).trans d1W, (hb.cell (p := ⟨b, o' + i * 6 + 1, none⟩) (by have := hW.size; simp; omega)).trans a1W⟩
                  obtain ⟨B, hBe⟩ : ∃ B, B = beforeL hs (ns.take p) x := ⟨_, rfl⟩
                  obtain ⟨S, hSe⟩ : ∃ S, S = sourceL hs snap x := ⟨_, rfl⟩
                  rw [← hBe] at HRead
                  rw [← hSe] at HVer
                  have HBe := Lib.hid hBe
                  have HSe := Lib.hid hSe
                  clear hBe hSe a4
                  go_wp2_with fail
                  go_region_held3 (fun w' => w'.cell? ⟨w.heap.size, 0, none⟩ = some (.slice (some ⟨b, o', none⟩) hs.length c) ∧ w'.cell? ⟨b, o' + i * 6 + 1, none⟩ = some (.int .i64 snap)) (go_keep)
                    (first | (go_at_call_of 58 (Value.int .i64 x); refine (HRead.out _ ?_).mono ?_; (first | exact Below.refl _ _ | exact (Below.refl _ _).drew | assumption); rintro e wR ⟨rfl, rfl⟩) | (go_at_call_of 56 (Value.int .i64 x); refine (HVer.out _ ?_).mono ?_; (first | exact Below.refl _ _ | exact (Below.refl _ _).drew | assumption); rintro e wV ⟨rfl, hbV, kV1, kV2⟩))
                  all_goals
                    have HSt2 := Lib.hid (HSt.out.keep hbV)
                    clear hbV kV1 kV2 HRead HVer
                    by_cases hBS : B = S
                    · have HRd2 : Hid (∀ x', x' ∈ (tx hs i).reads.take (j + 1) → beforeL hs (ns.take p) x' = sourceL hs (tx hs i).snap x') := Lib.hid (fun x' hx' => by
                        rw [← HSn.out]
                        rw [HTS.out] at hx'
                        rcases List.mem_append.1 hx' with h | h
                        · exact HRd.out x' h
                        · simp only [List.mem_singleton] at h
                          rw [h, ← HBe.out, ← HSe.out]
                          exact hBS)
                      have hd : (B != S) = false := by simp [hBS]
                      clear hBS
                      go_wp2_with fail
                      go_roundw
                      case rel => exact ⟨j + 1, by go_num, by omega, HSt2.out, HRd2⟩
                      case measure => simp [intOf]; omega
                    · have HR := Lib.hid (show equivL hs o = false by
                        rw [HEq.out]
                        cases e : equivB hs ns with
                        | false => rfl
                        | true =>
                          exfalso
                          apply hBS
                          rw [HBe.out, HSe.out, HSn.out, HIe.out]
                          exact (equivB_iff'.1 e).1 p (by rw [HNl.out]; exact hpo) x (by rw [← HIe.out]; exact HMem.out))
                      have hd : (B != S) = true := by simp [hBS]
                      clear hBS
                      go_wp2_with fail
                      go_ret
                      exact ⟨ret_bool HR.out.symm, HB.out.trans (HSt2.out.below.mono HB.out.size)⟩
                · obtain rfl : j = (tx hs i).reads.length := by omega
                  have HRo2 : Hid (ReadsOk hs ns (p + 1)) := Lib.hid (fun p' hp' x hx => by
                    by_cases e : p' = p
                    · subst e
                      rw [← HIe.out] at hx ⊢
                      exact HRd.out x (by rw [List.take_length]; exact hx)
                    · exact HRo.out p' (by omega) x hx)
                  have hwn : (tx hs i).writes.length ≤ 64 := by have := HVal.out.items i hil; omega
                  have HSt0 : Hid (EqSt w1 hs mb n (midF hs (ns.take p) i 0) wr) := Lib.hid (by rw [midF_zero]; exact HSt.out)
                  have hiw : W64 (i : Int) := wfI (by omega) (by omega)
                  clear HRd HSt HRr
                  go_wp2_with fail
                  go_loopw [108] (fun jv wr => ∃ j n' : Nat, jv = .int .i64 j ∧ j ≤ (tx hs i).writes.length ∧ n' ≤ 64 * p + j ∧ EqSt w1 hs mb n' (midF hs (ns.take p) i j) wr) (fun jv _ => (tx hs i).writes.length - (intOf jv).toNat)
                  case atStart => exact ⟨0, n, rfl, by omega, by omega, HSt0.out⟩
                  case round =>
                    obtain ⟨j, n', rfl, hj, hn', hst⟩ := hrel
                    clear HSt0
                    have HSt := Lib.hid hst
                    have hB1 := hst.below
                    have hsz := hB1.size
                    have e1 : wr.cell? ⟨mb + 1, 0, none⟩ = some (.map (some mb)) := hst.box.cell 0
                    have HWr := Lib.hid ((HA.out.below (HB.out.trans (hB1.mono HB.out.size))).rd.w)
                    have hmlt := hst.map.lt
                    clear hst hB1
                    by_cases hjw : j < (tx hs i).writes.length
                    · obtain ⟨xb, xo, rfl, hxl, hxc⟩ := HWr.out.get hjw
                      have hxw := HWr.out.1 _ (getD_mem' hjw)
                      have HMid := Lib.hid (midF_succ (hs := hs) (o := ns.take p) (i := i) hjw)
                      obtain ⟨x, hx⟩ : ∃ x, x = (tx hs i).writes.getD j 0 := ⟨_, rfl⟩
                      rw [← hx] at hxc hxw HMid
                      clear hx HWr
                      go_wp2_with (at_mapUpdate; refine wpList_map_put rfl (.tmp 112) (.tmp 113) (.tmp 114) 74 rfl Try.underlying3 Try.underlying3 Try.underlying74 x i rfl rfl rfl HSt.out.map (by simp only [maxLen]; omega) hxw hiw ?_; intro w3 n3 hm3 hn3 ht3)
                      have hn4 : n3 ≤ 64 * p + (j + 1) := by split at hn3 <;> omega
                      have HSt3 : Hid (EqSt w1 hs mb n3 (midF hs (ns.take p) i (j + 1)) w3) := Lib.hid (by
                        have hg := ht3.grown
                        refine ⟨HSt.out.box.kept (hg.block _ HSt.out.box.lt (by simp)), by rw [HMid.out]; exact hm3, HSt.out.new, HSt.out.below.grown hg HSt.out.below.size (fun q hq => by cases hq; exact HSt.out.new)⟩)
                      clear hm3 hn3 ht3
                      go_roundw
                      case rel => exact ⟨j + 1, n3, by go_num, by omega, hn4, HSt3.out⟩
                      case measure => simp [intOf]; omega
                    · obtain rfl : j = (tx hs i).writes.length := by omega
                      have HStE : Hid (EqSt w1 hs mb n' (beforeF hs (ns.take (p + 1))) wr) := Lib.hid (by
                        have := HSt.out
                        rw [midF_all, HIe.out, ← nat_take (by rw [HNl.out]; exact hpo)] at this
                        exact this)
                      clear HSt
                      go_wp2_with fail
                      go_roundw
                      case rel => exact ⟨p + 1, n', by go_num, by omega, by omega, HStE.out, HRo2⟩
                      case measure => simp [intOf]; omega
            · obtain rfl : p = o.length := by omega
              have HStE : Hid (EqSt w1 hs mb n (beforeF hs ns) wr) := Lib.hid (by
                have := HSt.out
                rw [← HNl.out, List.take_length] at this
                exact this)
              have hmlt := HStE.out.map.lt
              have hbox := HStE.out.box.cell 0
              have hz := HStE.out.below.size
              clear HSt
              go_wp2_with (at_range; refine wpList_map_range rfl (.tmp 117) 74 rfl Try.underlying3 Try.underlying74 rfl HStE.out.map ?_; intro w3 hrg3 hg3 hs3)
              go_frame
              have hbl : mb + 1 < wr.heap.size := HStE.out.box.lt
              have HL0 : Hid (LastSt w1 hs mb wr.heap.size n ns w3) := Lib.hid ⟨_, _, hrg3, HStE.out.grown hg3 (fun q hq => (by cases hq)), fun x _ h1 h2 => by rw [h1] at h2; cases h2⟩
              clear hrg3 hg3 HStE
              go_loopw [119] (fun _ wr' => LastSt w1 hs mb wr.heap.size n ns wr') (fun _ wr' => wr'.rangeLeft mb wr.heap.size)
              case atStart => exact HL0.out
              case round =>
                obtain ⟨left, cnt, hrg, hst, hok⟩ := hrel
                clear HL0
                have HRg := Lib.hid hrg
                have HSt := Lib.hid hst
                have HOk := Lib.hid hok
                clear hrg hst hok
                go_wp2_with (at_next; refine wpList_map_next rfl (.tmp 118) rfl Try.underlying3 Try.underlying3 rfl HRg.out ?_ ?_)
                · intro _ hl0
                  have HR := Lib.hid (show equivL hs o = true by
                    rw [HEq.out, equivB_iff']
                    refine ⟨fun p hp => HRo.out p (by rw [← HNl.out]; exact hp), fun x hx => ?_⟩
                    obtain ⟨i, hi, hw⟩ := beforeF_some.1 hx
                    have hil : i < hs.length := tx_lt_of_mem hw
                    obtain ⟨_, _, _, _, _, ha⟩ := HC.out i hil
                    have hxw : W64 x := ha.rd.w.1 x hw
                    exact HOk.out x hxw hx (hl0 x hxw))
                  clear hl0
                  go_wp2_with fail
                  go_ret
                  exact ⟨ret_bool HR.out.symm, HB.out.trans (HSt.out.below.mono HB.out.size)⟩
                · intro x cc w4 cnt4 hx hcw hlx hfx hrg4 hlt4 hg4 hs4 hen
                  have HSt4 := Lib.hid (HSt.out.grown hg4 (fun q hq => by cases hq; exact hbl))
                  have hle := HRg.out.left_eq
                  have HRg4 := Lib.hid hrg4
                  have HFx := Lib.hid hfx
                  have hz4 := HSt4.out.below.size
                  clear hrg4 hg4 hlx hfx HSt HRg
                  have d4 : w4.cell? ⟨w.heap.size, 0, none⟩ = some (.slice A hs.length c) := (HSt4.out.below.cell (p := ⟨w.heap.size, 0, none⟩) l1).trans c1
                  have hRd := read_at (HSt4.out.box.cell 0) HSt4.out.map hx
                  rw [beforeF_getD] at hRd
                  have HRd := Lib.hid hRd
                  have HVr := Lib.hid (version_at (snap := 1073741824) (HK1.out.below HSt4.out.below) HVal.out d4 (by omega) hx)
                  obtain ⟨B, hBe⟩ : ∃ B, B = beforeL hs ns x := ⟨_, rfl⟩
                  obtain ⟨S, hSe⟩ : ∃ S, S = sourceL hs 1073741824 x := ⟨_, rfl⟩
                  rw [← hBe] at HRd
                  rw [← hSe] at HVr
                  have HBe := Lib.hid hBe
                  have HSe := Lib.hid hSe
                  clear hRd hBe hSe
                  go_wp2_with fail
                  refine HRd.out.mono ?_
                  rintro e w5 ⟨rfl, rfl⟩
                  go_wp2_with fail
                  refine HVr.out.mono ?_
                  rintro e w6 ⟨rfl, hb6⟩
                  have HSt6 := Lib.hid (HSt4.out.keep hb6)
                  have HRg6 := Lib.hid (HRg4.out.kept (hb6.block _ HRg4.out.map.lt) (hb6.block _ HRg4.out.lt))
                  have hle6 := HRg6.out.left_eq
                  clear hb6 HRd HVr
                  by_cases hBS : B = S
                  · have HOk6 : Hid (∀ y, W64 y → (beforeF hs ns y).isSome = true → (left y && !decide (y = x)) = false → beforeL hs ns y = sourceL hs 1073741824 y) := Lib.hid (fun y hy h1 h2 => by
                      by_cases e : y = x
                      · rw [e, ← HBe.out, ← HSe.out]; exact hBS
                      · exact HOk.out y hy h1 (by simpa [e] using h2))
                    have hd : (B != S) = false := by simp [hBS]
                    clear hBS
                    go_wp2_with fail
                    go_roundw
                    case rel => exact ⟨_, cnt4, HRg6.out, HSt6.out, HOk6.out⟩
                    case measure => rw [hle, hle6]; exact hlt4
                  · have HR := Lib.hid (show equivL hs o = false by
                      rw [HEq.out]
                      cases e : equivB hs ns with
                      | false => rfl
                      | true =>
                        exfalso
                        apply hBS
                        rw [HBe.out, HSe.out]
                        exact (equivB_iff'.1 e).2 x (by rw [HFx.out]; rfl))
                    have hd : (B != S) = true := by simp [hBS]
                    clear hBS
                    go_wp2_with fail
                    go_ret
                    exact ⟨ret_bool HR.out.symm, HB.out.trans (HSt6.out.below.mono HB.out.size)⟩
end Go.Proofs.Ytlfpkikmofgjfaa
