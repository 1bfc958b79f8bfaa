/- The walks of Equivalent's closures. -/
import Derived.Test.YtlfpkikmofgjfaaWalkP
namespace Go.Proofs.Ytlfpkikmofgjfaa
open Go.RowKit
open Go.Maps (Keyed)

theorem MapAt.look_ok {P : Program} {k e t : TypeId} {w : World} {b n : Nat} {f : Int → Option Int} (h : MapAt P k e w b n f) (hk : P.underlying k = some (.int .i64)) (he : P.underlying e = some (.int .i64)) (ht : P.underlying t = some (.map k e)) (hz : (zeroValue e).run P w = .ok (.int .i64 0) w) {x : Int} (hx : (Lit.int .i64 x).wf = true) :
    (Instr.lookup t (.map (some b)) (.int .i64 x) true).run P w = .ok (.tuple #[.int .i64 ((f x).getD 0), .bool (f x).isSome]) w := by
  obtain ⟨D, ho, _, hD⟩ := h
  obtain ⟨v, ps, hrun, hv⟩ := ho.look_ok (Maps.int_keyed hk) ht hz (plainElem_int he (by decide)) (Maps.keyOf_int_mk hk hx)
  obtain ⟨y, rfl, hy, _⟩ := plainElem_int_inv he hv
  have h2 : D.atKey (.int .i64 x) (.lit (.int .i64 0)) = .lit (.int .i64 y) := congrArg Prod.fst hy
  rw [(hD x hx).1] at h2
  rw [lit_int_inj h2, ← (hD x hx).2]
  exact hrun
theorem read_at {w : World} {sb mb n : Nat} {f : Int → Option Int} {x : Int} (hc : w.cell? ⟨sb, 0, none⟩ = some (.map (some mb))) (hm : MapAt Try.prog 3 3 w mb n f) (hx : W64 x) :
    Calls Try.prog 58 #[.int .i64 x, .pointer (some ⟨sb, 0, none⟩)] w fun e w' => e = .returned (.int .i64 ((f x).getD (-1))) ∧ w = w' := by
  have hlook := hm.look_ok (t := 74) Try.underlying3 Try.underlying3 Try.underlying74 (zeroI w) hx
  clear hm
  cases hf : f x with
  | none =>
    rw [hf] at hlook
    simp only [Option.getD_none, Option.isSome_none] at hlook
    clear hf
    go_enter Try.func58, Try.ntmps58
    go_wp2_with fail
    go_ret
    exact ⟨rfl, rfl⟩
  | some y =>
    rw [hf] at hlook
    simp only [Option.getD_some, Option.isSome_some] at hlook
    clear hf
    go_enter Try.func58, Try.ntmps58
    go_wp2_with fail
    go_ret
    exact ⟨rfl, rfl⟩
/-- The writer whose version is read, among the first. -/
def srcTo (hs : List Acc) (snap x : Int) (k : Nat) : Int := (List.range k).foldl (srcStep hs snap x) (-1)
theorem srcTo_succ (hs : List Acc) (snap x : Int) (k : Nat) : srcTo hs snap x (k + 1) = srcStep hs snap x (srcTo hs snap x k) k := by
  unfold srcTo
  rw [List.range_succ, List.foldl_append]
  rfl
def stampOf (hs : List Acc) (b : Int) : Int := if b < 0 then 0 else (tx hs b.toNat).stamp
theorem srcTo_ge (hs : List Acc) (snap x : Int) : ∀ k, -1 ≤ srcTo hs snap x k
  | 0 => by simp [srcTo]
  | k + 1 => by
    rw [srcTo_succ]
    unfold srcStep
    split
    · omega
    · exact srcTo_ge hs snap x k
theorem src_take {hs : List Acc} {snap x b : Int} {k : Nat} (hw : (tx hs k).writer = true) (h1 : (tx hs k).stamp ≤ snap) (h2 : stampOf hs b < (tx hs k).stamp) (h3 : x ∈ (tx hs k).writes) : srcStep hs snap x b k = k := by
  unfold srcStep
  rw [if_pos]
  refine ⟨h3, (Acc.writer_iff.1 hw).1, h1, ?_⟩
  unfold stampOf at h2
  by_cases hb : b < 0
  · exact .inl hb
  · rw [if_neg hb] at h2
    exact .inr h2
theorem src_skip {hs : List Acc} {snap x b : Int} {k : Nat} (hv : Valid hs) (h : (tx hs k).writer = false ∨ ¬ (tx hs k).stamp ≤ snap ∨ ¬ stampOf hs b < (tx hs k).stamp ∨ x ∉ (tx hs k).writes) : srcStep hs snap x b k = b := by
  unfold srcStep
  rw [if_neg]
  rintro ⟨h3, hd, h1, h2⟩
  have hw : (tx hs k).writer = true := Acc.writer_iff.2 ⟨hd, fun e => by rw [e] at h3; cases h3⟩
  rcases h with h | h | h | h
  · rw [hw] at h; cases h
  · exact h h1
  · apply h
    unfold stampOf
    have hf := hv.at (tx_lt hd)
    have := hf.writer hw
    have := hf.snap
    split
    · omega
    · omega
  · exact h h3
set_option maxRecDepth 100000 in
set_option maxHeartbeats 2000000 in
theorem version_at {w : World} {v : Value} {hs : List Acc} {hb : Nat} {x snap : Int} (hh : Hist w v hs) (hv : Valid hs) (hc1 : w.cell? ⟨hb, 0, none⟩ = some v) (_hbl : hb < w.heap.size) (_hx : W64 x) :
    Calls Try.prog 56 #[.int .i64 x, .int .i64 snap, .pointer (some ⟨hb, 0, none⟩)] w fun e w' => e = .returned (.int .i64 (sourceL hs snap x)) ∧ Below w.heap.size w w' := by
  obtain ⟨A, c, rfl, hm, hcap, hc⟩ := hh.shape
  have HC := Lib.hid hc
  have HV := Lib.hid hv
  clear hh hc hv
  go_enter Try.func56, Try.ntmps56
  go_wp2_with fail
  go_loopw [6, 7, 12] (fun best stamp i wr => ∃ k : Nat, i = .int .i64 k ∧ k ≤ hs.length ∧ best = .int .i64 (srcTo hs snap x k) ∧ stamp = .int .i64 (stampOf hs (srcTo hs snap x k)) ∧ Below w.heap.size w wr) (fun _ _ i _ => hs.length - (intOf i).toNat)
  case atStart => exact ⟨0, rfl, by omega, rfl, rfl, Below.refl _ _⟩
  case round =>
    obtain ⟨k, rfl, hk, rfl, rfl, hB⟩ := hrel
    have HB := Lib.hid hB
    have hsz := hB.size
    clear hB
    by_cases hlk : k < hs.length
    · obtain ⟨b, o, vr, vw, rfl, ha⟩ := HC.out k hlk
      obtain ⟨Ar, cr, rfl, hrm⟩ := ha.rd.r.shape
      obtain ⟨Aw, cw, rfl, hwm⟩ := ha.rd.w.shape
      obtain ⟨lt, hrd, c0, c1, c2, c3, c4, c5⟩ := ha.below HB.out
      have HRd := Lib.hid hrd
      have HS := Lib.hid (srcTo_succ hs snap x k)
      have hge := srcTo_ge hs snap x k
      obtain ⟨B, hBe⟩ : ∃ B, B = srcTo hs snap x k := ⟨_, rfl⟩
      obtain ⟨S, hSe⟩ : ∃ S, S = stampOf hs B := ⟨_, rfl⟩
      rw [← hBe] at HS hge ⊢
      rw [← hSe]
      have HSe := Lib.hid hSe
      have HTk := Lib.hid (src_take (hs := hs) (snap := snap) (x := x) (b := B) (k := k))
      have HSk := Lib.hid (src_skip (hs := hs) (snap := snap) (x := x) (b := B) (k := k) HV.out)
      rw [← hSe] at HTk HSk
      have HSt : Hid (stampOf hs (k : Int) = (tx hs k).stamp) := Lib.hid (by unfold stampOf; rw [if_neg (by omega)]; simp)
      obtain ⟨y, hy⟩ : ∃ y, y = tx hs k := ⟨_, rfl⟩
      rw [← hy] at c0 c1 c2 c3 c4 c5 HRd hrm hwm HTk HSk HSt
      clear hrd ha hy hBe hSe
      go_wp2_with fail
      refine (writes_any (HRd.out.below ((Below.refl _ _).alloc (Nat.le_refl _) _))).mono ?_
      rintro e w3 ⟨rfl, hb3⟩
      have hY := Cells.made wr 29 #[.int .i64 y.mode, .int .i64 y.snap, .bool y.done, .int .i64 y.stamp, .slice Ar y.reads.length cr, .slice Aw y.writes.length cw]
      have hY3 := hY.kept (hb3.block _ hY.lt)
      have y3 : w3.cell? ⟨wr.heap.size, 3, none⟩ = some (.int .i64 y.stamp) := hY3.cell 3
      have y5 : w3.cell? ⟨wr.heap.size, 5, none⟩ = some (.slice Aw y.writes.length cw) := hY3.cell 5
      have hs3 := hb3.size
      simp only [World.size_alloc] at hs3
      have HB3 := Lib.hid ((HB.out.alloc hsz _).trans (hb3.mono (by simp; omega)))
      have HRd3 := Lib.hid ((HRd.out.below ((Below.refl _ _).alloc (Nat.le_refl _) _)).below hb3)
      clear hb3 hY hY3 c0 c1 c2 c3 c4 c5
      by_cases hw : y.writer = true
      · by_cases h1 : y.stamp ≤ snap
        · by_cases h2 : S < y.stamp
          · rw [hw]
            go_wp2_with fail
            refine (contains_any x HRd3.out.w).mono ?_
            rintro e w4 ⟨rfl, rfl⟩
            by_cases h3 : x ∈ y.writes
            · have HN := Lib.hid (HTk.out hw h1 h2 h3)
              have hdec : decide (x ∈ y.writes) = true := decide_eq_true h3
              rw [hdec]
              clear h3 hw hdec
              go_wp2_with fail
              go_quiet (fail)
              go_wp2_with fail
              go_roundw
              case rel => exact ⟨k + 1, by go_num, by omega, by rw [HS.out, HN.out], by rw [HS.out, HN.out, HSt.out], Below.drewN' HB3.out _⟩
              case measure => simp [intOf]; omega
            · have HN := Lib.hid (HSk.out (.inr (.inr (.inr h3))))
              have hdec : decide (x ∈ y.writes) = false := decide_eq_false h3
              rw [hdec]
              clear h3 hw hdec
              go_wp2_with fail
              go_roundw
              case rel => exact ⟨k + 1, by go_num, by omega, by rw [HS.out, HN.out], by rw [HS.out, HN.out, HSe.out], HB3.out⟩
              case measure => simp [intOf]; omega
          · have HN := Lib.hid (HSk.out (.inr (.inr (.inl (by omega)))))
            have h2' : y.stamp ≤ S := by omega
            rw [hw]
            clear hw
            go_wp2_with fail
            go_roundw
            case rel => exact ⟨k + 1, by go_num, by omega, by rw [HS.out, HN.out], by rw [HS.out, HN.out, HSe.out], HB3.out⟩
            case measure => simp [intOf]; omega
        · have HN := Lib.hid (HSk.out (.inr (.inl (by omega))))
          have h1' : snap < y.stamp := by omega
          rw [hw]
          clear hw
          go_wp2_with fail
          go_roundw
          case rel => exact ⟨k + 1, by go_num, by omega, by rw [HS.out, HN.out], by rw [HS.out, HN.out, HSe.out], HB3.out⟩
          case measure => simp [intOf]; omega
      · have hwf : y.writer = false := by simpa using hw
        have HN := Lib.hid (HSk.out (.inl hwf))
        rw [hwf]
        clear hw hwf
        go_wp2_with fail
        go_roundw
        case rel => exact ⟨k + 1, by go_num, by omega, by rw [HS.out, HN.out], by rw [HS.out, HN.out, HSe.out], HB3.out⟩
        case measure => simp [intOf]; omega
    · obtain rfl : k = hs.length := by omega
      go_wp2_with fail
      go_ret
      exact ⟨rfl, HB.out⟩
end Go.Proofs.Ytlfpkikmofgjfaa
