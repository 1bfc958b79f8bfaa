/- The reference's walks of before, source, Once. -/
import Derived.Test.YtlfpkikmofgjfaaRefF
import Derived.Test.YtlfpkikmofgjfaaPlace
namespace Go.Proofs.Ytlfpkikmofgjfaa
open Go.RowKit

theorem natV_getD' {q : List Nat} {j : Nat} (h : j < q.length) : (natV q).getD j 0 = ((q.getD j 0 : Nat) : Int) := by simp [natV, List.getD, List.getElem?_eq_getElem h]
theorem natV_length' (q : List Nat) : (natV q).length = q.length := by simp [natV]
theorem take_snoc' {t : List Nat} {k : Nat} (hk : k < t.length) : t.take (k + 1) = t.take k ++ [t.getD k 0] := by
  rw [List.take_add_one, List.getD, List.getElem?_eq_getElem hk]
  simp
theorem beforeL_bd (h : List Acc) (o : List Nat) (x : Int) : beforeL h o x = -1 ∨ ∃ n : Nat, beforeL h o x = n ∧ n ∈ o := by
  rcases before_spec h x o with ⟨e, _⟩ | ⟨a, s, b, e, h2, _⟩
  · exact .inl e
  · exact .inr ⟨s, h2, by rw [e]; simp⟩
set_option maxRecDepth 100000 in
set_option maxHeartbeats 1000000 in
theorem rbefore_any {w : World} {v ov : Value} {hs : List Acc} {t : List Nat} (h : Hist w v hs) (ho : Ints w ov (natV t)) (ht : ∀ i, i ∈ t → i < hs.length) (n : Nat) (hn : n ≤ t.length) (x : Int) :
    Calls Try.prog 72 #[v, ov, .int .i64 n, .int .i64 x] w fun e w' => e = .returned (.int .i64 (beforeL hs (t.take n) x)) ∧ ∃ m, w' = w.drewN m := by
  obtain ⟨A, c, rfl, hm, hcap, hc⟩ := h.shape
  have HC := Lib.hid hc
  obtain ⟨_, B, d, rfl, hm2, hdap, hoc⟩ := ho
  rw [natV_length'] at hm2 hdap hoc ⊢
  have HO := Lib.hid hoc
  have HT := Lib.hid ht
  clear h hc hoc ht
  generalize hL : t.length = L at *
  have HL := Lib.hid hL
  clear hL
  go_enter Try.func72, Try.ntmps72
  go_wp2_with fail
  go_loopw [9, 10] (fun b i wr => ∃ (k m : Nat) (s : Int), i = .int .i64 k ∧ k ≤ n ∧ b = .int .i64 s ∧ Hid (s = beforeL hs (t.take k) x) ∧ wr = w.drewN m) (fun _ i _ => n - (intOf i).toNat)
  case atStart => exact ⟨0, 0, -1, rfl, by omega, rfl, Lib.hid (by simp [beforeL]), rfl⟩
  case round =>
    obtain ⟨k, m, s, rfl, hk, rfl, HS, rfl⟩ := hrel
    by_cases hlk : k < n
    · obtain ⟨ob, oo, rfl, hob, hoc⟩ := HO.out k (by omega)
      rw [natV_getD' (by rw [HL.out]; omega)] at hoc
      have hy : t.getD k 0 < hs.length := HT.out _ (Bfs.getD_mem (by rw [HL.out]; omega))
      obtain ⟨b, o, vr, vw, rfl, ha⟩ := HC.out _ hy
      have HHas := Lib.hid (has_any x (ha.rd.w.drewN m))
      have c5 := ha.c5
      have HSt := Lib.hid (show beforeL hs (t.take (k + 1)) x = if x ∈ (tx hs (t.getD k 0)).writes then ((t.getD k 0 : Nat) : Int) else beforeL hs (t.take k) x by
        rw [take_snoc' (by rw [HL.out]; omega), beforeL_snoc])
      clear ha
      generalize t.getD k 0 = y at *
      by_cases hin : x ∈ (tx hs y).writes
      · rw [decide_eq_true hin] at HHas
        rw [if_pos hin] at HSt
        have HSn : Hid ((y : Int) = beforeL hs (t.take (k + 1)) x) := Lib.hid HSt.out.symm
        clear hin HSt
        go_wp2_with fail
        refine HHas.out.mono ?_
        rintro e w1 ⟨rfl, q, rfl⟩
        go_wp2_with fail
        go_roundw
        case rel => exact ⟨k + 1, _, _, by go_num, by omega, rfl, HSn, rfl⟩
        case measure => simp [intOf]; omega
      · rw [decide_eq_false hin] at HHas
        rw [if_neg hin] at HSt
        have HSn : Hid (s = beforeL hs (t.take (k + 1)) x) := Lib.hid (by rw [HSt.out]; exact HS.out)
        clear hin HSt
        go_wp2_with fail
        refine HHas.out.mono ?_
        rintro e w1 ⟨rfl, q, rfl⟩
        go_wp2_with fail
        go_roundw
        case rel => exact ⟨k + 1, _, s, by go_num, by omega, rfl, HSn, rfl⟩
        case measure => simp [intOf]; omega
    · obtain rfl : k = n := by omega
      go_wp2_with fail
      go_ret
      exact ⟨ret_int HS.out, _, rfl⟩
theorem srcTo_bd (h : List Acc) (snap x : Int) : ∀ k, srcTo h snap x k = -1 ∨ ∃ n : Nat, srcTo h snap x k = n ∧ n < k
  | 0 => .inl rfl
  | k + 1 => by
    rw [srcTo_succ]
    unfold srcStep
    split
    · exact .inr ⟨k, rfl, by omega⟩
    · rcases srcTo_bd h snap x k with e | ⟨n, e, hn⟩
      · exact .inl e
      · exact .inr ⟨n, e, by omega⟩
theorem writer_of_mem {a : Acc} {x : Int} (h : x ∈ a.writes) : a.writer = a.done := by
  unfold Acc.writer
  cases hw : a.writes with
  | nil => rw [hw] at h; cases h
  | cons y l => simp
set_option maxRecDepth 100000 in
set_option maxHeartbeats 2000000 in
theorem rsource_any {w : World} {v : Value} {hs : List Acc} (h : Hist w v hs) (snap x : Int) :
    Calls Try.prog 73 #[v, .int .i64 snap, .int .i64 x] w fun e w' => e = .returned (.int .i64 (sourceL hs snap x)) ∧ Below w.heap.size w w' := by
  obtain ⟨A, c, rfl, hm, hcap, hc⟩ := h.shape
  have HC := Lib.hid hc
  have HR := Lib.hid (show sourceL hs snap x = srcTo hs snap x hs.length from rfl)
  clear h hc
  go_enter Try.func73, Try.ntmps73
  go_wp2_with fail
  go_loopw [7, 8] (fun b i wr => ∃ (k : Nat) (s : Int), i = .int .i64 k ∧ k ≤ hs.length ∧ b = .int .i64 s ∧ Hid (s = srcTo hs snap x k) ∧ Hid (Below w.heap.size w wr)) (fun _ i _ => hs.length - (intOf i).toNat)
  case atStart => exact ⟨0, -1, rfl, by omega, rfl, Lib.hid rfl, Lib.hid (Below.refl _ _)⟩
  case round =>
    obtain ⟨k, s, rfl, hk, rfl, HS, HB⟩ := hrel
    by_cases hlk : k < hs.length
    · obtain ⟨b, o, vr, vw, rfl, ha⟩ := HC.out k hlk
      have ha1 := ha.below HB.out
      have HHas := Lib.hid (has_any x ha1.rd.w)
      have HWr : Hid (∀ n, Calls Try.prog 76 #[accV (tx hs k) vr vw] (wr.drewN n) fun e w' => e = .returned (.bool (tx hs k).writer) ∧ Below (wr.drewN n).heap.size (wr.drewN n) w') := Lib.hid fun n => writer_any (ha1.rd.below (below_of_drewN wr n))
      have HSt := Lib.hid (srcTo_succ hs snap x k)
      have hbd := srcTo_bd hs snap x k
      rw [← HS.out] at hbd
      obtain ⟨_, _, c0, c1, c2, c3, c4, c5⟩ := ha1
      have hbl : b < wr.heap.size := by have := ha.lt; have := HB.out.size; omega
      have HAt : Hid (∀ j, j < hs.length → wr.cell? ⟨b, o + j * 6 + 3, none⟩ = some (.int .i64 (tx hs j).stamp)) := Lib.hid fun j hj => by
        obtain ⟨b', o', vr', vw', e', hj'⟩ := HC.out j hj
        injection e' with e'
        injection e' with e1 e2
        subst e1 e2
        exact (hj'.below HB.out).c3
      have HAtk := Lib.hid (HAt.out k hlk)
      clear ha
      have hmem := @writer_of_mem (tx hs k) x
      have HX : Hid (srcStep hs snap x s k = if x ∈ (tx hs k).writes ∧ (tx hs k).done = true ∧ (tx hs k).stamp ≤ snap ∧ (s < 0 ∨ (tx hs s.toNat).stamp < (tx hs k).stamp) then (k : Int) else s) := Lib.hid rfl
      rw [← HS.out] at HSt
      unfold accV at HWr
      by_cases hin : x ∈ (tx hs k).writes
      case neg =>
        rw [decide_eq_false hin] at HHas
        have HSn : Hid (s = srcTo hs snap x (k + 1)) := Lib.hid (by rw [HSt.out, HX.out, if_neg (fun h => hin h.1)])
        generalize (tx hs k).writer = wb at *
        clear hin hmem HX HSt hbd
        go_wp2_with fail
        refine HHas.out.mono ?_
        rintro e w1 ⟨rfl, q, rfl⟩
        go_wp2_with fail
        refine (HWr.out q).mono ?_
        rintro e w2 ⟨rfl, hb⟩
        have HB2 := Lib.hid (HB.out.trans ((Below.drewN' (Below.refl _ _) q).trans hb |>.mono HB.out.size))
        clear hb
        go_wp2_with fail
        go_quiet (fail)
        go_wp2_with fail
        go_roundw
        case rel => exact ⟨k + 1, s, by go_num, by omega, rfl, HSn, Lib.hid (Below.drewN' HB2.out _)⟩
        case measure => simp [intOf]; omega
      rw [decide_eq_true hin] at HHas
      rw [hmem hin] at HWr
      have HAll : Hid (∀ W : World, Below w.heap.size w W → ∀ j, j < hs.length → W.cell? ⟨b, o + j * 6 + 3, none⟩ = some (.int .i64 (tx hs j).stamp)) := Lib.hid fun W hW j hj => by
        obtain ⟨b', o', vr', vw', e', hj'⟩ := HC.out j hj
        injection e' with e'
        injection e' with e1 e2
        subst e1 e2
        exact (hj'.below hW).c3
      have HKeep : Hid (¬ ((tx hs k).done = true ∧ (tx hs k).stamp ≤ snap ∧ (s < 0 ∨ (tx hs s.toNat).stamp < (tx hs k).stamp)) → s = srcTo hs snap x (k + 1)) := Lib.hid fun h => by rw [HSt.out, HX.out, if_neg (fun h' => h h'.2)]
      have HTake : Hid ((tx hs k).done = true → (tx hs k).stamp ≤ snap → (s < 0 ∨ (tx hs s.toNat).stamp < (tx hs k).stamp) → (k : Int) = srcTo hs snap x (k + 1)) := Lib.hid fun h1 h2 h3 => by rw [HSt.out, HX.out, if_pos ⟨hin, h1, h2, h3⟩]
      have HAk : Hid (∀ W : World, Below w.heap.size w W → W.cell? ⟨b, o + k * 6 + 3, none⟩ = some (.int .i64 (tx hs k).stamp)) := Lib.hid fun W hW => HAll.out W hW k hlk
      clear hmem HX HSt hin HAt HAtk
      generalize (tx hs k).done = dn at *
      generalize (tx hs k).stamp = st at *
      cases dn
      · have HSn := Lib.hid (HKeep.out (fun h => by cases h.1))
        clear HKeep HTake hbd
        go_wp2_with fail
        refine HHas.out.mono ?_
        rintro e w1 ⟨rfl, q, rfl⟩
        go_wp2_with fail
        refine (HWr.out q).mono ?_
        rintro e w2 ⟨rfl, hb⟩
        have HB2 := Lib.hid (HB.out.trans ((Below.drewN' (Below.refl _ _) q).trans hb |>.mono HB.out.size))
        clear hb
        have g3 := HAk.out w2 HB2.out
        go_wp2_with fail
        go_quiet (fail)
        go_wp2_with fail
        go_roundw
        case rel => exact ⟨k + 1, s, by go_num, by omega, rfl, HSn, Lib.hid (Below.drewN' HB2.out _)⟩
        case measure => simp [intOf]; omega
      by_cases hle : st ≤ snap
      case neg =>
        have hlb : decide (st ≤ snap) = false := decide_eq_false hle
        have HSn := Lib.hid (HKeep.out (fun h => hle h.2.1))
        clear HKeep HTake hbd
        go_wp2_with fail
        refine HHas.out.mono ?_
        rintro e w1 ⟨rfl, q, rfl⟩
        go_wp2_with fail
        refine (HWr.out q).mono ?_
        rintro e w2 ⟨rfl, hb⟩
        have HB2 := Lib.hid (HB.out.trans ((Below.drewN' (Below.refl _ _) q).trans hb |>.mono HB.out.size))
        clear hb
        have g3 := HAk.out w2 HB2.out
        go_wp2_with fail
        go_quiet (fail)
        go_wp2_with fail
        go_roundw
        case rel => exact ⟨k + 1, s, by go_num, by omega, rfl, HSn, Lib.hid (Below.drewN' HB2.out _)⟩
        case measure => simp [intOf]; omega
      have hlb : decide (st ≤ snap) = true := decide_eq_true hle
      rcases hbd with rfl | ⟨n, rfl, hnk⟩
      · have HSn := Lib.hid (HTake.out rfl hle (.inl (by omega)))
        clear HKeep HTake
        go_wp2_with fail
        refine HHas.out.mono ?_
        rintro e w1 ⟨rfl, q, rfl⟩
        go_wp2_with fail
        refine (HWr.out q).mono ?_
        rintro e w2 ⟨rfl, hb⟩
        have HB2 := Lib.hid (HB.out.trans ((Below.drewN' (Below.refl _ _) q).trans hb |>.mono HB.out.size))
        clear hb
        have g3 := HAk.out w2 HB2.out
        go_wp2_with fail
        go_quiet (fail)
        go_wp2_with fail
        go_roundw
        case rel => exact ⟨k + 1, k, by go_num, by omega, rfl, HSn, Lib.hid (Below.drewN' HB2.out _)⟩
        case measure => simp [intOf]; omega
      have hn0 : decide ((n : Int) < 0) = false := decide_eq_false (by omega)
      have hnl : n < hs.length := by omega
      rw [Int.toNat_natCast] at HKeep HTake
      have HAn : Hid (∀ W : World, Below w.heap.size w W → W.cell? ⟨b, o + n * 6 + 3, none⟩ = some (.int .i64 (tx hs n).stamp)) := Lib.hid fun W hW => HAll.out W hW n hnl
      generalize (tx hs n).stamp = sn at *
      by_cases hlt : sn < st
      · have htb : decide (sn < st) = true := decide_eq_true hlt
        have HSn := Lib.hid (HTake.out rfl hle (.inr hlt))
        clear HKeep HTake
        go_wp2_with fail
        refine HHas.out.mono ?_
        rintro e w1 ⟨rfl, q, rfl⟩
        go_wp2_with fail
        refine (HWr.out q).mono ?_
        rintro e w2 ⟨rfl, hb⟩
        have HB2 := Lib.hid (HB.out.trans ((Below.drewN' (Below.refl _ _) q).trans hb |>.mono HB.out.size))
        clear hb
        have g3 := HAk.out w2 HB2.out
        have gn := HAn.out w2 HB2.out
        go_wp2_with fail
        go_quiet (fail)
        go_wp2_with fail
        go_roundw
        case rel => exact ⟨k + 1, k, by go_num, by omega, rfl, HSn, Lib.hid (Below.drewN' HB2.out _)⟩
        case measure => simp [intOf]; omega
      · have htb : decide (sn < st) = false := decide_eq_false hlt
        have HSn := Lib.hid (HKeep.out (fun h => by rcases h.2.2 with h | h; omega; exact hlt h))
        clear HKeep HTake
        go_wp2_with fail
        refine HHas.out.mono ?_
        rintro e w1 ⟨rfl, q, rfl⟩
        go_wp2_with fail
        refine (HWr.out q).mono ?_
        rintro e w2 ⟨rfl, hb⟩
        have HB2 := Lib.hid (HB.out.trans ((Below.drewN' (Below.refl _ _) q).trans hb |>.mono HB.out.size))
        clear hb
        have g3 := HAk.out w2 HB2.out
        have gn := HAn.out w2 HB2.out
        go_wp2_with fail
        go_quiet (fail)
        go_wp2_with fail
        go_roundw
        case rel => exact ⟨k + 1, n, by go_num, by omega, rfl, HSn, Lib.hid (Below.drewN' HB2.out _)⟩
        case measure => simp [intOf]; omega
    · obtain rfl : k = hs.length := by omega
      go_wp2_with fail
      go_ret
      exact ⟨ret_int (by rw [HR.out]; exact HS.out), HB.out⟩
end Go.Proofs.Ytlfpkikmofgjfaa
