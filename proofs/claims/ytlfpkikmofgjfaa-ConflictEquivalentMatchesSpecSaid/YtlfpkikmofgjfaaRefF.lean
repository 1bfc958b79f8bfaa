/- The reference's walks of committed and next. -/
import Derived.Test.YtlfpkikmofgjfaaRefB
import Derived.Deep.OwnRows
namespace Go.Proofs.Ytlfpkikmofgjfaa
open Go.RowKit

def countTo (h : List Acc) (k : Nat) : Nat := (List.range k).countP fun i => (tx h i).done
theorem countTo_step (h : List Acc) (k : Nat) : countTo h (k + 1) = countTo h k + if (tx h k).done = true then 1 else 0 := by
  unfold countTo
  rw [List.range_succ, List.countP_append]
  simp [List.countP_cons]
theorem countTo_le (h : List Acc) (k : Nat) : countTo h k ≤ k := by
  unfold countTo
  refine Nat.le_trans List.countP_le_length (by simp)
set_option maxRecDepth 100000 in
set_option maxHeartbeats 1000000 in
theorem rcommitted_any {w : World} {v : Value} {hs : List Acc} (h : Hist w v hs) :
    Calls Try.prog 66 #[v] w fun e w' => e = .returned (.int .i64 (committed hs : Nat)) ∧ w = w' := by
  obtain ⟨A, c, rfl, hm, hcap, hc⟩ := h.shape
  have HC := Lib.hid hc
  have HR := Lib.hid (show committed hs = countTo hs hs.length from rfl)
  have HSt := Lib.hid (countTo_step hs)
  have HLe := Lib.hid (countTo_le hs)
  clear hc h
  go_enter Try.func66, Try.ntmps66
  go_wp2_with fail
  go_loop [3, 4] (fun n i => ∃ k m : Nat, i = .int .i64 k ∧ k ≤ hs.length ∧ n = .int .i64 m ∧ Hid (m = countTo hs k) ∧ m ≤ k) (fun _ i => hs.length - (intOf i).toNat)
  case atStart => exact ⟨0, 0, rfl, by omega, rfl, Lib.hid rfl, by omega⟩
  case round =>
    obtain ⟨k, m, rfl, hk, rfl, HM, hmk⟩ := hrel
    by_cases hlk : k < hs.length
    · obtain ⟨b, o, vr, vw, rfl, ha⟩ := HC.out k hlk
      have hst := HSt.out k
      have c2 := ha.c2
      generalize (tx hs k).done = d at *
      cases d
      · have HM1 : Hid (m = countTo hs (k + 1)) := Lib.hid (by rw [hst, HM.out]; simp)
        clear hst ha
        go_wp2_with fail
        go_round
        case rel => exact ⟨k + 1, m, by go_num, by omega, rfl, HM1, by omega⟩
        case measure => simp [intOf]; omega
      · have HM1 : Hid (m + 1 = countTo hs (k + 1)) := Lib.hid (by rw [hst, HM.out]; simp)
        clear hst ha
        go_wp2_with fail
        go_round
        case rel => exact ⟨k + 1, m + 1, by go_num, by omega, by go_num, HM1, by omega⟩
        case measure => simp [intOf]; omega
    · obtain rfl : k = hs.length := by omega
      go_wp2_with fail
      go_ret
      exact ⟨ret_int (by rw [HR.out, ← HM.out]), rfl⟩
/-- The row of those that are taken. -/
def TakenAt (w : World) (b : Nat) (n : Nat) (t : List Nat) : Prop := w.rowIs b 4 n (fun j => .bool (decide (j ∈ t)))
def nextV : Option Nat → Int
  | some k => k
  | none => -1
def heldTo (h : List Acc) (t : List Nat) (j m : Nat) : Bool := anyUpto m fun i => edgeB h i j && !decide (i ∈ t)
theorem heldTo_zero (h : List Acc) (t : List Nat) (j : Nat) : heldTo h t j 0 = false := rfl
theorem heldTo_step (h : List Acc) (t : List Nat) (j m : Nat) : heldTo h t j (m + 1) = (heldTo h t j m || (edgeB h m j && !decide (m ∈ t))) := by
  unfold heldTo anyUpto
  rw [List.range_succ, List.any_append]
  simp
theorem heldTo_mono {h : List Acc} {t : List Nat} {j m n : Nat} (hm : m ≤ n) (k : heldTo h t j m = true) : heldTo h t j n = true := by
  unfold heldTo at k ⊢
  rw [anyUpto_iff] at k ⊢
  obtain ⟨i, hi, hp⟩ := k
  exact ⟨i, by omega, hp⟩
theorem nextL_first {h : List Acc} {t : List Nat} {k : Nat} (hk : k < h.length) (h1 : ∀ j, j < k → freeB h t j = false) (h2 : freeB h t k = true) : nextL h t = some k := by
  unfold nextL
  rw [List.find?_range_eq_some]
  exact ⟨by simpa using h2, by simpa using hk, fun j hj => by simpa using h1 j hj⟩
theorem nextL_none {h : List Acc} {t : List Nat} (h1 : ∀ j, j < h.length → freeB h t j = false) : nextL h t = none := by
  unfold nextL
  rw [List.find?_eq_none]
  intro j hj
  simp only [List.mem_range] at hj
  rw [h1 j hj]
  simp
set_option maxRecDepth 100000 in
set_option maxHeartbeats 1000000 in
theorem rnext_any {w : World} {v : Value} {hs : List Acc} {tb : Nat} {t : List Nat} (h : Hist w v hs) (ht : TakenAt w tb hs.length t) :
    Calls Try.prog 67 #[v, .slice (some ⟨tb, 0, none⟩) hs.length hs.length] w fun e w' => e = .returned (.int .i64 (nextV (nextL hs t))) ∧ ∃ n, w' = w.drewN n := by
  have HH := Lib.hid h
  obtain ⟨A, c, rfl, hm, hcap, hc⟩ := h.shape
  have HC := Lib.hid hc
  have HT : Hid (∀ j, j < hs.length → w.cell? ⟨tb, j, none⟩ = some (.bool (decide (j ∈ t)))) := Lib.hid fun j hj => ht.cell hj
  have htb : tb < w.heap.size := ht.lt
  clear hc h ht
  go_enter Try.func67, Try.ntmps67
  go_wp2_with fail
  go_loopw [5] (fun i wr => ∃ k n : Nat, i = .int .i64 k ∧ k ≤ hs.length ∧ wr = w.drewN n ∧ Hid (∀ j, j < k → freeB hs t j = false)) (fun i _ => hs.length - (intOf i).toNat)
  case atStart => exact ⟨0, 0, rfl, by omega, rfl, Lib.hid (fun j hj => by omega)⟩
  case round =>
    obtain ⟨k, n, rfl, hk, rfl, HN⟩ := hrel
    by_cases hlk : k < hs.length
    · obtain ⟨b, o, vr, vw, rfl, ha⟩ := HC.out k hlk
      have c2 := ha.c2
      have t2 := HT.out k hlk
      have HF := Lib.hid (show freeB hs t k = ((tx hs k).done && !decide (k ∈ t) && !heldTo hs t k hs.length) from rfl)
      have HNx : Hid (freeB hs t k = false → ∀ j, j < k + 1 → freeB hs t j = false) := Lib.hid fun hf j hj => by
        by_cases e : j = k
        · subst e; exact hf
        · exact HN.out j (by omega)
      generalize (tx hs k).done = d at *
      generalize decide (k ∈ t) = tk at *
      clear ha
      obtain ⟨f0, hf0⟩ : ∃ f0, f0 = (d && !tk) := ⟨_, rfl⟩
      have HF0 := Lib.hid hf0
      have HL : Hid (∀ (W : World), f0 = (d && !tk) → True) := Lib.hid fun _ _ => trivial
      clear HL
      cases d
      · have HNn := Lib.hid (HNx.out (by rw [HF.out]; rfl))
        clear hf0
        go_wp2_with fail
        go_loopw [6, 7] (fun f i wr => f = .bool false ∧ i = .int .i64 0 ∧ wr = w.drewN n) (fun _ _ _ => 0)
        case atStart => exact ⟨rfl, rfl, rfl⟩
        case round =>
          obtain ⟨rfl, rfl, rfl⟩ := hrel
          go_wp2_with fail
          go_roundw
          case rel => exact ⟨k + 1, n, by go_num, by omega, rfl, HNn⟩
          case measure => simp [intOf]; omega
      cases tk
      case true =>
        have HNn := Lib.hid (HNx.out (by rw [HF.out]; rfl))
        clear hf0
        go_wp2_with fail
        go_loopw [6, 7] (fun f i wr => f = .bool false ∧ i = .int .i64 0 ∧ wr = w.drewN n) (fun _ _ _ => 0)
        case atStart => exact ⟨rfl, rfl, rfl⟩
        case round =>
          obtain ⟨rfl, rfl, rfl⟩ := hrel
          go_wp2_with fail
          go_roundw
          case rel => exact ⟨k + 1, n, by go_num, by omega, rfl, HNn⟩
          case measure => simp [intOf]; omega
      clear hf0
      go_wp2_with fail
      go_loopw [6, 7] (fun f i wr => ∃ (m q : Nat) (x : Bool), f = .bool x ∧ i = .int .i64 m ∧ m ≤ hs.length ∧ wr = w.drewN q ∧ Hid (x = !heldTo hs t k m)) (fun _ i _ => hs.length - (intOf i).toNat)
      case atStart => exact ⟨0, n, true, rfl, rfl, by omega, rfl, Lib.hid (by rw [heldTo_zero]; rfl)⟩
      case round =>
        obtain ⟨m, q, x, rfl, rfl, hmn, rfl, HX⟩ := hrel
        cases x
        · have HNn := Lib.hid (HNx.out (by
            have h1 : heldTo hs t k m = true := by have := HX.out; simpa using this.symm
            rw [HF.out, heldTo_mono hmn h1]
            rfl))
          go_wp2_with fail
          all_goals
            go_roundw
            case rel => exact ⟨k + 1, q, by go_num, by omega, rfl, HNn⟩
            case measure => simp [intOf]; omega
        by_cases hlm : m < hs.length
        · have t3 := HT.out m hlm
          have HSt := Lib.hid (heldTo_step hs t k m)
          have h0 : heldTo hs t k m = false := by have := HX.out; simpa using this.symm
          rw [h0, Bool.false_or] at HSt
          have HE := Lib.hid (redge_any (HH.out.drewN q) m k hlm hlk)
          clear h0
          generalize decide (m ∈ t) = tm at *
          generalize edgeB hs m k = em at *
          go_wp2_with fail
          refine HE.out.mono ?_
          rintro e w1 ⟨rfl, n1, rfl⟩
          cases tm
          · have HX1 : Hid ((!em) = !heldTo hs t k (m + 1)) := Lib.hid (by rw [HSt.out]; simp)
            go_wp2_with fail
            go_roundw
            case rel => exact ⟨m + 1, _, _, rfl, by go_num, by omega, rfl, HX1⟩
            case measure => simp [intOf]; omega
          · have HX1 : Hid (true = !heldTo hs t k (m + 1)) := Lib.hid (by rw [HSt.out]; simp)
            go_wp2_with fail
            go_roundw
            case rel => exact ⟨m + 1, _, _, rfl, by go_num, by omega, rfl, HX1⟩
            case measure => simp [intOf]; omega
        · obtain rfl : m = hs.length := by omega
          have HR := Lib.hid (nextL_first hlk HN.out (by rw [HF.out, ← HX.out]; rfl))
          go_wp2_with fail
          go_ret
          exact ⟨ret_int (by rw [HR.out]; rfl), _, rfl⟩
    · obtain rfl : k = hs.length := by omega
      have HR := Lib.hid (nextL_none HN.out)
      go_wp2_with fail
      go_ret
      exact ⟨ret_int (by rw [HR.out]; rfl), _, rfl⟩
end Go.Proofs.Ytlfpkikmofgjfaa
