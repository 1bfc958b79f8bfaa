/- The reference's walk of Serial. -/
import Derived.Test.YtlfpkikmofgjfaaRefF
import Derived.Test.YtlfpkikmofgjfaaWalkK
namespace Go.Proofs.Ytlfpkikmofgjfaa
open Go.RowKit

theorem Row.shape' {w : World} {base : Nat} {t : TypeId} {v : Value} {xs : List Int} (h : Row w base t v xs) : ∃ A c, v = .slice A xs.length c ∧ xs.length ≤ 9223372036854775807 := by
  rcases h.nums with ⟨rfl, rfl⟩ | ⟨g, c, rfl, h1, h2, _⟩
  · exact ⟨none, 0, rfl, by simp⟩
  · exact ⟨_, c, rfl, h2⟩
theorem info4 : (Try.prog.info? 4).map (fun i => (i.zero, i.size, i.bytes)) = some (some (.bool false), 1, 1) := by kernel_rfl
/-- The loop of Serial. -/
structure SerSt (w : World) (hs : List Acc) (tb : Nat) (t : List Nat) (v : Value) (wr : World) : Prop where
  row : Row wr (tb + 1) 3 v (t.map fun i : Nat => (i : Int))
  taken : TakenAt wr tb hs.length t
  go : serialGo hs (committed hs - t.length) t = serialGo hs (committed hs) []
  len : t.length ≤ committed hs
  below : Below w.heap.size w wr
theorem nextL_lt {h : List Acc} {t : List Nat} {k : Nat} (e : nextL h t = some k) : k < h.length := by
  unfold nextL at e
  rw [List.find?_range_eq_some] at e
  simpa using e.2.1
def SerG (w : World) (hs : List Acc) (tb N m : Nat) (v : Value) (wr : World) : Prop := ∃ (t : List Nat) (l : Nat) (B : Option Addr) (cp : Nat), v = .slice B l cp ∧ l + m = N ∧ Hid (t.length = l) ∧ Hid (SerSt w hs tb t (.slice B l cp) wr)
theorem SerSt.step {w wr w1 : World} {hs : List Acc} {tb k : Nat} {t : List Nat} {u v1 : Value} (h : SerSt w hs tb t u wr) (hx : nextL hs t = some k) (hlt : t.length < committed hs) (htb : w.heap.size ≤ tb) (h1 : Row w1 (tb + 1) 3 v1 (t.map (fun i : Nat => (i : Int)) ++ [(k : Int)])) (h2 : (wr.setCell ⟨tb, k, none⟩ (.bool true)).grownBy w1 u.ownBlock) (h3 : ∀ b, u.ownBlock = some b → tb + 1 ≤ b) : SerSt w hs tb (t ++ [k]) v1 w1 := by
  have hk := nextL_lt hx
  refine ⟨by simpa using h1, ?_, ?_, by simp; omega, ?_⟩
  · have := ((h.taken.set k (.bool true)).congr (g := fun j => .bool (decide (j ∈ t ++ [k]))) fun i hi => by
      by_cases e : i = k
      · simp [e]
      · simp [e])
    exact this.of_block (h2.block tb this.lt (fun e => by have := h3 tb e.symm; omega))
  · rw [← h.go]
    have e : committed hs - t.length = (committed hs - (t ++ [k]).length) + 1 := by simp; omega
    rw [e]
    show _ = (match nextL hs t with | none => none | some k => serialGo hs _ (t ++ [k]))
    rw [hx]
  · exact (h.below.setCell (p := ⟨tb, k, none⟩) htb _).grown h2 (by simp [World.setCell]; exact h.below.size) (fun q hq => by have := h3 q hq; omega)
theorem committed_le (h : List Acc) : committed h ≤ h.length := countTo_le h h.length
set_option maxRecDepth 100000 in
set_option maxHeartbeats 1000000 in
theorem rserial_any {w : World} {v : Value} {hs : List Acc} (h : Hist w v hs) :
    Calls Try.prog 33 #[v] w fun e w' => IsSerial w e w' (serialL hs) ∧ Below w.heap.size w w' := by
  obtain ⟨A, c, rfl, hm, hcap, -⟩ := h.shape
  have HH := Lib.hid h
  have HCk := Lib.hid (rcheck_any h)
  clear h
  by_cases hv : checkL hs = 0
  case neg =>
    have HR := Lib.hid (show serialL hs = none by unfold serialL; rw [if_neg hv])
    generalize checkL hs = cc at *
    have hcb : (cc != 0) = true := by simp [hv]
    clear hv
    go_enter Try.func33, Try.ntmps33
    go_wp2_with fail
    refine HCk.out.mono ?_
    rintro e w1 ⟨rfl, hb⟩
    have HB := Lib.hid hb
    clear hb
    go_wp2_with fail
    refine bodyPost_ret (v := .tuple #[.slice none 0 0, .bool false]) (by simp [results, Try.results33, go_sem]) rfl ⟨by rw [HR.out]; rfl, HB.out⟩
  have HR := Lib.hid (show serialL hs = serialGo hs (committed hs) [] by unfold serialL; rw [if_pos hv])
  have hlen := (checkL_zero.1 hv).len
  rw [hv] at HCk
  clear hv
  have hmk := fun w => run_make_row' (P := Try.prog) 80 4 (.bool false) 1 Try.underlying80 info4 rfl .i64 .i64 hs.length (by omega) (by omega) w
  go_enter Try.func33, Try.ntmps33
  go_wp2_with fail
  refine HCk.out.mono ?_
  rintro e w1 ⟨rfl, hb⟩
  have HB1 := Lib.hid hb
  have hz1 := hb.size
  clear hb HCk
  go_wp2_with fail
  have HTk : Hid (TakenAt (w1.alloc (.cells (madeCells #[.bool false] hs.length) 4)) w1.heap.size hs.length []) := Lib.hid ((World.rowIs_made w1 (.bool false) hs.length 4).congr fun i hi => by simp)
  have HB2 := Lib.hid (HB1.out.alloc hz1 (.cells (madeCells #[.bool false] hs.length) 4))
  clear HB1 hmk
  refine (rcommitted_any (HH.out.below HB2.out)).mono ?_
  obtain ⟨N, hN⟩ : ∃ N, N = committed hs := ⟨_, rfl⟩
  rw [← hN]
  have hNl : N ≤ hs.length := by rw [hN]; exact committed_le hs
  have HN := Lib.hid hN
  clear hN
  rintro e w2 ⟨rfl, rfl⟩
  obtain ⟨tb, htb⟩ : ∃ tb, w1.heap.size = tb := ⟨_, rfl⟩
  rw [htb] at hz1 HTk ⊢
  clear htb
  obtain ⟨w2, hw2⟩ : ∃ w2, w1.alloc (.cells (madeCells #[.bool false] hs.length) 4) = w2 := ⟨_, rfl⟩
  rw [hw2] at HTk HB2 ⊢
  clear hw2
  have htw : w.heap.size ≤ tb := hz1
  have HS : Hid (SerG w hs tb N N (.slice none 0 0) w2) := Lib.hid ⟨[], 0, none, 0, rfl, by omega, Lib.hid rfl, Lib.hid ⟨Row.nil _ _ _, HTk.out, by simp, by simp, HB2.out⟩⟩
  clear HTk HB2
  go_wp2_with fail
  go_loopg [4] N (fun m v wr => SerG w hs tb N m v wr)
  case atStart => exact HS.out
  case round =>
    obtain ⟨t, l, B, cp, rfl, hlm, HL, HSt⟩ := hrel
    have hlN : l ≤ N := by omega
    have HLM := Lib.hid hlm
    clear HS hlm
    by_cases hn : l < N
    · have HNx := Lib.hid (rnext_any (HH.out.below HSt.out.below) HSt.out.taken)
      have hsz := HSt.out.below.size
      have htl := HSt.out.taken.lt
      go_wp2_with fail
      refine HNx.out.mono ?_
      cases hx : nextL hs t with
      | none =>
        have HRs := Lib.hid (show serialGo hs (committed hs) [] = none by
          rw [← HSt.out.go, show committed hs - t.length = (committed hs - t.length - 1) + 1 by rw [HL.out, ← HN.out]; omega]
          show (match nextL hs t with | none => none | some k => serialGo hs _ (t ++ [k])) = none
          rw [hx])
        clear hx HNx
        simp only [nextV]
        rintro e w3 ⟨rfl, n, rfl⟩
        go_wp2_with fail
        refine bodyPost_ret (v := .tuple #[.slice none 0 0, .bool false]) (by simp [results, Try.results33, go_sem]) rfl ⟨by rw [HR.out, HRs.out]; rfl, Below.drewN' HSt.out.below n⟩
      | some k =>
        have hk := nextL_lt hx
        have HX := Lib.hid hx
        clear hx HNx
        simp only [nextV]
        rintro e w3 ⟨rfl, n, rfl⟩
        have o1 : (wr.drewN n).cell? ⟨tb, k, none⟩ = some (.bool (decide (k ∈ t))) := HSt.out.taken.cell hk
        have o2 : (wr.drewN n).frozen? ⟨tb, k, none⟩ = false := HSt.out.taken.frozen k
        have hks : k < hs.length := hk
        have HSt2 : Hid (SerSt w hs tb t (.slice B l cp) (wr.drewN n)) := Lib.hid ⟨HSt.out.row.drewN n, HSt.out.taken, HSt.out.go, HSt.out.len, Below.drewN' HSt.out.below n⟩
        have hb1 : tb + 1 ≤ ((wr.drewN n).setCell ⟨tb, k, none⟩ (.bool true)).heap.size := by simp [World.setCell]; exact htl
        have HSz : Hid (((wr.drewN n).setCell ⟨tb, k, none⟩ (.bool true)).heap.size = wr.heap.size) := Lib.hid (by simp [World.setCell])
        go_wp2_with (at_builtin; refine wpList_app_int ((wr.drewN n).setCell ⟨tb, k, none⟩ (.bool true)) (tb + 1) rfl (.tmp 28) (.tmp 30) rfl _ (t.map fun i : Nat => (i : Int)) k rfl (by rw [HSz.out]; rfl) (HSt2.out.row.setCell (by simp) _) (by rw [List.length_map, HL.out]; omega) hb1 ?_; intro v1 w4 h1 h2 h3; have HNew : Hid (SerSt w hs tb (t ++ [k]) v1 w4) := Lib.hid (SerSt.step HSt2.out HX.out (by rw [HL.out, ← HN.out]; exact hn) htw h1 h2 h3); clear h1 h2 h3)
        go_roundg (gk - 1)
        case measure => have := HLM.out; omega
        case rel =>
          obtain ⟨B1, c1, e1, _⟩ := HNew.out.row.shape'
          rw [show (List.map (fun i : Nat => (i : Int)) (t ++ [k])).length = l + 1 by simp [HL.out]] at e1
          have h1 := HNew.out
          rw [e1] at h1
          exact ⟨t ++ [k], l + 1, B1, c1, e1, by have := HLM.out; omega, Lib.hid (by simp [HL.out]), Lib.hid h1⟩
    · obtain rfl : l = N := by omega
      have HRs := Lib.hid (show serialGo hs (committed hs) [] = some t by
        rw [← HSt.out.go, show committed hs - t.length = 0 by rw [HL.out, ← HN.out]; omega]
        rfl)
      have HRow := Lib.hid (HSt.out.row.mono (base' := w.heap.size) (by omega))
      go_wp2_with fail
      refine bodyPost_ret (v := .tuple #[.slice B l cp, .bool true]) (by simp [results, Try.results33, go_sem]) rfl ⟨by rw [HR.out, HRs.out]; exact ⟨_, rfl, HRow.out⟩, HSt.out.below⟩
end Go.Proofs.Ytlfpkikmofgjfaa
