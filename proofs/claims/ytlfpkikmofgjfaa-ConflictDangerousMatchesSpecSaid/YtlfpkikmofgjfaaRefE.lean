/- The reference's walk of Dangerous. -/
import Derived.Test.YtlfpkikmofgjfaaRefD
import Derived.Test.YtlfpkikmofgjfaaWalkI
namespace Go.Proofs.Ytlfpkikmofgjfaa
open Go.RowKit

set_option maxRecDepth 100000 in
set_option maxHeartbeats 2000000 in
theorem rdanger_any {w : World} {v : Value} {hs : List Acc} (h : Hist w v hs) :
    Calls Try.prog 32 #[v] w fun e w' => e = .returned (tripleV (dangerousL hs)) ∧ Below w.heap.size w w' := by
  obtain ⟨A, c, rfl, hm, hcap, -⟩ := h.shape
  have HH := Lib.hid h
  clear h
  obtain ⟨w0, hw0⟩ : ∃ w0, w0 = w.alloc (.cells #[.int .i64 0, .int .i64 0, .int .i64 0] 47) := ⟨_, rfl⟩
  have HB0 : Hid (Below w.heap.size w w0) := Lib.hid (by rw [hw0]; exact (Below.refl _ _).alloc (Nat.le_refl _) _)
  have HC0 : Hid (Cells w0 w.heap.size 47 #[.int .i64 0, .int .i64 0, .int .i64 0]) := Lib.hid (by rw [hw0]; exact Cells.made w 47 _)
  have hz0 : w0.heap.size = w.heap.size + 1 := by rw [hw0]; simp
  have HCk := Lib.hid (rcheck_any (HH.out.below HB0.out))
  rw [hw0] at HCk
  have HW0 := Lib.hid hw0
  clear hw0
  by_cases hv : checkL hs = 0
  case neg =>
    have HR := Lib.hid (show dangerousL hs = none by unfold dangerousL; rw [if_neg hv])
    generalize checkL hs = cc at *
    have hcb : (cc != 0) = true := by simp [hv]
    clear hv
    go_enter Try.func32, Try.ntmps32
    go_wp2_with fail
    refine HCk.out.mono ?_
    rw [← HW0.out]
    rintro e w1 ⟨rfl, hb⟩
    have HB := Lib.hid hb
    clear hb
    have hcc := HC0.out.kept (HB.out.block w.heap.size (by omega))
    have r0 : w1.cell? ⟨w.heap.size, 0, none⟩ = some (.int .i64 0) := hcc.cell 0
    have r1 : w1.cell? ⟨w.heap.size, 1, none⟩ = some (.int .i64 0) := hcc.cell 1
    have r2 : w1.cell? ⟨w.heap.size, 2, none⟩ = some (.int .i64 0) := hcc.cell 2
    have f0 : w1.frozen? ⟨w.heap.size, 0, none⟩ = false := hcc.free 0
    have f1 : w1.frozen? ⟨w.heap.size, 1, none⟩ = false := hcc.free 1
    have f2 : w1.frozen? ⟨w.heap.size, 2, none⟩ = false := hcc.free 2
    have hwz : w.heap.size < w1.heap.size := hcc.lt
    have HEnd := Lib.hid ((((HB0.out.trans (HB.out.mono HB0.out.size)).setCell (p := ⟨w.heap.size, 0, none⟩) (Nat.le_refl _) (.int .i64 0)).setCell (p := ⟨w.heap.size, 1, none⟩) (Nat.le_refl _) (.int .i64 0)).setCell (p := ⟨w.heap.size, 2, none⟩) (Nat.le_refl _) (.int .i64 0))
    clear hcc
    go_wp2_with fail
    refine bodyPost_ret (v := .tuple #[.agg #[.int .i64 0, .int .i64 0, .int .i64 0], .bool false]) (by simp [results, Try.results32, go_sem, r0, r1, r2]) rfl ⟨by rw [HR.out]; rfl, HEnd.out⟩
  have HR := Lib.hid (show dangerousL hs = tripleOf hs.length (structB hs) by unfold dangerousL; rw [if_pos hv])
  have hlen := (checkL_zero.1 hv).len
  rw [hv] at HCk
  clear hv
  go_enter Try.func32, Try.ntmps32
  go_wp2_with fail
  refine HCk.out.mono ?_
  rw [← HW0.out]
  rintro e w1 ⟨rfl, hb⟩
  have HB1 := Lib.hid hb
  clear hb HCk
  go_wp2_with fail
  go_loopw [4] (fun i wr => ∃ k : Nat, i = .int .i64 k ∧ k ≤ hs.length ∧ Below w0.heap.size w0 wr ∧ Hid (∀ a b c, a < k → b < hs.length → c < hs.length → (structB hs) a b c = false)) (fun i _ => hs.length - (intOf i).toNat)
  case atStart => exact ⟨0, rfl, by omega, HB1.out, Lib.hid (fun a b c ha => by omega)⟩
  case round =>
    obtain ⟨k, rfl, hk, hB, HN⟩ := hrel
    clear HB1
    have HB := Lib.hid hB
    clear hB
    by_cases hlk : k < hs.length
    · go_wp2_with fail
      go_loopw [5] (fun i wr => ∃ m : Nat, i = .int .i64 m ∧ m ≤ hs.length ∧ Below w0.heap.size w0 wr ∧ Hid (∀ b c, b < m → c < hs.length → (structB hs) k b c = false)) (fun i _ => hs.length - (intOf i).toNat)
      case atStart => exact ⟨0, rfl, by omega, HB.out, Lib.hid (fun b c hb => by omega)⟩
      case round =>
        obtain ⟨m, rfl, hm', hB, HN2⟩ := hrel
        clear HB
        have HB := Lib.hid hB
        clear hB
        by_cases hlm : m < hs.length
        · go_wp2_with fail
          go_loopw [6] (fun i wr => ∃ l : Nat, i = .int .i64 l ∧ l ≤ hs.length ∧ Below w0.heap.size w0 wr ∧ Hid (∀ c, c < l → (structB hs) k m c = false)) (fun i _ => hs.length - (intOf i).toNat)
          case atStart => exact ⟨0, rfl, by omega, HB.out, Lib.hid (fun c hc => by omega)⟩
          case round =>
            obtain ⟨l, rfl, hl', hB, HN3⟩ := hrel
            clear HB
            have HB := Lib.hid hB
            clear hB
            by_cases hll : l < hs.length
            · have HBw := Lib.hid (HB0.out.trans (HB.out.mono HB0.out.size))
              have HDg := Lib.hid (rstruct_any (HH.out.below HBw.out) k m l hlk hlm hll)
              go_wp2_with fail
              refine HDg.out.mono ?_
              obtain ⟨d, hd⟩ : ∃ d, d = structB hs k m l := ⟨_, rfl⟩
              rw [← hd]
              have HD := Lib.hid hd
              rintro e w1 ⟨rfl, n1, rfl⟩
              have HB1 := Lib.hid (Below.drewN' HB.out n1)
              clear hd
              cases d
              · have HNn := Lib.hid (show ∀ c, c < l + 1 → (structB hs) k m c = false from fun c hc => by
                  by_cases e : c = l
                  · subst e; exact HD.out.symm
                  · exact HN3.out c (by omega))
                go_wp2_with fail
                go_roundw
                case rel => exact ⟨l + 1, by go_num, by omega, HB1.out, HNn⟩
                case measure => simp [intOf]; omega
              · have HRs := Lib.hid (show tripleOf hs.length (structB hs) = some (k, m, l) from tripleOf_first hlk hlm hll HD.out.symm (fun a b c ha hb hc => HN.out a b c ha hb hc) (fun b c hb hc => HN2.out b c hb hc) (fun c hc => HN3.out c hc))
                have hcc := HC0.out.kept (HB1.out.block w.heap.size (by omega))
                have r0 : (wr.drewN n1).cell? ⟨w.heap.size, 0, none⟩ = some (.int .i64 0) := hcc.cell 0
                have r1 : (wr.drewN n1).cell? ⟨w.heap.size, 1, none⟩ = some (.int .i64 0) := hcc.cell 1
                have r2 : (wr.drewN n1).cell? ⟨w.heap.size, 2, none⟩ = some (.int .i64 0) := hcc.cell 2
                have f0 : (wr.drewN n1).frozen? ⟨w.heap.size, 0, none⟩ = false := hcc.free 0
                have f1 : (wr.drewN n1).frozen? ⟨w.heap.size, 1, none⟩ = false := hcc.free 1
                have f2 : (wr.drewN n1).frozen? ⟨w.heap.size, 2, none⟩ = false := hcc.free 2
                have hwz : w.heap.size < (wr.drewN n1).heap.size := hcc.lt
                have HEnd := Lib.hid ((((HB0.out.trans (HB1.out.mono HB0.out.size)).setCell (p := ⟨w.heap.size, 0, none⟩) (Nat.le_refl _) (.int .i64 k)).setCell (p := ⟨w.heap.size, 1, none⟩) (Nat.le_refl _) (.int .i64 m)).setCell (p := ⟨w.heap.size, 2, none⟩) (Nat.le_refl _) (.int .i64 l))
                have q0 : ((wr.drewN n1).setCell ⟨w.heap.size, 0, none⟩ (.int .i64 k)).cell? ⟨w.heap.size, 0, none⟩ = some (.int .i64 k) := (hcc.set 0 (.int .i64 k)).cell 0
                have q1 : (((wr.drewN n1).setCell ⟨w.heap.size, 0, none⟩ (.int .i64 k)).setCell ⟨w.heap.size, 1, none⟩ (.int .i64 m)).cell? ⟨w.heap.size, 1, none⟩ = some (.int .i64 m) := ((hcc.set 0 (.int .i64 k)).set 1 (.int .i64 m)).cell 1
                have q2 : ((((wr.drewN n1).setCell ⟨w.heap.size, 0, none⟩ (.int .i64 k)).setCell ⟨w.heap.size, 1, none⟩ (.int .i64 m)).setCell ⟨w.heap.size, 2, none⟩ (.int .i64 l)).cell? ⟨w.heap.size, 2, none⟩ = some (.int .i64 l) := (((hcc.set 0 (.int .i64 k)).set 1 (.int .i64 m)).set 2 (.int .i64 l)).cell 2
                have Q := Lib.hid (And.intro q0 (And.intro q1 q2))
                clear q0 q1 q2
                clear hcc
                go_wp2_with fail
                obtain ⟨q0, q1, q2⟩ := Q.out
                refine bodyPost_ret (v := .tuple #[.agg #[.int .i64 k, .int .i64 m, .int .i64 l], .bool true]) (by simp [results, Try.results32, go_sem, q0, q1, q2]) rfl ⟨by rw [HR.out, HRs.out]; rfl, HEnd.out⟩
            · obtain rfl : l = hs.length := by omega
              have HNn := Lib.hid (show ∀ b c, b < m + 1 → c < hs.length → (structB hs) k b c = false from fun b c hb hc => by
                by_cases e : b = m
                · subst e; exact HN3.out c hc
                · exact HN2.out b c (by omega) hc)
              go_wp2_with fail
              go_roundw
              case rel => exact ⟨m + 1, by go_num, by omega, HB.out, HNn⟩
              case measure => simp [intOf]; omega
        · obtain rfl : m = hs.length := by omega
          have HNn := Lib.hid (show ∀ a b c, a < k + 1 → b < hs.length → c < hs.length → (structB hs) a b c = false from fun a b c ha hb hc => by
            by_cases e : a = k
            · subst e; exact HN2.out b c hb hc
            · exact HN.out a b c (by omega) hb hc)
          go_wp2_with fail
          go_roundw
          case rel => exact ⟨k + 1, by go_num, by omega, HB.out, HNn⟩
          case measure => simp [intOf]; omega
    · obtain rfl : k = hs.length := by omega
      have HRs := Lib.hid (show tripleOf hs.length (structB hs) = none from tripleOf_none.2 (fun a b c ha hb hc => HN.out a b c ha hb hc))
      have hcc := HC0.out.kept (HB.out.block w.heap.size (by omega))
      have r0 : wr.cell? ⟨w.heap.size, 0, none⟩ = some (.int .i64 0) := hcc.cell 0
      have r1 : wr.cell? ⟨w.heap.size, 1, none⟩ = some (.int .i64 0) := hcc.cell 1
      have r2 : wr.cell? ⟨w.heap.size, 2, none⟩ = some (.int .i64 0) := hcc.cell 2
      have f0 : wr.frozen? ⟨w.heap.size, 0, none⟩ = false := hcc.free 0
      have f1 : wr.frozen? ⟨w.heap.size, 1, none⟩ = false := hcc.free 1
      have f2 : wr.frozen? ⟨w.heap.size, 2, none⟩ = false := hcc.free 2
      have hwz : w.heap.size < wr.heap.size := hcc.lt
      have HEnd := Lib.hid ((((HB0.out.trans (HB.out.mono HB0.out.size)).setCell (p := ⟨w.heap.size, 0, none⟩) (Nat.le_refl _) (.int .i64 0)).setCell (p := ⟨w.heap.size, 1, none⟩) (Nat.le_refl _) (.int .i64 0)).setCell (p := ⟨w.heap.size, 2, none⟩) (Nat.le_refl _) (.int .i64 0))
      clear hcc
      go_wp2_with fail
      refine bodyPost_ret (v := .tuple #[.agg #[.int .i64 0, .int .i64 0, .int .i64 0], .bool false]) (by simp [results, Try.results32, go_sem, r0, r1, r2]) rfl ⟨by rw [HR.out, HRs.out]; rfl, HEnd.out⟩
end Go.Proofs.Ytlfpkikmofgjfaa
