/- The walks of Dangerous; of structure with the closure of Admit. -/
import Derived.Test.YtlfpkikmofgjfaaWalkI

namespace Go.Proofs.Ytlfpkikmofgjfaa
open Go.RowKit

/-- A dangerous structure that contains q. -/
def structQ (hs : List Acc) (q a b c : Nat) : Bool := structB hs a b c && decide (a = q ∨ b = q ∨ c = q)
/-- What the closure of Admit asks. -/
theorem touches (a b c q : Nat) {ib : Nat} (w : World) (hq : w.cell? ⟨ib, 0, none⟩ = some (.int .i64 q)) :
    Calls Try.prog 75 #[.int .i64 a, .int .i64 b, .int .i64 c, .pointer (some ⟨ib, 0, none⟩)] w fun e w' => e = .returned (.bool (decide (a = q ∨ b = q ∨ c = q))) ∧ w = w' := by
  by_cases h1 : a = q
  · have h1b : ((a : Int) == q) = true := beq_iff_eq.2 (by omega)
    have HR := Lib.hid (decide_eq_true (p := a = q ∨ b = q ∨ c = q) (.inl h1))
    clear h1
    go_enter Try.func75, Try.ntmps75
    go_wp2_with fail
    go_ret
    exact ⟨ret_bool HR.out.symm, rfl⟩
  have h1b : ((a : Int) == q) = false := beq_eq_false_iff_ne.2 (by omega)
  by_cases h2 : b = q
  · have h2b : ((b : Int) == q) = true := beq_iff_eq.2 (by omega)
    have HR := Lib.hid (decide_eq_true (p := a = q ∨ b = q ∨ c = q) (.inr (.inl h2)))
    clear h2 h1
    go_enter Try.func75, Try.ntmps75
    go_wp2_with fail
    go_ret
    exact ⟨ret_bool HR.out.symm, rfl⟩
  have h2b : ((b : Int) == q) = false := beq_eq_false_iff_ne.2 (by omega)
  by_cases h3 : c = q
  · have h3b : ((c : Int) == q) = true := beq_iff_eq.2 (by omega)
    have HR := Lib.hid (decide_eq_true (p := a = q ∨ b = q ∨ c = q) (.inr (.inr h3)))
    clear h3 h2 h1
    go_enter Try.func75, Try.ntmps75
    go_wp2_with fail
    go_ret
    exact ⟨ret_bool HR.out.symm, rfl⟩
  · have h3b : ((c : Int) == q) = false := beq_eq_false_iff_ne.2 (by omega)
    have HR := Lib.hid (decide_eq_false (p := a = q ∨ b = q ∨ c = q) (by rintro (h | h | h); exact h1 h; exact h2 h; exact h3 h))
    clear h3 h2 h1
    go_enter Try.func75, Try.ntmps75
    go_wp2_with fail
    go_ret
    exact ⟨ret_bool HR.out.symm, rfl⟩
set_option maxRecDepth 100000 in
set_option maxHeartbeats 2000000 in
theorem structure_at {w : World} {g : Nat} {v : Value} {hs : List Acc} {ib : Nat} (q : Nat) (hib : ib < w.heap.size) (hq : w.cell? ⟨ib, 0, none⟩ = some (.int .i64 q)) (hg : Graph w g v hs) (hh : Hist w v hs) (hv : Valid hs) :
    Calls Try.prog 63 #[.pointer (some ⟨g, 0, none⟩), .func (Fn.func 75) #[] #[.pointer (some ⟨ib, 0, none⟩)]] w fun e w' => e = .returned (tripleV (tripleOf hs.length (structQ hs q))) ∧ Below w.heap.size w w' := by
  obtain ⟨A, c, rfl, hm, hcap, -⟩ := hh.shape
  have HG := Lib.hid hg
  have HH := Lib.hid hh
  have HV := Lib.hid hv
  have hlen := hv.len
  obtain ⟨eb, hgc, -, -⟩ := hg
  have hglt := hgc.lt
  have HGC := Lib.hid hgc
  have g0 : w.cell? ⟨g, 0, none⟩ = some (.slice A hs.length c) := hgc.cell 0
  clear hh hv hgc
  go_enter Try.func63, Try.ntmps63
  go_wp2_with fail
  obtain ⟨w0, hw0⟩ : ∃ w0, w0 = w.alloc (.cells #[.int .i64 0, .int .i64 0, .int .i64 0] 47) := ⟨_, rfl⟩
  have HB0 : Hid (Below w.heap.size w w0) := Lib.hid (by rw [hw0]; exact (Below.refl _ _).alloc (Nat.le_refl _) _)
  have HC0 : Hid (Cells w0 w.heap.size 47 #[.int .i64 0, .int .i64 0, .int .i64 0]) := Lib.hid (by rw [hw0]; exact Cells.made w 47 _)
  have hz0 : w0.heap.size = w.heap.size + 1 := by rw [hw0]; simp
  have HW0 := Lib.hid hw0
  clear hw0 g0
  go_loopw [14] (fun i wr => ∃ k : Nat, i = .int .i64 k ∧ k ≤ hs.length ∧ Below w0.heap.size w0 wr ∧ Hid (∀ a b c, a < k → b < hs.length → c < hs.length → (structQ hs q) a b c = false)) (fun i _ => hs.length - (intOf i).toNat)
  case atStart => exact ⟨0, rfl, by omega, by rw [HW0.out]; exact Below.refl _ _, Lib.hid (fun a b c ha => by omega)⟩
  case round =>
    obtain ⟨k, rfl, hk, hB, HN⟩ := hrel
    have HB := Lib.hid hB
    clear hB
    by_cases hlk : k < hs.length
    · have f0 : wr.cell? ⟨g, 0, none⟩ = some (.slice A hs.length c) := ((HB0.out.trans (HB.out.mono HB0.out.size)).cell (p := ⟨g, 0, none⟩) hglt).trans (HGC.out.cell 0)
      go_wp2_with fail
      go_loopw [22] (fun i wr => ∃ m : Nat, i = .int .i64 m ∧ m ≤ hs.length ∧ Below w0.heap.size w0 wr ∧ Hid (∀ b c, b < m → c < hs.length → (structQ hs q) k b c = false)) (fun i _ => hs.length - (intOf i).toNat)
      case atStart => exact ⟨0, rfl, by omega, HB.out, Lib.hid (fun b c hb => by omega)⟩
      case round =>
        obtain ⟨m, rfl, hm', hB, HN2⟩ := hrel
        clear HB
        have HB := Lib.hid hB
        clear hB f0
        by_cases hlm : m < hs.length
        · have f0 : wr.cell? ⟨g, 0, none⟩ = some (.slice A hs.length c) := ((HB0.out.trans (HB.out.mono HB0.out.size)).cell (p := ⟨g, 0, none⟩) hglt).trans (HGC.out.cell 0)
          go_wp2_with fail
          go_loopw [30] (fun i wr => ∃ l : Nat, i = .int .i64 l ∧ l ≤ hs.length ∧ Below w0.heap.size w0 wr ∧ Hid (∀ c, c < l → (structQ hs q) k m c = false)) (fun i _ => hs.length - (intOf i).toNat)
          case atStart => exact ⟨0, rfl, by omega, HB.out, Lib.hid (fun c hc => by omega)⟩
          case round =>
            obtain ⟨l, rfl, hl', hB, HN3⟩ := hrel
            clear HB
            have HB := Lib.hid hB
            clear hB f0
            by_cases hll : l < hs.length
            · have HBw := Lib.hid (HB0.out.trans (HB.out.mono HB0.out.size))
              have HDg := Lib.hid (dangerous_any k m l hlk hlm hll (HG.out.below HBw.out) (HH.out.below HBw.out) HV.out)
              go_wp2_with fail
              refine HDg.out.mono ?_
              obtain ⟨d, hd⟩ : ∃ d, d = structB hs k m l := ⟨_, rfl⟩
              rw [← hd]
              have HD := Lib.hid hd
              rintro e w1 ⟨rfl, hb1⟩
              have hB1 := hb1
              have HB1 := Lib.hid (HB.out.trans (hb1.mono HB.out.size))
              clear hb1 hd
              cases d
              · have HNn := Lib.hid (show ∀ c, c < l + 1 → (structQ hs q) k m c = false from fun c hc => by
                  by_cases e : c = l
                  · subst e; exact (by show (structB hs k m c && decide (k = q ∨ m = q ∨ c = q)) = false; rw [← HD.out]; rfl)
                  · exact HN3.out c (by omega))
                go_wp2_with fail
                go_roundw
                case rel => exact ⟨l + 1, by go_num, by omega, HB1.out, HNn⟩
                case measure => simp [intOf]; omega
              · have hq1 : w1.cell? ⟨ib, 0, none⟩ = some (.int .i64 q) := ((HBw.out.trans (hB1.mono HBw.out.size)).cell (p := ⟨ib, 0, none⟩) hib).trans hq
                go_wp2_with fail
                refine (touches k m l q w1 hq1).mono ?_
                by_cases ht : k = q ∨ m = q ∨ l = q
                · rw [decide_eq_true ht]
                  have HT := Lib.hid ht
                  rintro e w2 ⟨rfl, rfl⟩
                  have HR := Lib.hid (show tripleOf hs.length (structQ hs q) = some (k, m, l) from tripleOf_first hlk hlm hll (by show (structB hs k m l && decide (k = q ∨ m = q ∨ l = q)) = true; rw [← HD.out, decide_eq_true HT.out]; rfl) (fun a b c ha hb hc => HN.out a b c ha hb hc) (fun b c hb hc => HN2.out b c hb hc) (fun c hc => HN3.out c hc))
                  have hcc := HC0.out.kept (HB1.out.block w.heap.size (by omega))
                  have r0 : w1.cell? ⟨w.heap.size, 0, none⟩ = some (.int .i64 0) := hcc.cell 0
                  have r1 : w1.cell? ⟨w.heap.size, 1, none⟩ = some (.int .i64 0) := hcc.cell 1
                  have r2 : w1.cell? ⟨w.heap.size, 2, none⟩ = some (.int .i64 0) := hcc.cell 2
                  have f0 : w1.frozen? ⟨w.heap.size, 0, none⟩ = false := hcc.free 0
                  have f1 : w1.frozen? ⟨w.heap.size, 1, none⟩ = false := hcc.free 1
                  have f2 : w1.frozen? ⟨w.heap.size, 2, none⟩ = false := hcc.free 2
                  have hwz : w.heap.size < w1.heap.size := hcc.lt
                  have HEnd := Lib.hid ((((HB0.out.trans (HB1.out.mono HB0.out.size)).setCell (p := ⟨w.heap.size, 0, none⟩) (Nat.le_refl _) (.int .i64 k)).setCell (p := ⟨w.heap.size, 1, none⟩) (Nat.le_refl _) (.int .i64 m)).setCell (p := ⟨w.heap.size, 2, none⟩) (Nat.le_refl _) (.int .i64 l))
                  have q0 : (w1.setCell ⟨w.heap.size, 0, none⟩ (.int .i64 k)).cell? ⟨w.heap.size, 0, none⟩ = some (.int .i64 k) := (hcc.set 0 (.int .i64 k)).cell 0
                  have q1 : ((w1.setCell ⟨w.heap.size, 0, none⟩ (.int .i64 k)).setCell ⟨w.heap.size, 1, none⟩ (.int .i64 m)).cell? ⟨w.heap.size, 1, none⟩ = some (.int .i64 m) := ((hcc.set 0 (.int .i64 k)).set 1 (.int .i64 m)).cell 1
                  have q2 : (((w1.setCell ⟨w.heap.size, 0, none⟩ (.int .i64 k)).setCell ⟨w.heap.size, 1, none⟩ (.int .i64 m)).setCell ⟨w.heap.size, 2, none⟩ (.int .i64 l)).cell? ⟨w.heap.size, 2, none⟩ = some (.int .i64 l) := (((hcc.set 0 (.int .i64 k)).set 1 (.int .i64 m)).set 2 (.int .i64 l)).cell 2
                  have Q := Lib.hid (And.intro q0 (And.intro q1 q2))
                  clear q0 q1 q2
                  clear hcc
                  go_wp2_with fail
                  obtain ⟨q0, q1, q2⟩ := Q.out
                  refine bodyPost_ret (v := .tuple #[.agg #[.int .i64 k, .int .i64 m, .int .i64 l], .bool true]) (by simp [results, Try.results63, go_sem, q0, q1, q2]) rfl ⟨by rw [HR.out]; rfl, HEnd.out⟩
                · rw [decide_eq_false ht]
                  have HT := Lib.hid ht
                  rintro e w2 ⟨rfl, rfl⟩
                  have HNn := Lib.hid (show ∀ c, c < l + 1 → (structQ hs q) k m c = false from fun c hc => by
                    by_cases e : c = l
                    · subst e; show (structB hs k m c && decide (k = q ∨ m = q ∨ c = q)) = false; rw [decide_eq_false HT.out, Bool.and_false]
                    · exact HN3.out c (by omega))
                  clear ht
                  go_wp2_with fail
                  go_roundw
                  case rel => exact ⟨l + 1, by go_num, by omega, HB1.out, HNn⟩
                  case measure => simp [intOf]; omega
            · obtain rfl : l = hs.length := by omega
              have HNn := Lib.hid (show ∀ b c, b < m + 1 → c < hs.length → (structQ hs q) k b c = false from fun b c hb hc => by
                by_cases e : b = m
                · subst e; exact HN3.out c hc
                · exact HN2.out b c (by omega) hc)
              go_wp2_with fail
              go_roundw
              case rel => exact ⟨m + 1, by go_num, by omega, HB.out, HNn⟩
              case measure => simp [intOf]; omega
        · obtain rfl : m = hs.length := by omega
          have HNn := Lib.hid (show ∀ a b c, a < k + 1 → b < hs.length → c < hs.length → (structQ hs q) a b c = false from fun a b c ha hb hc => by
            by_cases e : a = k
            · subst e; exact HN2.out b c hb hc
            · exact HN.out a b c (by omega) hb hc)
          go_wp2_with fail
          go_roundw
          case rel => exact ⟨k + 1, by go_num, by omega, HB.out, HNn⟩
          case measure => simp [intOf]; omega
    · obtain rfl : k = hs.length := by omega
      have HR := Lib.hid (show tripleOf hs.length (structQ hs q) = none from tripleOf_none.2 (fun a b c ha hb hc => HN.out a b c ha hb hc))
      have hcc := HC0.out.kept (HB.out.block w.heap.size (by omega))
      have r0 : wr.cell? ⟨w.heap.size, 0, none⟩ = some (.int .i64 0) := hcc.cell 0
      have r1 : wr.cell? ⟨w.heap.size, 1, none⟩ = some (.int .i64 0) := hcc.cell 1
      have r2 : wr.cell? ⟨w.heap.size, 2, none⟩ = some (.int .i64 0) := hcc.cell 2
      have f0 : wr.frozen? ⟨w.heap.size, 0, none⟩ = false := hcc.free 0
      have f1 : wr.frozen? ⟨w.heap.size, 1, none⟩ = false := hcc.free 1
      have f2 : wr.frozen? ⟨w.heap.size, 2, none⟩ = false := hcc.free 2
      have hwz : w.heap.size < wr.heap.size := hcc.lt
      have HEnd := Lib.hid ((((HB0.out.trans (HB.out.mono HB0.out.size)).setCell (p := ⟨w.heap.size, 0, none⟩) (Nat.le_refl _) (.int .i64 0)).setCell (p := ⟨w.heap.size, 1, none⟩) (Nat.le_refl _) (.int .i64 0)).setCell (p := ⟨w.heap.size, 2, none⟩) (Nat.le_refl _) (.int .i64 0))
      clear hcc
      go_wp2_with fail
      refine bodyPost_ret (v := .tuple #[.agg #[.int .i64 0, .int .i64 0, .int .i64 0], .bool false]) (by simp [results, Try.results63, go_sem, r0, r1, r2]) rfl ⟨by rw [HR.out]; rfl, HEnd.out⟩
set_option maxRecDepth 100000 in
set_option maxHeartbeats 2000000 in
theorem dangerousF_any {w : World} {v : Value} {hs : List Acc} (k : Hist w v hs) :
    Calls Try.prog 31 #[v] w fun e w' => e = .returned (tripleV (dangerousL hs)) ∧ Below w.heap.size w w' := by
  have HK := Lib.hid k
  have HG := Lib.hid (graph_any (k.alloc (.cells #[.int .i64 0, .int .i64 0, .int .i64 0] 47)))
  clear k
  have HC0 := Lib.hid (Cells.made w 47 #[.int .i64 0, .int .i64 0, .int .i64 0])
  by_cases hv : checkL hs = 0
  · have HV := Lib.hid hv
    have HR := Lib.hid (show dangerousL hs = tripleOf hs.length (structB hs) by unfold dangerousL; rw [if_pos hv])
    clear hv
    go_enter Try.func31, Try.ntmps31
    go_wp2_with fail
    refine HG.out.mono ?_
    rintro e w1 ⟨hg, hb⟩
    unfold IsGraph at hg
    rw [if_pos HV.out] at hg
    obtain ⟨g, rfl, hgr, -⟩ := hg
    have HGr := Lib.hid hgr
    have HB := Lib.hid hb
    clear hgr hb
    have HB1 : Hid (Below w.heap.size w w1) := Lib.hid (((Below.refl _ _).alloc (Nat.le_refl _) _).trans (HB.out.mono (by simp)))
    go_wp2_with fail
    refine (structure_any HGr.out (HK.out.below HB1.out) (checkL_zero.1 HV.out)).mono ?_
    obtain ⟨r, hr⟩ : ∃ r, r = tripleOf hs.length (structB hs) := ⟨_, rfl⟩
    rw [← hr] at HR ⊢
    clear hr
    rintro e w2 ⟨rfl, hb2⟩
    have HB2 := Lib.hid (HB1.out.trans (hb2.mono HB1.out.size))
    have hcc := HC0.out.kept ((hb2.block w.heap.size (by have := HB.out.size; simp at this; omega)).trans (HB.out.block w.heap.size (by simp)))
    have r0 : w2.cell? ⟨w.heap.size, 0, none⟩ = some (.int .i64 0) := hcc.cell 0
    have r1 : w2.cell? ⟨w.heap.size, 1, none⟩ = some (.int .i64 0) := hcc.cell 1
    have r2 : w2.cell? ⟨w.heap.size, 2, none⟩ = some (.int .i64 0) := hcc.cell 2
    have f0 : w2.frozen? ⟨w.heap.size, 0, none⟩ = false := hcc.free 0
    have f1 : w2.frozen? ⟨w.heap.size, 1, none⟩ = false := hcc.free 1
    have f2 : w2.frozen? ⟨w.heap.size, 2, none⟩ = false := hcc.free 2
    have hwz : w.heap.size < w2.heap.size := hcc.lt
    have HCC := Lib.hid hcc
    clear hb2 hcc
    have key : ∀ a b c : Int, ((w2.setCell ⟨w.heap.size, 0, none⟩ (.int .i64 a)).cell? ⟨w.heap.size, 0, none⟩ = some (.int .i64 a)) ∧ ((w2.setCell ⟨w.heap.size, 0, none⟩ (.int .i64 a)).setCell ⟨w.heap.size, 1, none⟩ (.int .i64 b)).cell? ⟨w.heap.size, 1, none⟩ = some (.int .i64 b) ∧
        (((w2.setCell ⟨w.heap.size, 0, none⟩ (.int .i64 a)).setCell ⟨w.heap.size, 1, none⟩ (.int .i64 b)).setCell ⟨w.heap.size, 2, none⟩ (.int .i64 c)).cell? ⟨w.heap.size, 2, none⟩ = some (.int .i64 c) ∧
        Below w.heap.size w (((w2.setCell ⟨w.heap.size, 0, none⟩ (.int .i64 a)).setCell ⟨w.heap.size, 1, none⟩ (.int .i64 b)).setCell ⟨w.heap.size, 2, none⟩ (.int .i64 c)) := fun a b c =>
      ⟨(HCC.out.set 0 (.int .i64 a)).cell 0, ((HCC.out.set 0 (.int .i64 a)).set 1 (.int .i64 b)).cell 1, (((HCC.out.set 0 (.int .i64 a)).set 1 (.int .i64 b)).set 2 (.int .i64 c)).cell 2,
        ((HB2.out.setCell (p := ⟨w.heap.size, 0, none⟩) (Nat.le_refl _) _).setCell (p := ⟨w.heap.size, 1, none⟩) (Nat.le_refl _) _).setCell (p := ⟨w.heap.size, 2, none⟩) (Nat.le_refl _) _⟩
    have KEY := Lib.hid key
    clear key
    match r with
    | none =>
      unfold tripleV
      go_wp2_with fail
      obtain ⟨q0, q1, q2, q3⟩ := KEY.out 0 0 0
      refine bodyPost_ret (v := .tuple #[.agg #[.int .i64 0, .int .i64 0, .int .i64 0], .bool false]) (by simp [results, Try.results31, go_sem, q0, q1, q2]) rfl ⟨by rw [HR.out]; rfl, q3⟩
    | some (a, b, c) =>
      unfold tripleV
      go_wp2_with fail
      obtain ⟨q0, q1, q2, q3⟩ := KEY.out a b c
      refine bodyPost_ret (v := .tuple #[.agg #[.int .i64 a, .int .i64 b, .int .i64 c], .bool true]) (by simp [results, Try.results31, go_sem, q0, q1, q2]) rfl ⟨by rw [HR.out]; rfl, q3⟩
  · have HV := Lib.hid hv
    have HR := Lib.hid (show dangerousL hs = none by unfold dangerousL; rw [if_neg hv])
    clear hv
    go_enter Try.func31, Try.ntmps31
    go_wp2_with fail
    refine HG.out.mono ?_
    rintro e w1 ⟨hg, hb⟩
    unfold IsGraph at hg
    rw [if_neg HV.out] at hg
    subst hg
    have HB := Lib.hid hb
    clear hb
    have HB1 : Hid (Below w.heap.size w w1) := Lib.hid (((Below.refl _ _).alloc (Nat.le_refl _) _).trans (HB.out.mono (by simp)))
    have hcc := HC0.out.kept (HB.out.block w.heap.size (by simp))
    have r0 : w1.cell? ⟨w.heap.size, 0, none⟩ = some (.int .i64 0) := hcc.cell 0
    have r1 : w1.cell? ⟨w.heap.size, 1, none⟩ = some (.int .i64 0) := hcc.cell 1
    have r2 : w1.cell? ⟨w.heap.size, 2, none⟩ = some (.int .i64 0) := hcc.cell 2
    have f0 : w1.frozen? ⟨w.heap.size, 0, none⟩ = false := hcc.free 0
    have f1 : w1.frozen? ⟨w.heap.size, 1, none⟩ = false := hcc.free 1
    have f2 : w1.frozen? ⟨w.heap.size, 2, none⟩ = false := hcc.free 2
    have hwz : w.heap.size < w1.heap.size := hcc.lt
    have HCC := Lib.hid hcc
    clear hcc
    go_wp2_with fail
    refine bodyPost_ret (v := .tuple #[.agg #[.int .i64 0, .int .i64 0, .int .i64 0], .bool false]) (by simp [results, Try.results31, go_sem, (HCC.out.set 0 (.int .i64 0)).cell 0, ((HCC.out.set 0 (.int .i64 0)).set 1 (.int .i64 0)).cell 1, (((HCC.out.set 0 (.int .i64 0)).set 1 (.int .i64 0)).set 2 (.int .i64 0)).cell 2]) rfl ⟨by rw [HR.out]; rfl, ((HB1.out.setCell (p := ⟨w.heap.size, 0, none⟩) (Nat.le_refl _) _).setCell (p := ⟨w.heap.size, 1, none⟩) (Nat.le_refl _) _).setCell (p := ⟨w.heap.size, 2, none⟩) (Nat.le_refl _) _⟩
end Go.Proofs.Ytlfpkikmofgjfaa
