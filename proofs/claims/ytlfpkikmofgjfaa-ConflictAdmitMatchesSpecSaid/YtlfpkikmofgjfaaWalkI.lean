/- The walks of structure and Dangerous. -/
import Derived.Test.YtlfpkikmofgjfaaWalkH

namespace Go.Proofs.Ytlfpkikmofgjfaa
open Go.RowKit

theorem findUpto_succ {α : Type} (n : Nat) (f : Nat → Option α) : findUpto (n + 1) f = (findUpto n f).or (f n) := by
  unfold findUpto
  rw [List.range_succ, List.findSome?_append]
  cases h : f n <;> simp [h]
theorem findUpto_first {α : Type} {n k : Nat} {f : Nat → Option α} {x : α} (hk : k < n) (h1 : ∀ i, i < k → f i = none) (h2 : f k = some x) : findUpto n f = some x := by
  induction n with
  | zero => omega
  | succ n ih =>
    rw [findUpto_succ]
    by_cases e : k = n
    · subst e
      rw [findUpto_none.2 h1, h2]
      rfl
    · rw [ih (by omega)]
      rfl
theorem tripleOf_first {n : Nat} {p : Nat → Nat → Nat → Bool} {a b c : Nat} (ha : a < n) (hb : b < n) (hc : c < n) (hp : p a b c = true) (h1 : ∀ a' b' c', a' < a → b' < n → c' < n → p a' b' c' = false) (h2 : ∀ b' c', b' < b → c' < n → p a b' c' = false) (h3 : ∀ c', c' < c → p a b c' = false) : tripleOf n p = some (a, b, c) := by
  unfold tripleOf
  refine findUpto_first ha (fun a' ha' => ?_) (findUpto_first hb (fun b' hb' => ?_) (findUpto_first hc (fun c' hc' => ?_) (by rw [if_pos hp])))
  · rw [findUpto_none]
    intro b' hb'
    rw [findUpto_none]
    intro c' hc'
    rw [if_neg (by rw [h1 a' b' c' ha' hb' hc']; simp)]
  · rw [findUpto_none]
    intro c' hc'
    rw [if_neg (by rw [h2 b' c' hb' hc']; simp)]
  · rw [if_neg (by rw [h3 c' hc']; simp)]
/-- Three places and true, or zeros and false. -/
def tripleV : Option (Nat × Nat × Nat) → Value
  | some (a, b, c) => .tuple #[.agg #[.int .i64 a, .int .i64 b, .int .i64 c], .bool true]
  | none => .tuple #[.agg #[.int .i64 0, .int .i64 0, .int .i64 0], .bool false]
theorem always (a b c : Int) (w : World) : Calls Try.prog 64 #[.int .i64 a, .int .i64 b, .int .i64 c] w fun e w' => e = .returned (.bool true) ∧ w = w' := by
  go_enter Try.func64, Try.ntmps64
  go_wp2_with fail
  go_ret
  exact ⟨rfl, rfl⟩
set_option maxRecDepth 100000 in
set_option maxHeartbeats 2000000 in
theorem structure_any {w : World} {g : Nat} {v : Value} {hs : List Acc} (hg : Graph w g v hs) (hh : Hist w v hs) (hv : Valid hs) :
    Calls Try.prog 63 #[.pointer (some ⟨g, 0, none⟩), .func (Fn.func 64) #[] #[]] w fun e w' => e = .returned (tripleV (tripleOf hs.length (structB hs))) ∧ Below w.heap.size w w' := by
  obtain ⟨A, c, rfl, hm, hcap, -⟩ := hh.shape
  have HG := Lib.hid hg
  have HH := Lib.hid hh
  have HV := Lib.hid hv
  have hlen := hv.len
  obtain ⟨eb, hgc, -, -⟩ := hg
  have hglt := hgc.lt
  have HGC := Lib.hid hgc
  have g0 : w.cell? ⟨g, 0, none⟩ = some (.slice A hs.length c) := hgc.cell 0
  clear hh hv hgc
  go_enter Try.func63, Try.ntmps63
  go_wp2_with fail
  obtain ⟨w0, hw0⟩ : ∃ w0, w0 = w.alloc (.cells #[.int .i64 0, .int .i64 0, .int .i64 0] 47) := ⟨_, rfl⟩
  have HB0 : Hid (Below w.heap.size w w0) := Lib.hid (by rw [hw0]; exact (Below.refl _ _).alloc (Nat.le_refl _) _)
  have HC0 : Hid (Cells w0 w.heap.size 47 #[.int .i64 0, .int .i64 0, .int .i64 0]) := Lib.hid (by rw [hw0]; exact Cells.made w 47 _)
  have hz0 : w0.heap.size = w.heap.size + 1 := by rw [hw0]; simp
  have HW0 := Lib.hid hw0
  clear hw0 g0
  go_loopw [14] (fun i wr => ∃ k : Nat, i = .int .i64 k ∧ k ≤ hs.length ∧ Below w0.heap.size w0 wr ∧ Hid (∀ a b c, a < k → b < hs.length → c < hs.length → (structB hs) a b c = false)) (fun i _ => hs.length - (intOf i).toNat)
  case atStart => exact ⟨0, rfl, by omega, by rw [HW0.out]; exact Below.refl _ _, Lib.hid (fun a b c ha => by omega)⟩
  case round =>
    obtain ⟨k, rfl, hk, hB, HN⟩ := hrel
    have HB := Lib.hid hB
    clear hB
    by_cases hlk : k < hs.length
    · have f0 : wr.cell? ⟨g, 0, none⟩ = some (.slice A hs.length c) := ((HB0.out.trans (HB.out.mono HB0.out.size)).cell (p := ⟨g, 0, none⟩) hglt).trans (HGC.out.cell 0)
      go_wp2_with fail
      go_loopw [22] (fun i wr => ∃ m : Nat, i = .int .i64 m ∧ m ≤ hs.length ∧ Below w0.heap.size w0 wr ∧ Hid (∀ b c, b < m → c < hs.length → (structB hs) k b c = false)) (fun i _ => hs.length - (intOf i).toNat)
      case atStart => exact ⟨0, rfl, by omega, HB.out, Lib.hid (fun b c hb => by omega)⟩
      case round =>
        obtain ⟨m, rfl, hm', hB, HN2⟩ := hrel
        clear HB
        have HB := Lib.hid hB
        clear hB f0
        by_cases hlm : m < hs.length
        · have f0 : wr.cell? ⟨g, 0, none⟩ = some (.slice A hs.length c) := ((HB0.out.trans (HB.out.mono HB0.out.size)).cell (p := ⟨g, 0, none⟩) hglt).trans (HGC.out.cell 0)
          go_wp2_with fail
          go_loopw [30] (fun i wr => ∃ l : Nat, i = .int .i64 l ∧ l ≤ hs.length ∧ Below w0.heap.size w0 wr ∧ Hid (∀ c, c < l → (structB hs) k m c = false)) (fun i _ => hs.length - (intOf i).toNat)
          case atStart => exact ⟨0, rfl, by omega, HB.out, Lib.hid (fun c hc => by omega)⟩
          case round =>
            obtain ⟨l, rfl, hl', hB, HN3⟩ := hrel
            clear HB
            have HB := Lib.hid hB
            clear hB f0
            by_cases hll : l < hs.length
            · have HBw := Lib.hid (HB0.out.trans (HB.out.mono HB0.out.size))
              have HDg := Lib.hid (dangerous_any k m l hlk hlm hll (HG.out.below HBw.out) (HH.out.below HBw.out) HV.out)
              go_wp2_with fail
              refine HDg.out.mono ?_
              obtain ⟨d, hd⟩ : ∃ d, d = structB hs k m l := ⟨_, rfl⟩
              rw [← hd]
              have HD := Lib.hid hd
              rintro e w1 ⟨rfl, hb1⟩
              have HB1 := Lib.hid (HB.out.trans (hb1.mono HB.out.size))
              clear hb1 hd
              cases d
              · have HNn := Lib.hid (show ∀ c, c < l + 1 → (structB hs) k m c = false from fun c hc => by
                  by_cases e : c = l
                  · subst e; exact HD.out.symm
                  · exact HN3.out c (by omega))
                go_wp2_with fail
                go_roundw
                case rel => exact ⟨l + 1, by go_num, by omega, HB1.out, HNn⟩
                case measure => simp [intOf]; omega
              · go_wp2_with fail
                refine (always k m l w1).mono ?_
                rintro e w2 ⟨rfl, rfl⟩
                have HR := Lib.hid (show tripleOf hs.length (structB hs) = some (k, m, l) from tripleOf_first hlk hlm hll HD.out.symm (fun a b c ha hb hc => HN.out a b c ha hb hc) (fun b c hb hc => HN2.out b c hb hc) (fun c hc => HN3.out c hc))
                have hcc := HC0.out.kept (HB1.out.block w.heap.size (by omega))
                have r0 : w1.cell? ⟨w.heap.size, 0, none⟩ = some (.int .i64 0) := hcc.cell 0
                have r1 : w1.cell? ⟨w.heap.size, 1, none⟩ = some (.int .i64 0) := hcc.cell 1
                have r2 : w1.cell? ⟨w.heap.size, 2, none⟩ = some (.int .i64 0) := hcc.cell 2
                have f0 : w1.frozen? ⟨w.heap.size, 0, none⟩ = false := hcc.free 0
                have f1 : w1.frozen? ⟨w.heap.size, 1, none⟩ = false := hcc.free 1
                have f2 : w1.frozen? ⟨w.heap.size, 2, none⟩ = false := hcc.free 2
                have hwz : w.heap.size < w1.heap.size := hcc.lt
                have HEnd := Lib.hid ((((HB0.out.trans (HB1.out.mono HB0.out.size)).setCell (p := ⟨w.heap.size, 0, none⟩) (Nat.le_refl _) (.int .i64 k)).setCell (p := ⟨w.heap.size, 1, none⟩) (Nat.le_refl _) (.int .i64 m)).setCell (p := ⟨w.heap.size, 2, none⟩) (Nat.le_refl _) (.int .i64 l))
                have q0 : (w1.setCell ⟨w.heap.size, 0, none⟩ (.int .i64 k)).cell? ⟨w.heap.size, 0, none⟩ = some (.int .i64 k) := (hcc.set 0 (.int .i64 k)).cell 0
                have q1 : ((w1.setCell ⟨w.heap.size, 0, none⟩ (.int .i64 k)).setCell ⟨w.heap.size, 1, none⟩ (.int .i64 m)).cell? ⟨w.heap.size, 1, none⟩ = some (.int .i64 m) := ((hcc.set 0 (.int .i64 k)).set 1 (.int .i64 m)).cell 1
                have q2 : (((w1.setCell ⟨w.heap.size, 0, none⟩ (.int .i64 k)).setCell ⟨w.heap.size, 1, none⟩ (.int .i64 m)).setCell ⟨w.heap.size, 2, none⟩ (.int .i64 l)).cell? ⟨w.heap.size, 2, none⟩ = some (.int .i64 l) := (((hcc.set 0 (.int .i64 k)).set 1 (.int .i64 m)).set 2 (.int .i64 l)).cell 2
                have Q := Lib.hid (And.intro q0 (And.intro q1 q2))
                clear q0 q1 q2
                clear hcc
                go_wp2_with fail
                obtain ⟨q0, q1, q2⟩ := Q.out
                refine bodyPost_ret (v := .tuple #[.agg #[.int .i64 k, .int .i64 m, .int .i64 l], .bool true]) (by simp [results, Try.results63, go_sem, q0, q1, q2]) rfl ⟨by rw [HR.out]; rfl, HEnd.out⟩
            · obtain rfl : l = hs.length := by omega
              have HNn := Lib.hid (show ∀ b c, b < m + 1 → c < hs.length → (structB hs) k b c = false from fun b c hb hc => by
                by_cases e : b = m
                · subst e; exact HN3.out c hc
                · exact HN2.out b c (by omega) hc)
              go_wp2_with fail
              go_roundw
              case rel => exact ⟨m + 1, by go_num, by omega, HB.out, HNn⟩
              case measure => simp [intOf]; omega
        · obtain rfl : m = hs.length := by omega
          have HNn := Lib.hid (show ∀ a b c, a < k + 1 → b < hs.length → c < hs.length → (structB hs) a b c = false from fun a b c ha hb hc => by
            by_cases e : a = k
            · subst e; exact HN2.out b c hb hc
            · exact HN.out a b c (by omega) hb hc)
          go_wp2_with fail
          go_roundw
          case rel => exact ⟨k + 1, by go_num, by omega, HB.out, HNn⟩
          case measure => simp [intOf]; omega
    · obtain rfl : k = hs.length := by omega
      have HR := Lib.hid (show tripleOf hs.length (structB hs) = none from tripleOf_none.2 (fun a b c ha hb hc => HN.out a b c ha hb hc))
      have hcc := HC0.out.kept (HB.out.block w.heap.size (by omega))
      have r0 : wr.cell? ⟨w.heap.size, 0, none⟩ = some (.int .i64 0) := hcc.cell 0
      have r1 : wr.cell? ⟨w.heap.size, 1, none⟩ = some (.int .i64 0) := hcc.cell 1
      have r2 : wr.cell? ⟨w.heap.size, 2, none⟩ = some (.int .i64 0) := hcc.cell 2
      have f0 : wr.frozen? ⟨w.heap.size, 0, none⟩ = false := hcc.free 0
      have f1 : wr.frozen? ⟨w.heap.size, 1, none⟩ = false := hcc.free 1
      have f2 : wr.frozen? ⟨w.heap.size, 2, none⟩ = false := hcc.free 2
      have hwz : w.heap.size < wr.heap.size := hcc.lt
      have HEnd := Lib.hid ((((HB0.out.trans (HB.out.mono HB0.out.size)).setCell (p := ⟨w.heap.size, 0, none⟩) (Nat.le_refl _) (.int .i64 0)).setCell (p := ⟨w.heap.size, 1, none⟩) (Nat.le_refl _) (.int .i64 0)).setCell (p := ⟨w.heap.size, 2, none⟩) (Nat.le_refl _) (.int .i64 0))
      clear hcc
      go_wp2_with fail
      refine bodyPost_ret (v := .tuple #[.agg #[.int .i64 0, .int .i64 0, .int .i64 0], .bool false]) (by simp [results, Try.results63, go_sem, r0, r1, r2]) rfl ⟨by rw [HR.out]; rfl, HEnd.out⟩
end Go.Proofs.Ytlfpkikmofgjfaa
