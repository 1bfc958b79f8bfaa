/- The reference's walk of Cycle. -/
import Derived.Test.YtlfpkikmofgjfaaRefH
import Derived.Test.YtlfpkikmofgjfaaWalkM
namespace Go.Proofs.Ytlfpkikmofgjfaa
open Go.RowKit

section
variable {ops : Array Oper} {rest : List Oper} {o : Oper} {a : Act} {Q : Exit → Act → World → Prop}
/-- 'append(v, x)', x a whole number; and where the new row lies. -/
theorem wpList_app_intB (W : World) (base : Nat) (hgd : o.guard = none) (s x : Operand) (ho : o.op = .call { callee := .builtin .append, args := #[s, x], argTypes := #[27, 27] })
    (v : Value) (xs : List Int) (y : Int) (hs : a.eval s = v) (hx : a.eval x = .slice (some ⟨W.heap.size, 0, none⟩) 1 1) (hv : Row W base 3 v xs) (hn : xs.length ≤ 1000000) (hbase : base ≤ W.heap.size)
    (hK : ∀ v1 w1, Row w1 base 3 v1 (xs ++ [y]) → W.grownBy w1 v.ownBlock → (∀ b, v.ownBlock = some b → base ≤ b) → (v1.ownBlock = v.ownBlock ∨ ∃ b, v1.ownBlock = some b ∧ W.heap.size ≤ b) → wpList Try.prog ops Q rest (a.put o.dst v1) w1) :
    wpList Try.prog ops Q (o :: rest) a (W.alloc (.cells #[.int .i64 y] 3)) := by
  refine wpList_app_one W base hgd s x 27 3 (.int .i64 0) 1 8 ho Try.underlying27 info3 rfl (by omega) v xs.length (xs.map fun x => Value.int .i64 x) [.int .i64 y] hs hx hv.1 rfl (by simp [Value.oneCell']) (by simp only [maxLen]; omega) (by omega) hbase (fun v1 w1 h1 h2 h3 => hK v1 w1 ⟨?_, fun e => ?_⟩ h2 (fun b hb => (hv.1.lt b hb).1) h3)
  · simpa using h1
  · simp at e
end
structure RCyc (w : World) (hs : List Acc) (f N ob m p : Nat) (pre : List Nat) (v : Value) (wr : World) : Prop where
  len : pre.length = p + 1
  hfar : IsFar hs f (m + 1) (pre.getD p 0)
  cyc : pre ++ pathGo hs f (pre.getD p 0) m = cycleL hs
  row : Row wr w.heap.size 3 v (natsV pre)
  below : Below w.heap.size w wr
  hob : ob < wr.heap.size
  cells : ∀ x, x < hs.length → wr.cell? ⟨ob, x, none⟩ = some (.int .i64 (far hs f x : Nat))
theorem RCyc.drewN {w wr : World} {hs : List Acc} {f N ob m p : Nat} {pre : List Nat} {v : Value} (s : RCyc w hs f N ob m p pre v wr) (n : Nat) : RCyc w hs f N ob m p pre v (wr.drewN n) :=
  ⟨s.len, s.hfar, s.cyc, s.row.drewN n, Below.drewN' s.below n, s.hob, s.cells⟩
theorem RCyc.step {w wr w1 : World} {hs : List Acc} {f N ob m p g : Nat} {pre : List Nat} {v v1 : Value} (s : RCyc w hs f N ob (m + 1) p pre v wr) (hg : v.ownBlock = some g) (hne : g ≠ ob) (h1 : Row w1 w.heap.size 3 v1 (natsV pre ++ [((stepL hs f (pre.getD p 0) (m + 1) : Nat) : Int)])) (h2 : wr.grownBy w1 v.ownBlock) (h3 : ∀ b, v.ownBlock = some b → w.heap.size ≤ b) : RCyc w hs f N ob m (p + 1) (pre ++ [stepL hs f (pre.getD p 0) (m + 1)]) v1 w1 := by
  obtain ⟨j, hj, _, _, hfar⟩ := stepL_spec s.hfar
  have hlast : (pre ++ [j]).getD (p + 1) 0 = j := by rw [← s.len]; simp [List.getD]
  have hblk : w1.heap[ob]? = wr.heap[ob]? := h2.block ob s.hob (fun e => by rw [hg] at e; injection e with e; exact hne e.symm)
  rw [hj] at h1 ⊢
  refine ⟨by simp [s.len], by rw [hlast]; exact hfar, ?_, by rw [natsV_snoc]; exact h1, s.below.grown h2 s.below.size (fun q hq => h3 q hq), by have := h2.size; have := s.hob; omega, fun x hx => (World.cell?_of_block (a := ⟨ob, x, none⟩) hblk).trans (s.cells x hx)⟩
  rw [hlast, ← s.cyc, List.append_assoc]
  conv => rhs; unfold pathGo
  rw [hj]
  rfl
/-- The loop of the reference that goes the way back. -/
def RCycSt (w : World) (hs : List Acc) (f N ob m : Nat) (v : Value) (wr : World) : Prop :=
  ∃ (pre : List Nat) (p g cp : Nat), v = .slice (some ⟨g, 0, none⟩) (p + 1) cp ∧ Hid (p + 1 + m = N) ∧ g ≠ ob ∧ Hid (RCyc w hs f N ob m p pre (.slice (some ⟨g, 0, none⟩) (p + 1) cp) wr)
set_option maxRecDepth 100000 in
set_option maxHeartbeats 2000000 in
theorem rcycle_any {w : World} {v : Value} {hs : List Acc} (h : Hist w v hs) :
    Calls Try.prog 36 #[v] w fun e w' => IsNodes w e w' (cycleL hs) ∧ Below w.heap.size w w' := by
  obtain ⟨A, c, rfl, hm, hcap, -⟩ := h.shape
  have HH := Lib.hid h
  have HCk := Lib.hid (rcheck_any h)
  clear h
  by_cases hv : checkL hs = 0
  case neg =>
    have HR := Lib.hid (show cycleL hs = [] by unfold cycleL; rw [if_neg hv])
    generalize checkL hs = cc at *
    have hcb : (cc != 0) = true := by simp [hv]
    clear hv
    go_enter Try.func36, Try.ntmps36
    go_wp2_with fail
    refine HCk.out.mono ?_
    rintro e w1 ⟨rfl, hb⟩
    have HB := Lib.hid hb
    clear hb
    go_wp2_with fail
    go_ret
    exact ⟨⟨_, rfl, by rw [HR.out]; exact Row.nil _ _ _⟩, HB.out⟩
  have HV := Lib.hid hv
  have hlen := (checkL_zero.1 hv).len
  rw [hv] at HCk
  clear hv
  go_enter Try.func36, Try.ntmps36
  go_wp2_with fail
  refine HCk.out.mono ?_
  rintro e w1 ⟨rfl, hb⟩
  have HB1 := Lib.hid hb
  clear hb HCk
  go_wp2_with fail
  go_loopw [3, 4, 5] (fun b f s wr => ∃ k N F : Nat, s = .int .i64 k ∧ k ≤ hs.length ∧ b = .int .i64 N ∧ f = .int .i64 F ∧ N ≤ 100 ∧ Hid (bestGo hs k = (F, N)) ∧ Hid (Below w.heap.size w wr)) (fun _ _ s _ => hs.length - (intOf s).toNat)
  case atStart => exact ⟨0, 0, 0, rfl, by omega, rfl, rfl, by omega, Lib.hid rfl, HB1⟩
  case round =>
    obtain ⟨k, N, F, rfl, hk, rfl, rfl, hN, HBg, HB⟩ := hrel
    clear HB1
    by_cases hlk : k < hs.length
    · go_wp2_with fail
      refine (rfar_any (HH.out.below HB.out) k hlk hlen).mono ?_
      rintro e w2 ⟨⟨ob, rfl, q1, q2, q3⟩, hb2⟩
      have HB2 := Lib.hid (HB.out.trans (hb2.mono HB.out.size))
      have hc : w2.cell? ⟨ob, k, none⟩ = some (.int .i64 (far hs k k : Nat)) := q3 k hlk
      have hfl := far_le hs k k
      obtain ⟨n, hn⟩ : ∃ n, n = far hs k k := ⟨_, rfl⟩
      rw [← hn] at hc hfl
      have HN := Lib.hid hn
      clear q3 hb2 hn
      by_cases h0 : n = 0
      · have HNx : Hid (bestGo hs (k + 1) = (F, N)) := Lib.hid (by rw [best_skip (hs := hs) (k := k) (.inl (by rw [← HN.out]; exact h0)), HBg.out])
        have hnn : ¬ 0 < n := by omega
        clear h0
        go_wp2_with fail
        go_roundw
        case rel => exact ⟨k + 1, N, F, by go_num, by omega, rfl, rfl, by omega, HNx, HB2⟩
        case measure => simp [intOf]; omega
      have hnn : 0 < n := by omega
      clear h0
      by_cases h1 : N = 0
      · have HNx : Hid (bestGo hs (k + 1) = (k, n)) := Lib.hid (by rw [best_take (hs := hs) (k := k) (by rw [← HN.out]; omega) (by rw [HBg.out]; exact .inl h1), ← HN.out])
        have hb : ((N : Int) == 0) = true := by simp [h1]
        clear h1
        go_wp2_with fail
        go_roundw
        case rel => exact ⟨k + 1, n, k, by go_num, by omega, rfl, rfl, by omega, HNx, HB2⟩
        case measure => simp [intOf]; omega
      have hb : ((N : Int) == 0) = false := by simp; omega
      by_cases h2 : n < N
      · have HNx : Hid (bestGo hs (k + 1) = (k, n)) := Lib.hid (by rw [best_take (hs := hs) (k := k) (by rw [← HN.out]; omega) (by rw [HBg.out, ← HN.out]; exact .inr h2), ← HN.out])
        clear h1
        go_wp2_with fail
        go_roundw
        case rel => exact ⟨k + 1, n, k, by go_num, by omega, rfl, rfl, by omega, HNx, HB2⟩
        case measure => simp [intOf]; omega
      · have HNx : Hid (bestGo hs (k + 1) = (F, N)) := Lib.hid (by rw [best_skip (hs := hs) (k := k) (.inr (by rw [HBg.out, ← HN.out]; show 0 < N ∧ N ≤ n; omega)), HBg.out])
        clear h1
        go_wp2_with fail
        go_roundw
        case rel => exact ⟨k + 1, N, F, by go_num, by omega, rfl, rfl, by omega, HNx, HB2⟩
        case measure => simp [intOf]; omega
    · obtain rfl : k = hs.length := by omega
      have HBest : Hid (bestL hs = (F, N)) := Lib.hid HBg.out
      clear HBg
      by_cases h0 : N = 0
      · have HR := Lib.hid (show cycleL hs = [] from cycle_none (f := F) (by rw [HBest.out, h0]))
        have hb : ((N : Int) == 0) = true := by simp [h0]
        clear h0
        go_wp2_with fail
        go_ret
        exact ⟨⟨_, rfl, by rw [HR.out]; exact Row.nil _ _ _⟩, HB.out⟩
      have hb : ((N : Int) == 0) = false := by simp; omega
      have hF : far hs F F = N := by
        rcases bestGo_spec hs hs.length with ⟨h1, _⟩ | ⟨_, h1⟩
        · have : (bestL hs).2 = 0 := h1
          rw [HBest.out] at this
          exact absurd this h0
        · have : far hs (bestL hs).1 (bestL hs).1 = (bestL hs).2 := h1
          rw [HBest.out] at this
          exact this
      have hFar := (far_iff (show 0 < N by omega)).1 hF
      have hFl := hFar.walk.lt
      have HFar := Lib.hid hFar
      have HCyc := Lib.hid (show cycleL hs = F :: pathGo hs F F (N - 1) by
        unfold cycleL
        rw [if_pos HV.out, HBest.out, if_neg (by simpa using h0)])
      have hNp : 1 ≤ N := by omega
      clear h0 hF hFar
      have hsz := HB.out.size
      have HB3 := Lib.hid (HB.out.alloc hsz (.cells #[.int .i64 (F : Nat)] 3))
      have HRow := Lib.hid (Row.lit wr w.heap.size hsz (F : Nat))
      go_wp2_with fail
      refine (rfar_any (HH.out.below HB3.out) F hFl hlen).mono ?_
      rintro e w2 ⟨⟨ob, rfl, q1, q2, q3⟩, hb2⟩
      have hgo : wr.heap.size ≠ ob := by
        have : (wr.alloc (.cells #[.int .i64 (F : Nat)] 3)).heap.size = wr.heap.size + 1 := by simp
        omega
      have HSt : Hid (RCycSt w hs F N ob (N - 1) (.slice (some ⟨wr.heap.size, 0, none⟩) 1 1) w2) := Lib.hid ⟨[F], 0, _, 1, rfl, Lib.hid (by omega), hgo, Lib.hid ⟨rfl, by rw [show N - 1 + 1 = N by omega]; exact HFar.out, by rw [HCyc.out]; rfl, HRow.out.kept hb2.size (fun b _ hb' => hb2.block b hb'), HB3.out.trans (hb2.mono HB3.out.size), q2, q3⟩⟩
      clear hb2 q3 HRow HB3 HB HCyc HFar hgo
      go_wp2_with fail
      go_loopg [7] (N - 1) (fun m v wr => RCycSt w hs F N ob m v wr)
      case atStart => exact HSt.out
      case round =>
        obtain ⟨pre, p, g, cp, rfl, HP, hgo, HC⟩ := hrel
        clear HSt
        have hpN : p + 1 ≤ N := by have := HP.out; omega
        by_cases hlt : p + 1 < N
        · obtain ⟨m, hgk⟩ : ∃ m, gk = m + 1 := ⟨gk - 1, by have := HP.out; omega⟩
          subst hgk
          have HStp := Lib.hid (fun n v1 w1 => (HC.out.drewN n).step (v1 := v1) (w1 := w1) (g := g) rfl hgo)
          obtain ⟨pb, pc, he, _, hq2, _, hq4⟩ := HC.out.row.nats (by rw [HC.out.len]; omega)
          have hgb : g = pb := by
            injection he with he
            injection he with he
            injection he with he
          subst hgb
          clear he
          have hqp : wr.cell? ⟨g, p, none⟩ = some (.int .i64 ((pre.getD p 0 : Nat) : Int)) := hq4 p (by rw [HC.out.len]; omega)
          have hal := HC.out.hfar.walk.lt
          have hsz := HC.out.below.size
          have HSp := Lib.hid (rstep_any (HH.out.below HC.out.below) F (pre.getD p 0) (m + 1) ob hFl hal HC.out.hob hlen HC.out.cells)
          have HRow := Lib.hid HC.out.row
          have HPL := Lib.hid (show (natsV pre).length = p + 1 by rw [natsV_length, HC.out.len])
          have HMm := Lib.hid (show (N : Int) - ((p : Int) + 1) = ((m + 1 : Nat) : Int) by have := HP.out; omega)
          generalize pre.getD p 0 = lst at *
          generalize hsl : stepL hs F lst (m + 1) = nx at *
          clear hq4 hsl
          have hobl := HC.out.hob
          go_wp2_with fail
          rw [HMm.out]
          refine HSp.out.mono ?_
          rintro e w3 ⟨rfl, n3, rfl⟩
          have HRow3 : Hid (Row (wr.drewN n3) w.heap.size 3 (.slice (some ⟨g, 0, none⟩) (p + 1) cp) (natsV pre)) := Lib.hid (HRow.out.drewN n3)
          clear HSp HRow
          go_wp2_with (at_builtin; refine wpList_app_intB (wr.drewN n3) w.heap.size rfl (.tmp 63) (.tmp 65) rfl _ _ nx rfl rfl HRow3.out (by rw [HPL.out]; omega) hsz ?_; intro v1 w5 h1 h2 h3 h4; have HNew := Lib.hid (HStp.out n3 v1 w5 h1 h2 h3); have HOwn := Lib.hid h4; clear h1 h2 h3 h4)
          go_roundg m
          case measure => omega
          case rel =>
            obtain ⟨g', c', e1, _, _, _, _⟩ := HNew.out.row.nats (by rw [HNew.out.len]; omega)
            rw [HNew.out.len] at e1
            refine ⟨pre ++ [nx], p + 1, g', c', e1, Lib.hid (by have := HP.out; omega), ?_, ?_⟩
            · have h4 := HOwn.out
              rw [e1] at h4
              rcases h4 with h4 | ⟨b, h4, h5⟩
              · injection h4 with h4
                have h4' : g' = g := h4
                rw [h4']
                exact hgo
              · injection h4 with h4
                have h4' : g' = b := h4
                have : (wr.drewN n3).heap.size = wr.heap.size := rfl
                omega
            · have := HNew.out
              rw [e1] at this
              exact Lib.hid this
        · have hpe : p + 1 = N := by omega
          have h0 : gk = 0 := by have := HP.out; omega
          subst h0
          have HR := Lib.hid (show cycleL hs = pre by rw [← HC.out.cyc]; simp [pathGo])
          have HE := Lib.hid hpe
          clear hpe
          go_wp2_with fail
          go_ret
          exact ⟨⟨_, rfl, by rw [HR.out]; exact HC.out.row⟩, HC.out.below⟩
end Go.Proofs.Ytlfpkikmofgjfaa
