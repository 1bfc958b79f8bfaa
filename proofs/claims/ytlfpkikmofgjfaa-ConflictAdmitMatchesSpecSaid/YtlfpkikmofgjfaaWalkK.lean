/- The walks of order and Serial. -/
import Derived.Test.YtlfpkikmofgjfaaWaits
namespace Go.Proofs.Ytlfpkikmofgjfaa
open Go.RowKit

section
variable {ops : Array Oper} {rest : List Oper} {o : Oper} {a : Act} {Q : Exit → Act → World → Prop}
/-- 'append(v, x)', x a whole number. -/
theorem wpList_app_int (W : World) (base : Nat) (hgd : o.guard = none) (s x : Operand) (ho : o.op = .call { callee := .builtin .append, args := #[s, x], argTypes := #[27, 27] })
    (v : Value) (xs : List Int) (y : Int) (hs : a.eval s = v) (hx : a.eval x = .slice (some ⟨W.heap.size, 0, none⟩) 1 1) (hv : Row W base 3 v xs) (hn : xs.length ≤ 1000000) (hbase : base ≤ W.heap.size)
    (hK : ∀ v1 w1, Row w1 base 3 v1 (xs ++ [y]) → W.grownBy w1 v.ownBlock → (∀ b, v.ownBlock = some b → base ≤ b) → wpList Try.prog ops Q rest (a.put o.dst v1) w1) :
    wpList Try.prog ops Q (o :: rest) a (W.alloc (.cells #[.int .i64 y] 3)) := by
  refine wpList_app_one W base hgd s x 27 3 (.int .i64 0) 1 8 ho Try.underlying27 info3 rfl (by omega) v xs.length (xs.map fun x => Value.int .i64 x) [.int .i64 y] hs hx hv.1 rfl (by simp [Value.oneCell']) (by simp only [maxLen]; omega) (by omega) hbase (fun v1 w1 h1 h2 h3 => hK v1 w1 ⟨?_, fun e => ?_⟩ h2 (fun b hb => (hv.1.lt b hb).1))
  · simpa using h1
  · simp at e
end
theorem MapAt.not_own {P : Program} {k e t : TypeId} {w : World} {b n base : Nat} {f : Int → Option Int} {v : Value} {xs : List Int} (h : MapAt P k e w b n f) (hr : Row w base t v xs) : v.ownBlock ≠ some b := by
  intro hv
  obtain ⟨D, ⟨es, clock, hb, _⟩, _⟩ := h
  obtain ⟨⟨hl, hr⟩, _⟩ := hr
  rcases hr with ⟨rfl, _⟩ | ⟨g, cap, cur, rfl, h2, h3, h4⟩
  · cases hv
  · injection hv with hv
    have hv' : g = b := hv
    subst hv'
    rw [hb] at h3
    cases h3
theorem MapAt.alloc {P : Program} {k e : TypeId} {w : World} {b n : Nat} {f : Int → Option Int} (h : MapAt P k e w b n f) (o : Obj) : MapAt P k e (w.alloc o) b n f := h.kept (Below.heap_alloc w o b h.lt)
theorem Row.lenV {w : World} {base : Nat} {e : TypeId} {v : Value} {xs : List Int} (h : Row w base e v xs) : ∃ A L c, v = .slice A L c := by
  rcases h.1.2 with ⟨e, h0⟩ | ⟨q, cap, cur, e, _⟩
  · exact ⟨none, 0, 0, e⟩
  · exact ⟨_, _, _, e⟩
theorem Only.below_new' {W w w1 : World} {b : Nat} (h : Only w w1 (fun c => c = b)) (h0 : Below W.heap.size W w) (hb : W.heap.size ≤ b) : Below W.heap.size W w1 :=
  h0.trans (h.below (fun c hc => by rw [hc]; exact hb) h0.size)
theorem RangeAt.not_own {P : Program} {k e t : TypeId} {w : World} {b r n cnt base : Nat} {f : Int → Option Int} {left : Int → Bool} {v : Value} {xs : List Int} (h : RangeAt P k e w b r n f left cnt) (hr : Row w base t v xs) : v.ownBlock ≠ some r := by
  intro hv
  obtain ⟨D, L, ⟨es, clock, since, seen, c0, hb, _, _, _, hi, _⟩, _⟩ := h
  obtain ⟨⟨hl, hr⟩, _⟩ := hr
  rcases hr with ⟨rfl, _⟩ | ⟨g, cap, cur, rfl, h2, h3, h4⟩
  · cases hv
  · injection hv with hv
    have hv' : g = r := hv
    subst hv'
    rw [hi] at h3
    cases h3
theorem Row.grown {w w' : World} {base : Nat} {e : TypeId} {v : Value} {xs : List Int} {row : Option Nat} (h : Row w base e v xs) (hg : w.grownBy w' row) (hr : ∀ q, row = some q → v.ownBlock ≠ some q) : Row w' base e v xs :=
  h.keptAt fun b hb => hg.block b (h.1.lt b hb).2 (fun e' => hr b e'.symm hb)
theorem RangeAt.grown {P : Program} {k e : TypeId} {w w' : World} {b r n cnt : Nat} {f : Int → Option Int} {left : Int → Bool} {row : Option Nat} (h : RangeAt P k e w b r n f left cnt) (hg : w.grownBy w' row) (hb : row ≠ some b) (hr : row ≠ some r) : RangeAt P k e w' b r n f left cnt :=
  h.kept (hg.block b h.map.lt (fun e => hb e.symm)) (hg.block r h.lt (fun e => hr e.symm))
theorem zeroI (w : World) : (zeroValue 3).run Try.prog w = .ok (.int .i64 0) w := by kernel_rfl
/-- An order, if there is one. -/
def IsSerial (w : World) (e : Ending) (w' : World) (r : Option (List Nat)) : Prop :=
  match r with
  | some t => ∃ v, e = .returned (.tuple #[v, .bool true]) ∧ Row w' w.heap.size 3 v (t.map fun i : Nat => (i : Int))
  | none => e = .returned (.tuple #[.slice none 0 0, .bool false])
/-- The loop that searches for the least one that waits for nobody. -/
def Search (w : World) (r n : Nat) (hs : List Acc) (t : List Nat) (v y : Value) (wr : World) : Prop :=
  ∃ (Y : Int) (left : Int → Bool) (cnt : Nat), y = .int .i64 Y ∧ W64 Y ∧ RangeAt Try.prog 3 3 wr w.heap.size r n (waitsF hs t) left cnt ∧ Found hs t left Y ∧ Row wr w.heap.size 3 v (t.map fun i : Nat => (i : Int)) ∧ Below w.heap.size w wr
/-- The loop that lowers the numbers of the successors of k. -/
def Lower (w : World) (r n : Nat) (hs : List Acc) (t : List Nat) (k : Nat) (v : Value) (wr : World) : Prop :=
  ∃ (left : Int → Bool) (cnt : Nat), RangeAt Try.prog 3 3 wr w.heap.size r n (mixF hs t k left) left cnt ∧ Row wr w.heap.size 3 v (t.map fun i : Nat => (i : Int)) ∧ Below w.heap.size w wr
set_option maxRecDepth 100000 in
set_option maxHeartbeats 4000000 in
theorem order_any {w : World} {g : Nat} {v : Value} {hs : List Acc} (hg : Graph w g v hs) (hh : Hist w v hs) (hl : hs.length ≤ 100) :
    Calls Try.prog 55 #[.pointer (some ⟨g, 0, none⟩)] w fun e w' => IsSerial w e w' (serialGo hs (committed hs) []) ∧ Below w.heap.size w w' := by
  obtain ⟨A, c, rfl, hm, hcap, hc⟩ := hh.shape
  have HC := Lib.hid hc
  obtain ⟨eb, hgc, heb, hr⟩ := hg
  have HR := Lib.hid hr
  have HCg := Lib.hid hgc
  have hglt := hgc.lt
  have g0 : w.cell? ⟨g, 0, none⟩ = some (.slice A hs.length c) := hgc.cell 0
  clear hr hgc hh hc
  have hmm := @run_makeMap Try.prog
  go_enter Try.func55, Try.ntmps55
  go_wp2_with fail
  go_loopw [19] (fun i wr => ∃ k : Nat, i = .int .i64 k ∧ k ≤ hs.length ∧ MapAt Try.prog 3 3 wr w.heap.size (doneTo hs k) (waitsTo hs k) ∧ Below w.heap.size w wr) (fun i _ => hs.length - (intOf i).toNat)
  case atStart => exact ⟨0, rfl, by omega, by rw [waitsTo_none]; exact MapAt.made w _ 3 3, (Below.refl _ _).alloc (Nat.le_refl _) _⟩
  case round =>
    obtain ⟨k, rfl, hk, hM, hB⟩ := hrel
    have HM := Lib.hid hM
    have HB := Lib.hid hB
    have hsz := hB.size
    clear hM hB
    have f0 : wr.cell? ⟨g, 0, none⟩ = some (.slice A hs.length c) := (HB.out.cell (p := ⟨g, 0, none⟩) hglt).trans g0
    have f1 : wr.cell? ⟨g, 1, none⟩ = some (.slice (some ⟨eb, 0, none⟩) hs.length hs.length) := (HB.out.cell (p := ⟨g, 1, none⟩) hglt).trans (HCg.out.cell 1)
    by_cases hlk : k < hs.length
    · obtain ⟨b, o, vr, vw, rfl, ha⟩ := HC.out k hlk
      obtain ⟨Ar, cr, rfl, hrm⟩ := ha.rd.r.shape
      obtain ⟨Aw, cw, rfl, hwm⟩ := ha.rd.w.shape
      obtain ⟨lt, _, c0, c1, c2, c3, c4, c5⟩ := ha.below HB.out
      obtain ⟨x, hx⟩ : ∃ x, x = tx hs k := ⟨_, rfl⟩
      rw [← hx] at c0 c1 c2 c3 c4 c5 hrm hwm
      have HX := Lib.hid hx
      clear hx ha
      cases hd : x.done
      · rw [hd] at c2
        have HS := Lib.hid (waitsTo_skip (hs := hs) (k := k) (by rw [← HX.out]; exact hd))
        have HD := Lib.hid (show doneTo hs (k + 1) = doneTo hs k by rw [doneTo_succ, ← HX.out, hd]; simp)
        clear hd
        go_wp2_with fail
        go_roundw
        case rel => exact ⟨k + 1, by go_num, by omega, by rw [HS.out, HD.out]; exact HM.out.alloc _, HB.out.alloc hsz _⟩
        case measure => simp [intOf]; omega
      · rw [hd] at c2
        have HS := Lib.hid (waitsTo_step (hs := hs) (k := k) (by rw [← HX.out]; exact hd))
        have HD := Lib.hid (show doneTo hs (k + 1) = doneTo hs k + 1 by rw [doneTo_succ, ← HX.out, hd]; simp)
        have hdl := doneTo_le hs k
        have hkw : (Lit.int .i64 (k : Int)).wf = true := wfI (by omega) (by omega)
        clear hd
        go_wp2_with (refine wpList_map_put rfl (.tmp 27) (.tmp 28) (.const (.int .i64 0)) 74 rfl Try.underlying3 Try.underlying3 Try.underlying74 k 0 rfl rfl rfl (HM.out.alloc _) (by simp only [maxLen]; omega) hkw rfl ?_; intro w2 n2 hm2 hn2 ht2; have HB2 : Hid (Below w.heap.size w w2) := Lib.hid (((Only.refl _ _).turned ht2 (.inl rfl) : Only _ w2 (fun c => c = w.heap.size)).below_new' (HB.out.alloc hsz _) (Nat.le_refl _)); have k0 : w2.cell? ⟨g, 0, none⟩ = some (.slice (some ⟨b, o, none⟩) hs.length c) := (HB2.out.cell (p := ⟨g, 0, none⟩) hglt).trans g0)
        have HM2 : Hid (MapAt Try.prog 3 3 w2 w.heap.size (doneTo hs k + 1) (upd (waitsTo hs k) k (cntTo hs k 0))) := Lib.hid (by
          rw [waitsTo_at] at hn2
          simp only [Option.isSome_none, Bool.false_eq_true, if_false] at hn2
          rw [← hn2]
          exact hm2)
        clear hm2 hn2 ht2
        go_loopw [34] (fun i wr => ∃ m : Nat, i = .int .i64 m ∧ m ≤ hs.length ∧ MapAt Try.prog 3 3 wr w.heap.size (doneTo hs k + 1) (upd (waitsTo hs k) k (cntTo hs k m)) ∧ Below w.heap.size w wr) (fun i _ => hs.length - (intOf i).toNat)
        case atStart => exact ⟨0, rfl, by omega, HM2.out, HB2.out⟩
        case round =>
          obtain ⟨m, rfl, hm', hM, hB⟩ := hrel
          clear HM HB HM2 HB2
          have HM := Lib.hid hM
          have HB := Lib.hid hB
          have hsz := hB.size
          clear hM hB f0 f1 k0 c0 c1 c2 c3 c4 c5
          have f0 : wr.cell? ⟨g, 0, none⟩ = some (.slice (some ⟨b, o, none⟩) hs.length c) := (HB.out.cell (p := ⟨g, 0, none⟩) hglt).trans g0
          have f1 : wr.cell? ⟨g, 1, none⟩ = some (.slice (some ⟨eb, 0, none⟩) hs.length hs.length) := (HB.out.cell (p := ⟨g, 1, none⟩) hglt).trans (HCg.out.cell 1)
          by_cases hlm : m < hs.length
          · obtain ⟨rb, r1, r2, r3⟩ := HR.out m hlm
            have f2 : wr.cell? ⟨eb, m, none⟩ = some (.slice (some ⟨rb, 0, none⟩) hs.length hs.length) := (HB.out.cell (p := ⟨eb, m, none⟩) heb).trans r1
            have f3 : wr.cell? ⟨rb, k, none⟩ = some (.int .i64 (bitsOf hs m k)) := (HB.out.cell (p := ⟨rb, k, none⟩) r2).trans (r3 k hlk)
            have hbe := bits_edge hs m k
            have hcs := cntTo_succ hs k m
            have hcl := cntTo_le hs k m
            generalize bitsOf hs m k = y at *
            clear r1 r3
            by_cases he : edgeB hs m k = true
            · rw [he] at hbe hcs
              rw [if_pos rfl] at hcs
              have HCS := Lib.hid hcs
              clear hcs he
              have hlook := HM.out.look (t := 74) Try.underlying3 Try.underlying3 Try.underlying74 (zeroI _) hkw
              rw [upd_at] at hlook
              simp only [Option.getD_some] at hlook
              generalize cntTo hs k m = q at *
              have hqw : (Lit.int .i64 ((q : Int) + 1)).wf = true := wfI (by omega) (by omega)
              go_wp2_with (refine wpList_map_put rfl (.tmp 48) (.tmp 49) (.tmp 51) 74 rfl Try.underlying3 Try.underlying3 Try.underlying74 k (q + 1) rfl rfl (by go_num) HM.out (by simp only [maxLen]; omega) hkw hqw ?_; intro w3 n3 hm3 hn3 ht3; have HB3 : Hid (Below w.heap.size w w3) := Lib.hid (((Only.refl _ _).turned ht3 (.inl rfl) : Only _ w3 (fun c => c = w.heap.size)).below_new' HB.out (Nat.le_refl _)))
              have HM3 : Hid (MapAt Try.prog 3 3 w3 w.heap.size (doneTo hs k + 1) (upd (waitsTo hs k) k (cntTo hs k (m + 1)))) := Lib.hid (by
                rw [upd_at] at hn3
                simp only [Option.isSome_some, if_true] at hn3
                rw [HCS.out, ← hn3]
                rw [upd_upd] at hm3
                exact hm3)
              clear hm3 hn3 ht3 hlook
              go_roundw
              case rel => exact ⟨m + 1, by go_num, by omega, HM3.out, HB3.out⟩
              case measure => simp [intOf]; omega
            · have he' : edgeB hs m k = false := by simpa using he
              rw [he'] at hbe hcs
              simp only [Bool.false_eq_true, if_false, Nat.add_zero] at hcs
              have HCS := Lib.hid hcs
              clear hcs he he'
              go_wp2_with fail
              go_roundw
              case rel => exact ⟨m + 1, by go_num, by omega, by rw [HCS.out]; exact HM.out, HB.out⟩
              case measure => simp [intOf]; omega
          · obtain rfl : m = hs.length := by omega
            go_wp2_with fail
            go_roundw
            case rel => exact ⟨k + 1, by go_num, by omega, by rw [HS.out, HD.out]; exact HM.out, HB.out⟩
            case measure => simp [intOf]; omega
    · obtain rfl : k = hs.length := by omega
      rw [waitsTo_all, doneTo_all] at HM
      have hcm : committed hs ≤ hs.length := by rw [← doneTo_all]; exact doneTo_le _ _
      go_wp2_with fail
      go_loopg [8] hs.length (fun m v wr => ∃ (t : List Nat) (n : Nat), n ≤ m ∧ n + t.length = committed hs ∧ Row wr w.heap.size 3 v (t.map fun i : Nat => (i : Int)) ∧ MapAt Try.prog 3 3 wr w.heap.size n (waitsF hs t) ∧ serialGo hs n t = serialGo hs (committed hs) [] ∧ Below w.heap.size w wr)
      case atStart => exact ⟨[], committed hs, hcm, by simp, Row.nil _ _ _, HM.out, rfl, HB.out⟩
      case round =>
        obtain ⟨t, n, hn, hnt, hrow, hM, hS, hB⟩ := hrel
        clear HM HB
        have HRow := Lib.hid hrow
        have HM := Lib.hid hM
        have HS := Lib.hid hS
        have HB := Lib.hid hB
        have hsz := hB.size
        obtain ⟨A', L', c', rfl⟩ := hrow.lenV
        have hlen := hM.len (t := 74) Try.underlying74
        clear hrow hM hS hB
        cases n with
        | zero =>
          go_wp2_with fail
          refine bodyPost_ret (v := .tuple #[.slice A' L' c', .bool true]) (by simp [results, Try.results55, go_sem]) rfl ⟨?_, HB.out⟩
          rw [← HS.out]
          exact ⟨_, rfl, HRow.out⟩
        | succ n =>
          have hnl : n ≤ 100 := by omega
          have hmp : w.heap.size < wr.heap.size := HM.out.lt
          have HM0 := Lib.hid (Nat.le_of_lt hmp)
          go_wp2_with (at_range; refine wpList_map_range rfl (.tmp 57) 74 rfl Try.underlying3 Try.underlying74 rfl HM.out ?_; intro w1 hrg hg1 hs1)
          go_frame
          have HRow1 := Lib.hid (HRow.out.grown hg1 (fun q hq => (by cases hq)))
          have HB1 := Lib.hid (HB.out.grown hg1 hsz (fun q hq => (by cases hq)))
          have HRg := Lib.hid hrg
          clear hrg hg1
          go_loopw [9] (fun y wr' => Search w wr.heap.size (n + 1) hs t (.slice A' L' c') y wr') (fun _ wr' => wr'.rangeLeft w.heap.size wr.heap.size)
          case atStart => exact ⟨-1, _, _, rfl, rfl, HRg.out, Found.start hs t, HRow1.out, HB1.out⟩
          case round =>
            obtain ⟨Y, left, cnt, rfl, hY, hrg, hfd, hrow, hB⟩ := hrel
            clear HM HRow HB HRow1 HB1 HRg
            have HRg := Lib.hid hrg
            have HFd := Lib.hid hfd
            have HRow := Lib.hid hrow
            have HB := Lib.hid hB
            clear hrg hfd hrow hB
            go_wp2_with (at_next; refine wpList_map_next rfl (.tmp 58) rfl Try.underlying3 Try.underlying3 rfl HRg.out ?_ ?_)
            · intro _ hl0
              have hnx := HFd.out.next (fun j hj => hl0 j (wfI (by omega) (by omega)))
              clear HFd hl0
              have HM := Lib.hid HRg.out.map
              have hmlt := HRg.out.map.lt
              have hsz' := HB.out.size
              clear HRg
              rcases hnx with ⟨rfl, hno⟩ | ⟨j, rfl, hj⟩
              · have HNo := Lib.hid (show serialGo hs (committed hs) [] = none by rw [← HS.out]; unfold serialGo; rw [hno])
                clear hno
                go_wp2_with fail
                refine bodyPost_ret (v := .tuple #[.slice none 0 0, .bool false]) (by simp [results, Try.results55, go_sem]) rfl ⟨?_, HB.out⟩
                rw [HNo.out]
                rfl
              · have HNx := Lib.hid (show serialGo hs n (t ++ [j]) = serialGo hs (committed hs) [] by rw [← HS.out]; conv => rhs; unfold serialGo; rw [hj])
                have HFr := Lib.hid (nextL_some hj)
                clear hj
                have hjl : j < hs.length := by
                  have := HFr.out
                  unfold freeB at this
                  simp only [Bool.and_eq_true] at this
                  exact tx_lt this.1.1
                have HNt : Hid (j ∉ t) := Lib.hid (by
                  have := HFr.out
                  unfold freeB at this
                  simp only [Bool.and_eq_true, Bool.not_eq_true', decide_eq_false_iff_not] at this
                  exact this.1.2)
                have hjw : (Lit.int .i64 (j : Int)).wf = true := wfI (by omega) (by omega)
                have hjin : (waitsF hs t j).isSome = true := by rw [waitsF_zero.2 HFr.out]; rfl
                go_wp2_with (first | (at_delete; refine wpList_map_del rfl (.tmp 78) (.tmp 79) 74 3 rfl Try.underlying3 Try.underlying74 j rfl rfl HM.out hjw hjin ?_; intro w2 hm2 ht2; have HM2 : Hid (MapAt Try.prog 3 3 w2 w.heap.size n (cut (waitsF hs t) j)) := Lib.hid hm2; have HT2 := Lib.hid ht2; clear hm2 ht2) | (at_range; refine wpList_map_range rfl (.tmp 80) 74 rfl Try.underlying3 Try.underlying74 rfl HM2.out ?_; intro w3 hrg3 hg3 hs3))
                go_frame
                have hmlt2 := HM2.out.lt
                have HRw2 := Lib.hid (HRow.out.grown HT2.out.grown (fun q hq => by cases hq; exact HM.out.not_own HRow.out))
                have HRw3 := Lib.hid (HRw2.out.grown hg3 (fun q hq => (by cases hq)))
                have HB2 := Lib.hid (HB.out.grown HT2.out.grown hsz' (fun q hq => by cases hq; exact Nat.le_refl _))
                have HB3 := Lib.hid (HB2.out.grown hg3 HB2.out.size (fun q hq => (by cases hq)))
                have HRg := Lib.hid hrg3
                have hmlt3 := HB2.out.size
                have HM00 := Lib.hid hmlt3
                clear hrg3 hg3 HM
                go_loopw [82] (fun _ wr' => Lower w w2.heap.size n hs t j (.slice A' L' c') wr') (fun _ wr' => wr'.rangeLeft w.heap.size w2.heap.size)
                case atStart => exact ⟨_, _, by rw [mixF_start]; exact HRg.out, HRw3.out, HB3.out⟩
                case round =>
                  obtain ⟨left, cnt, hrg, hrow, hB⟩ := hrel
                  clear HRow HB HRw2 HRw3 HB2 HB3 HRg
                  have HRg := Lib.hid hrg
                  have HRow := Lib.hid hrow
                  have HB := Lib.hid hB
                  clear hrg hrow hB
                  have hsz' := HB.out.size
                  go_wp2_with (at_next; refine wpList_map_next rfl (.tmp 81) rfl Try.underlying3 Try.underlying3 rfl HRg.out ?_ ?_)
                  · intro _ hl0
                    have HM := Lib.hid (HRg.out.map.congr (f' := waitsF hs (t ++ [j])) (fun x hx => mixF_end (hl0 x hx)))
                    clear HRg hl0
                    go_wp2_with (at_builtin; refine wpList_app_int wr w.heap.size rfl (.tmp 101) (.tmp 103) rfl (.slice A' L' c') _ j rfl rfl HRow.out (by simp; omega) hsz' ?_; intro v1 w5 h1 h2 h3; have HRow5 := Lib.hid h1; have HM5 := Lib.hid (HM.out.kept (h2.block _ HM.out.lt (fun e => HM.out.not_own HRow.out e.symm))); have HB5 := Lib.hid (HB.out.grown h2 hsz' (fun q hq => h3 q hq)); clear h1 h2 h3)
                    go_roundg n
                    case measure => omega
                    case rel => exact ⟨t ++ [j], n, by omega, by simp; omega, by simpa using HRow5.out, HM5.out, HNx.out, HB5.out⟩
                  · intro x cc w4 cnt4 hx hcw hlx hfx hrg4 hlt4 hg4 hs4 hen
                    have HRow4 := Lib.hid (HRow.out.grown hg4 (fun q hq => by cases hq; exact HRg.out.not_own HRow.out))
                    have HB4 := Lib.hid (HB.out.grown hg4 hsz' (fun q hq => by cases hq; exact HM00.out))
                    have hle := HRg.out.left_eq
                    have hle4 := hrg4.left_eq
                    have HRg4 := Lib.hid hrg4
                    obtain ⟨i, rfl, hi, hci, hwi⟩ := mixF_at hlx hfx
                    have HFx := Lib.hid hfx
                    have HWi := Lib.hid hwi
                    have HLx := Lib.hid hlx
                    have HCi := Lib.hid hci
                    clear hrg4 hg4 hlx hfx hwi hci HRg HRow HB
                    have hsz4 := HB4.out.size
                    have f1 : w4.cell? ⟨g, 1, none⟩ = some (.slice (some ⟨eb, 0, none⟩) hs.length hs.length) := (HB4.out.cell (p := ⟨g, 1, none⟩) hglt).trans (HCg.out.cell 1)
                    obtain ⟨rb, r1, r2, r3⟩ := HR.out j hjl
                    have f2 : w4.cell? ⟨eb, j, none⟩ = some (.slice (some ⟨rb, 0, none⟩) hs.length hs.length) := (HB4.out.cell (p := ⟨eb, j, none⟩) heb).trans r1
                    have f3 : w4.cell? ⟨rb, i, none⟩ = some (.int .i64 (bitsOf hs j i)) := (HB4.out.cell (p := ⟨rb, i, none⟩) r2).trans (r3 i hi)
                    have hbe := bits_edge hs j i
                    generalize bitsOf hs j i = y at *
                    clear r1 r3
                    by_cases he : edgeB hs j i = true
                    · rw [he] at hbe
                      have HStep := Lib.hid (mixF_step (left := left) HNt.out hjl HLx.out he HWi.out)
                      have hcp : 1 ≤ cc ∧ cc ≤ 100 := by
                        have e1 := edgeN_take (j := i) HNt.out hjl
                        rw [he, if_pos rfl] at e1
                        have e2 := edgeN_le hs t i
                        have e3 := HCi.out
                        omega
                      clear he
                      have hlook := HRg4.out.map.look (t := 74) Try.underlying3 Try.underlying3 Try.underlying74 (zeroI _) hx
                      rw [HFx.out] at hlook
                      simp only [Option.getD_some] at hlook
                      have hqw : (Lit.int .i64 (cc - 1)).wf = true := wfI (by omega) (by omega)
                      have hin : (mixF hs t j left (i : Int)).isSome = true := by rw [HFx.out]; rfl
                      go_wp2_with (at_mapUpdate; refine wpList_range_put rfl (.tmp 97) (.tmp 98) (.tmp 100) 74 rfl Try.underlying3 Try.underlying3 Try.underlying74 i (cc - 1) rfl rfl (by go_num) HRg4.out (by simp only [maxLen]; omega) hx hqw hin ?_; intro w5 hrg5 ht5)
                      have HRow5 := Lib.hid (HRow4.out.grown ht5.grown (fun q hq => by cases hq; exact HRg4.out.map.not_own HRow4.out))
                      have HB5 := Lib.hid (HB4.out.grown ht5.grown hsz4 (fun q hq => by cases hq; exact Nat.le_refl _))
                      have hle5 := hrg5.left_eq
                      have HRg5 := Lib.hid hrg5
                      clear hrg5 ht5 hlook
                      go_frame
                      go_roundw
                      case rel => exact ⟨_, cnt4, by rw [HStep.out, ← HCi.out]; exact HRg5.out, HRow5.out, HB5.out⟩
                      case measure => rw [hle, hle5]; exact hlt4
                    · have he' : edgeB hs j i = false := by simpa using he
                      rw [he'] at hbe
                      have HStep := Lib.hid (mixF_skip (left := left) HNt.out hjl HLx.out (by rw [HFx.out, HCi.out]) he' HWi.out)
                      clear he he'
                      go_wp2_with fail
                      go_roundw
                      case rel => exact ⟨_, cnt4, by rw [HStep.out]; exact HRg4.out, HRow4.out, HB4.out⟩
                      case measure => rw [hle, hle4]; exact hlt4
            · intro x cc w2 cnt2 hx hcw hlx hfx hrg2 hlt2 hg2 hs2 hen
              have HRow2 := Lib.hid (HRow.out.grown hg2 (fun q hq => by cases hq; exact HRg.out.not_own HRow.out))
              have HB2 := Lib.hid (HB.out.grown hg2 HB.out.size (fun q hq => by cases hq; exact HM0.out))
              have hle := HRg.out.left_eq
              have hle2 := hrg2.left_eq
              have HRg2 := Lib.hid hrg2
              clear hrg2 hg2 hlx
              obtain ⟨j, rfl, hj, -, -, -⟩ := waitsF_some hfx
              by_cases h0 : cc = 0
              · subst h0
                by_cases hyx : Y < 0 ∨ (j : Int) < Y
                · have HFd2 := Lib.hid (HFd.out.take hfx hyx)
                  clear hfx
                  by_cases hy : Y < 0
                  · go_wp2_with fail
                    go_roundw
                    case rel => exact ⟨j, _, cnt2, rfl, hx, HRg2.out, HFd2.out, HRow2.out, HB2.out⟩
                    case measure => rw [hle, hle2]; exact hlt2
                  · have hxy : (j : Int) < Y := by omega
                    go_wp2_with fail
                    go_roundw
                    case rel => exact ⟨j, _, cnt2, rfl, hx, HRg2.out, HFd2.out, HRow2.out, HB2.out⟩
                    case measure => rw [hle, hle2]; exact hlt2
                · have HFd2 := Lib.hid (HFd.out.skip hfx (.inr (by omega)))
                  clear hfx
                  have hy : ¬ Y < 0 := by omega
                  have hxy : ¬ (j : Int) < Y := by omega
                  clear hyx
                  go_wp2_with fail
                  go_roundw
                  case rel => exact ⟨Y, _, cnt2, rfl, hY, HRg2.out, HFd2.out, HRow2.out, HB2.out⟩
                  case measure => rw [hle, hle2]; exact hlt2
              · have HFd2 := Lib.hid (HFd.out.skip hfx (.inl h0))
                have hcc : (cc == 0) = false := by simpa using h0
                clear hfx h0
                go_wp2_with fail
                go_roundw
                case rel => exact ⟨Y, _, cnt2, rfl, hY, HRg2.out, HFd2.out, HRow2.out, HB2.out⟩
                case measure => rw [hle, hle2]; exact hlt2
theorem serial_any {w : World} {v : Value} {hs : List Acc} (k : Hist w v hs) :
    Calls Try.prog 22 #[v] w fun e w' => IsSerial w e w' (serialL hs) ∧ Below w.heap.size w w' := by
  have HG := Lib.hid (graph_any k)
  have HK := Lib.hid k
  clear k
  by_cases hv : checkL hs = 0
  · have HV := Lib.hid hv
    have HR := Lib.hid (show serialL hs = serialGo hs (committed hs) [] by unfold serialL; rw [if_pos hv])
    have HL := Lib.hid (checkL_zero.1 hv).len
    clear hv
    go_enter Try.func22, Try.ntmps22
    go_wp2_with fail
    refine HG.out.mono ?_
    rintro e w1 ⟨hg, hb⟩
    unfold IsGraph at hg
    rw [if_pos HV.out] at hg
    obtain ⟨g, rfl, hgr, hge⟩ := hg
    have HGr := Lib.hid hgr
    have HB := Lib.hid hb
    clear hgr hb hge
    go_wp2_with fail
    refine (order_any HGr.out (HK.out.below HB.out) HL.out).mono ?_
    rintro e w2 ⟨hs2, hb2⟩
    have HB2 := Lib.hid hb2
    have HS2 := Lib.hid hs2
    clear hs2 hb2
    rw [← HR.out] at HS2
    have HB3 := Lib.hid (HB.out.trans (HB2.out.mono HB.out.size))
    cases hr : serialL hs with
    | none =>
      rw [hr] at HS2
      obtain rfl : e = _ := HS2.out
      go_wp2_with fail
      refine bodyPost_ret (v := .tuple #[.slice none 0 0, .bool false]) (by simp [results, Try.results22, go_sem]) rfl ⟨by rw [hr]; rfl, HB3.out⟩
    | some t =>
      rw [hr] at HS2
      obtain ⟨u, rfl, hrow⟩ := HS2.out
      have HRow := Lib.hid (hrow.mono HB.out.size)
      clear hrow HS2
      go_wp2_with fail
      refine bodyPost_ret (v := .tuple #[u, .bool true]) (by simp [results, Try.results22, go_sem]) rfl ⟨by rw [hr]; exact ⟨_, rfl, HRow.out⟩, HB3.out⟩
  · have HV := Lib.hid hv
    have HR := Lib.hid (show serialL hs = none by unfold serialL; rw [if_neg hv])
    clear hv
    go_enter Try.func22, Try.ntmps22
    go_wp2_with fail
    refine HG.out.mono ?_
    rintro e w1 ⟨hg, hb⟩
    unfold IsGraph at hg
    rw [if_neg HV.out] at hg
    subst hg
    have HB := Lib.hid hb
    clear hb
    go_wp2_with fail
    refine bodyPost_ret (v := .tuple #[.slice none 0 0, .bool false]) (by simp [results, Try.results22, go_sem]) rfl ⟨by rw [HR.out]; rfl, HB.out⟩
end Go.Proofs.Ytlfpkikmofgjfaa
