/- The walk of ways. -/
import Derived.Test.YtlfpkikmofgjfaaWalkK
namespace Go.Proofs.Ytlfpkikmofgjfaa
open Go.RowKit

/-- A list of one element, just laid. -/
theorem Row.lit (w : World) (base : Nat) (hb : base ≤ w.heap.size) (y : Int) : Row (w.alloc (.cells #[.int .i64 y] 3)) base 3 (.slice (some ⟨w.heap.size, 0, none⟩) 1 1) [y] := by
  refine ⟨⟨rfl, .inr ⟨w.heap.size, 1, #[.int .i64 y], rfl, hb, ?_, Nat.le_refl _, by simp [maxLen], rfl, rfl⟩⟩, fun h => by cases h⟩
  exact (MapKept.heap_alloc w _).1
theorem Row.at {w : World} {base : Nat} {e : TypeId} {v : Value} {xs : List Int} (h : Row w base e v xs) (hp : 0 < xs.length) : ∃ g c, v = .slice (some ⟨g, 0, none⟩) xs.length c ∧ base ≤ g ∧ g < w.heap.size ∧ xs.length ≤ 9223372036854775807 ∧ ∀ j, j < xs.length → w.cell? ⟨g, j, none⟩ = some (.int .i64 (xs.getD j 0)) := by
  rcases h.nums with ⟨h0, _⟩ | ⟨g, c, h1, _, h3, ⟨h4, _⟩, h5, h6⟩
  · rw [h0] at hp; cases hp
  · exact ⟨g, c, h1, h4, h5, h3, h6⟩
/-- The numbers of nodes, as the program has them. -/
def natsV (q : List Nat) : List Int := q.map fun i : Nat => (i : Int)
theorem natsV_length (q : List Nat) : (natsV q).length = q.length := by simp [natsV]
theorem natsV_getD {q : List Nat} {j : Nat} (h : j < q.length) : (natsV q).getD j 0 = ((q.getD j 0 : Nat) : Int) := by simp [natsV, List.getD, List.getElem?_eq_getElem h]
theorem natsV_snoc (q : List Nat) (i : Nat) : natsV (q ++ [i]) = natsV q ++ [(i : Int)] := by simp [natsV]
theorem Row.nats {w : World} {base : Nat} {e : TypeId} {v : Value} {q : List Nat} (h : Row w base e v (natsV q)) (hp : 0 < q.length) : ∃ g c, v = .slice (some ⟨g, 0, none⟩) q.length c ∧ base ≤ g ∧ g < w.heap.size ∧ q.length ≤ 9223372036854775807 ∧ ∀ j, j < q.length → w.cell? ⟨g, j, none⟩ = some (.int .i64 (q.getD j 0 : Nat)) := by
  obtain ⟨g, c, h1, h2, h3, h4, h5⟩ := h.at (by rw [natsV_length]; exact hp)
  rw [natsV_length] at h1 h4 h5
  exact ⟨g, c, h1, h2, h3, h4, fun j hj => by rw [h5 j hj, natsV_getD hj]⟩
theorem rowIs_kept {w w' : World} {b n : Nat} {t : TypeId} {f : Nat → Value} (h : w.rowIs b t n f) (hb : w'.heap[b]? = w.heap[b]?) : w'.rowIs b t n f := by
  obtain ⟨c, h1, h2⟩ := h
  exact ⟨c, hb.trans h1, h2⟩
theorem set_eq {out : Nat → Nat} {i n x : Nat} {u : Int} (hu : u = (n : Nat)) : (if x = i then Value.int .i64 u else .int .i64 (out x : Nat)) = .int .i64 (updN out i n x : Nat) := by
  unfold updN
  split <;> simp [hu]
theorem Bfs.lev_set {h : List Acc} {to a i n : Nat} {out : Nat → Nat} {q : List Nat} (b : Bfs h to a i out q) (ha : a < q.length) (h0 : out i = 0) :
    lev (updN out i n) (if i = to then q else q ++ [i]) a = lev out q a ∧ (if i = to then q else q ++ [i]).getD a 0 = q.getD a 0 ∧ a < (if i = to then q else q ++ [i]).length := by
  have e1 : (if i = to then q else q ++ [i]).getD a 0 = q.getD a 0 := by
    split
    · rfl
    · simp [List.getD, List.getElem?_append_left ha]
  refine ⟨?_, e1, by split <;> (try rw [List.length_append]) <;> omega⟩
  unfold lev
  by_cases e : a = 0
  · rw [if_pos e, if_pos e]
  · rw [if_neg e, if_neg e, e1]
    unfold updN
    rw [if_neg]
    intro e2
    rcases (b.mem _).1 (Bfs.getD_mem ha) with h1 | h1
    · exact b.other (by omega) ha h1
    · rw [e2] at h1; exact h1 h0
/-- The outer loop of ways. -/
def WaysA (w : World) (hs : List Acc) (to a i : Nat) (v : Value) (q : List Nat) (out : Nat → Nat) (wr : World) : Prop :=
  Row wr (w.heap.size + 1) 3 v (natsV q) ∧ wr.rowIs w.heap.size 3 hs.length (fun x => .int .i64 (out x)) ∧ Bfs hs to a i out q ∧ Below w.heap.size w wr
/-- The ways to a place. -/
def IsWays (w : World) (e : Ending) (w' : World) (hs : List Acc) (to : Nat) : Prop :=
  ∃ ob, e = .returned (.slice (some ⟨ob, 0, none⟩) hs.length hs.length) ∧ w.heap.size ≤ ob ∧ ob < w'.heap.size ∧ ∀ x, x < hs.length → w'.cell? ⟨ob, x, none⟩ = some (.int .i64 (far hs to x))
set_option maxRecDepth 100000 in
set_option maxHeartbeats 4000000 in
theorem ways_any {w : World} {g : Nat} {v : Value} {hs : List Acc} (to : Nat) (hto : to < hs.length) (hg : Graph w g v hs) (hh : Hist w v hs) (hl : hs.length ≤ 100) :
    Calls Try.prog 68 #[.pointer (some ⟨g, 0, none⟩), .int .i64 to] w fun e w' => IsWays w e w' hs to ∧ Below w.heap.size w w' := by
  obtain ⟨A, c, rfl, hm, hcap, hc⟩ := hh.shape
  obtain ⟨eb, hgc, heb, hr⟩ := hg
  have HR := Lib.hid hr
  have HCg := Lib.hid hgc
  have hglt := hgc.lt
  have g0 : w.cell? ⟨g, 0, none⟩ = some (.slice A hs.length c) := hgc.cell 0
  clear hr hgc hh hc
  have hmk := fun w => run_make_row' (P := Try.prog) 27 3 (.int .i64 0) 8 Try.underlying27 info3 rfl .i64 .i64 hs.length (by omega) (by omega) w
  have HA : Hid (WaysA w hs to 0 to (.slice (some ⟨w.heap.size + 1, 0, none⟩) 1 1) [to] (fun _ => 0) ((w.alloc (.cells (madeCells #[.int .i64 0] hs.length) 3)).alloc (.cells #[.int .i64 to] 3))) := Lib.hid (by
    refine ⟨?_, ?_, Bfs.start hs to, ((Below.refl _ _).alloc (Nat.le_refl _) _).alloc (by simp) _⟩
    · have := Row.lit (w.alloc (.cells (madeCells #[.int .i64 0] hs.length) 3)) (w.heap.size + 1) (by simp) to
      simpa [natsV] using this
    · exact ((World.rowIs_made w (.int .i64 0) hs.length 3).alloc _).congr (fun i hi => by simp))
  go_enter Try.func68, Try.ntmps68
  go_wp2_with fail
  go_loopw [6, 7] (fun v i wr => ∃ (a : Nat) (q : List Nat) (out : Nat → Nat), i = .int .i64 a ∧ a ≤ q.length ∧ WaysA w hs to a to v q out wr) (fun _ i _ => hs.length - (intOf i).toNat)
  case atStart => exact ⟨0, [to], _, rfl, by simp, HA.out⟩
  case round =>
    obtain ⟨a, q, out, rfl, ha, hrow, hri, hb, hB⟩ := hrel
    clear HA
    have hqs := hb.short hto
    obtain ⟨qb, qc, rfl, hq1, hq2, hq3, hq4⟩ := hrow.nats hb.pos
    have HRow := Lib.hid hrow
    have HRi := Lib.hid hri
    have HBf := Lib.hid hb
    have HB := Lib.hid hB
    have hsz := hB.size
    have hob := hri.lt
    clear hrow hri hb hB
    by_cases haq : a < q.length
    · have hj := hq4 a haq
      obtain ⟨j, hje⟩ : ∃ j, j = q.getD a 0 := ⟨_, rfl⟩
      rw [← hje] at hj
      have HJ := Lib.hid hje
      have hjl : j < hs.length := by
        rcases (HBf.out.mem j).1 (by rw [hje]; exact Bfs.getD_mem haq) with rfl | h0
        · exact hto
        · exact (HBf.out.good j h0).walk.lt
      have hoj : wr.cell? ⟨w.heap.size, j, none⟩ = some (.int .i64 (out j)) := HRi.out.cell hjl
      have hole := HBf.out.le j
      obtain ⟨N, hN⟩ : ∃ N, N = lev out q a + 1 := ⟨_, rfl⟩
      have HN := Lib.hid hN
      have hN0 : (a = 0 → N = 1) ∧ (0 < a → N = 1 + out j) := by
        rw [hN]
        unfold lev
        rw [← hje]
        refine ⟨fun h => by rw [if_pos h], fun h => by rw [if_neg (by omega)]; omega⟩
      clear hje hN hq4
      generalize out j = oj at hoj hole hN0
      have hN1 : N ≤ 101 := by
        have h1 := hN0.1
        have h2 := hN0.2
        omega
      have HS : Hid (a < 1 ∨ 0 < a) := Lib.hid (by omega)
      rcases HS.out with e0 | e0
      case' inl =>
        obtain rfl : N = 1 := hN0.1 (by omega)
        have hz : ¬ 0 < a := by omega
        clear e0
      case' inr => obtain rfl : N = 1 + oj := hN0.2 e0
      all_goals
        clear hN0
        obtain ⟨lv, hlv⟩ : ∃ lv, lv = lev out q a := ⟨_, rfl⟩
        rw [← hlv] at HN
        go_wp2_with fail
        go_loopw [6, 10] (fun v x wr => ∃ (i : Nat) (q : List Nat) (out : Nat → Nat), x = .int .i64 i ∧ to ≤ i ∧ i ≤ hs.length ∧ a < q.length ∧ q.getD a 0 = j ∧ lev out q a = lv ∧ WaysA w hs to a i v q out wr) (fun _ x _ => hs.length - (intOf x).toNat)
        case atStart => exact ⟨to, q, out, rfl, Nat.le_refl _, by omega, haq, HJ.out.symm, hlv.symm, HRow.out, HRi.out, HBf.out, HB.out⟩
        case round =>
          obtain ⟨i, q2, out2, rfl, hti, hi, ha2, hj2, hlv2, hrow, hri, hb, hB⟩ := hrel
          clear HRow HRi HBf HB hoj hsz hob
          have HRow := Lib.hid hrow
          have HRi := Lib.hid hri
          have HBf := Lib.hid hb
          have HB := Lib.hid hB
          have hsz := hB.size
          have hob := hri.lt
          have HJ2 := Lib.hid hj2
          have HLv2 := Lib.hid hlv2
          clear hrow hri hb hB hj2 hlv2
          have f0 : wr.cell? ⟨g, 0, none⟩ = some (.slice A hs.length c) := (HB.out.cell (p := ⟨g, 0, none⟩) hglt).trans g0
          have f1 : wr.cell? ⟨g, 1, none⟩ = some (.slice (some ⟨eb, 0, none⟩) hs.length hs.length) := (HB.out.cell (p := ⟨g, 1, none⟩) hglt).trans (HCg.out.cell 1)
          by_cases hil : i < hs.length
          · obtain ⟨rb, r1, r2, r3⟩ := HR.out i hil
            have f2 : wr.cell? ⟨eb, i, none⟩ = some (.slice (some ⟨rb, 0, none⟩) hs.length hs.length) := (HB.out.cell (p := ⟨eb, i, none⟩) heb).trans r1
            have f3 : wr.cell? ⟨rb, j, none⟩ = some (.int .i64 (bitsOf hs i j)) := (HB.out.cell (p := ⟨rb, j, none⟩) r2).trans (r3 j hjl)
            have f4 : wr.cell? ⟨w.heap.size, i, none⟩ = some (.int .i64 (out2 i : Nat)) := HRi.out.cell hil
            have ff4 : wr.frozen? ⟨w.heap.size, i, none⟩ = false := HRi.out.frozen i
            have hbe := bits_edge hs i j
            generalize bitsOf hs i j = y at *
            obtain ⟨oi, hoi⟩ : ∃ oi, oi = out2 i := ⟨_, rfl⟩
            rw [← hoi] at f4
            have HOi := Lib.hid hoi
            clear r1 r3 hoi
            by_cases he : edgeB hs i j = true
            · rw [he] at hbe
              by_cases h0 : oi = 0
              · have hset := HBf.out.set ha2 hti (by rw [HJ2.out]; exact he) (by rw [← HOi.out]; exact h0)
                have hls := HBf.out.lev_set (n := lv + 1) ha2 (by rw [← HOi.out]; exact h0)
                rw [HLv2.out] at hset hls
                rw [HJ2.out] at hls
                have HRowS := fun u => (HRow.out.setCell (p := ⟨w.heap.size, i, none⟩) (by simp) u)
                have HRiS : ∀ u : Int, u = ((lv + 1 : Nat) : Int) → (wr.setCell ⟨w.heap.size, i, none⟩ (.int .i64 u)).rowIs w.heap.size 3 hs.length (fun x => .int .i64 (updN out2 i (lv + 1) x : Nat)) := fun u hu => (HRi.out.set i _).congr (fun x hx => set_eq hu)
                have HBS := fun u => HB.out.setCell (p := ⟨w.heap.size, i, none⟩) (Nat.le_refl _) u
                have HSz : ∀ u, (wr.setCell ⟨w.heap.size, i, none⟩ u).heap.size = wr.heap.size := fun u => by simp [World.setCell]
                have HQs := Lib.hid (HBf.out.short hto)
                have H1 := Lib.hid HRowS
                have H2 := Lib.hid HRiS
                have H3 := Lib.hid HBS
                have H4 := Lib.hid HSz
                clear he HRowS HRiS HBS HSz
                by_cases hit : i = to
                · rw [if_pos hit] at hset hls
                  have HSet := Lib.hid hset
                  have HLs := Lib.hid hls
                  have hne : ((i : Int) != (to : Int)) = false := by simp [hit]
                  clear hit hset hls
                  go_wp2_with fail
                  go_roundw
                  case rel => exact ⟨i + 1, q2, _, by go_num, by omega, by omega, ha2, HJ2.out, HLs.out.1, H1.out _, H2.out _ (by have := HN.out; omega), HSet.out, H3.out _⟩
                  case measure => simp [intOf]; omega
                · rw [if_neg hit] at hset hls
                  have HSet := Lib.hid hset
                  have HLs := Lib.hid hls
                  have hne : ((i : Int) != (to : Int)) = true := by simp; omega
                  clear hit hset hls
                  go_wp2_with (at_builtin; refine wpList_app_int _ (w.heap.size + 1) rfl (.tmp 72) (.tmp 74) rfl _ _ i rfl (by rw [H4.out]; rfl) (H1.out _) (by rw [natsV_length]; have := HQs.out; omega) (by rw [H4.out]; omega) ?_; intro v1 w5 h1 h2 h3; have HRow5 := Lib.hid h1; have HRi5 := Lib.hid (rowIs_kept (H2.out _ (by have := HN.out; omega)) (h2.block _ (by rw [H4.out]; exact hob) (fun e => by have := h3 _ e.symm; omega))); have HB5 := Lib.hid ((H3.out _).grown h2 (by rw [H4.out]; omega) (fun q hq => by have := h3 q hq; omega)); clear h1 h2 h3)
                  go_roundw
                  case rel => exact ⟨i + 1, q2 ++ [i], _, by go_num, by omega, by omega, HLs.out.2.2, HLs.out.2.1, HLs.out.1, by rw [natsV_snoc]; exact HRow5.out, HRi5.out, HSet.out, HB5.out⟩
                  case measure => simp [intOf]; omega
              · have HNext := Lib.hid (HBf.out.skip (fun _ => by rw [← HOi.out]; exact h0))
                clear he
                go_wp2_with fail
                go_roundw
                case rel => exact ⟨i + 1, q2, out2, by go_num, by omega, by omega, ha2, HJ2.out, HLv2.out, HRow.out, HRi.out, HNext.out, HB.out⟩
                case measure => simp [intOf]; omega
            · have HNext := Lib.hid (HBf.out.skip (fun h => absurd (by rw [HJ2.out] at h; exact h) he))
              have he' : edgeB hs i j = false := by simpa using he
              rw [he'] at hbe
              clear he he'
              go_wp2_with fail
              go_roundw
              case rel => exact ⟨i + 1, q2, out2, by go_num, by omega, by omega, ha2, HJ2.out, HLv2.out, HRow.out, HRi.out, HNext.out, HB.out⟩
              case measure => simp [intOf]; omega
          · have HNext := Lib.hid (HBf.out.next ha2 (by omega))
            go_wp2_with fail
            go_roundw
            case rel => exact ⟨_, q2, out2, by go_num, by omega, HRow.out, HRi.out, HNext.out, HB.out⟩
            case measure => simp [intOf]; omega
    · have HF := Lib.hid (HBf.out.end (by omega))
      clear HBf hq4
      go_wp2_with fail
      go_ret
      exact ⟨⟨_, rfl, Nat.le_refl _, hob, fun x hx => by rw [← HF.out x]; exact HRi.out.cell hx⟩, HB.out⟩
end Go.Proofs.Ytlfpkikmofgjfaa
