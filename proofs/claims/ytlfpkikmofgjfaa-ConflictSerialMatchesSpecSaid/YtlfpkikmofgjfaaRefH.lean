/- The reference's walks of far and step. -/
import Derived.Test.YtlfpkikmofgjfaaRefB
import Derived.Test.YtlfpkikmofgjfaaFar
import Derived.Test.YtlfpkikmofgjfaaWalkL
namespace Go.Proofs.Ytlfpkikmofgjfaa
open Go.RowKit

/-- The row of far, in the round n, at the place (i, j). -/
structure FarSt (w : World) (hs : List Acc) (ob to n i j : Nat) (wr : World) : Prop where
  row : wr.rowIs ob 3 hs.length (fun x => .int .i64 (outN hs to n i j x : Nat))
  below : Below w.heap.size w wr
theorem FarSt.drewN {w wr : World} {hs : List Acc} {ob to n i j : Nat} (s : FarSt w hs ob to n i j wr) (m : Nat) : FarSt w hs ob to n i j (wr.drewN m) := ⟨s.row, Below.drewN' s.below m⟩
theorem FarSt.miss {w wr : World} {hs : List Acc} {ob to n i j : Nat} (s : FarSt w hs ob to n i j wr) (hi : to ≤ i) (hj : to ≤ j) (hn : 1 ≤ n) (hm : edgeB hs i j = false ∨ nearN hs to n j = false ∨ outN hs to n i j i ≠ 0) : FarSt w hs ob to n i (j + 1) wr :=
  ⟨s.row.congr fun x _ => by rw [outN_miss hi hj hn hm], s.below⟩
theorem FarSt.hit {w wr : World} {hs : List Acc} {ob to n i j : Nat} (s : FarSt w hs ob to n i j wr) (hob : w.heap.size ≤ ob) (hi : to ≤ i) (hj : to ≤ j) (hn : 1 ≤ n) (he : edgeB hs i j = true) (hr : nearN hs to n j = true) (h0 : outN hs to n i j i = 0) : FarSt w hs ob to n i (j + 1) (wr.setCell ⟨ob, i, none⟩ (.int .i64 (n : Nat))) :=
  ⟨(s.row.set i (.int .i64 (n : Nat))).congr fun x _ => by
    rw [outN_hit hi hj hn he hr h0]
    split <;> rfl, s.below.setCell hob _⟩
theorem near_cases (hs : List Acc) (to n j : Nat) (hn : 1 ≤ n) : (nearN hs to n j = true ∧ ((n ≤ 1 ∧ j = to) ∨ (1 < n ∧ j ≠ to ∧ dist hs to (n - 1) j = n - 1))) ∨ (nearN hs to n j = false ∧ ((n ≤ 1 ∧ j ≠ to) ∨ (1 < n ∧ j = to) ∨ (1 < n ∧ j ≠ to ∧ dist hs to (n - 1) j ≠ n - 1))) := by
  unfold nearN
  by_cases h1 : n = 1
  · subst h1
    by_cases h2 : j = to
    · exact .inl ⟨by simp [h2], .inl ⟨by omega, h2⟩⟩
    · exact .inr ⟨by simp [h2], .inl ⟨by omega, h2⟩⟩
  · by_cases h2 : j = to
    · exact .inr ⟨by simp [h1, h2], .inr (.inl ⟨by omega, h2⟩)⟩
    · by_cases h3 : dist hs to (n - 1) j = n - 1
      · exact .inl ⟨decide_eq_true (.inr ⟨by omega, h2, h3⟩), .inr ⟨by omega, h2, h3⟩⟩
      · exact .inr ⟨decide_eq_false (by rintro (⟨k, _⟩ | ⟨_, _, k⟩); exact h1 k; exact h3 k), .inr (.inr ⟨by omega, h2, h3⟩)⟩
set_option maxRecDepth 100000 in
set_option maxHeartbeats 4000000 in
theorem rfar_any {w : World} {v : Value} {hs : List Acc} (h : Hist w v hs) (to : Nat) (hto : to < hs.length) (hl : hs.length ≤ 100) :
    Calls Try.prog 69 #[v, .int .i64 to] w fun e w' => IsWays w e w' hs to ∧ Below w.heap.size w w' := by
  obtain ⟨A, c, rfl, hm, hcap, -⟩ := h.shape
  have HH := Lib.hid h
  clear h
  have hmk := fun w => run_make_row' (P := Try.prog) 27 3 (.int .i64 0) 8 Try.underlying27 info3 rfl .i64 .i64 hs.length (by omega) (by omega) w
  obtain ⟨w0, hw0⟩ : ∃ w0, w.alloc (.cells (madeCells #[.int .i64 0] hs.length) 3) = w0 := ⟨_, rfl⟩
  have HS0 : Hid (FarSt w hs w.heap.size to 1 to to w0) := Lib.hid (by
    rw [← hw0]
    exact ⟨(World.rowIs_made w (.int .i64 0) hs.length 3).congr fun x _ => by rw [outN_first]; rfl, (Below.refl _ _).alloc (Nat.le_refl _) _⟩)
  go_enter Try.func69, Try.ntmps69
  go_wp2_with fail
  try rw [hw0]
  clear hw0 hmk
  obtain ⟨ob, hob⟩ : ∃ ob, w.heap.size = ob := ⟨_, rfl⟩
  have hobw : w.heap.size ≤ ob := by omega
  rw [hob] at HS0 ⊢
  clear hob
  go_loopw [6] (fun v wr => ∃ n : Nat, v = .int .i64 n ∧ 1 ≤ n ∧ n ≤ hs.length + 1 ∧ Hid (FarSt w hs ob to n to to wr)) (fun v _ => hs.length + 1 - (intOf v).toNat)
  case atStart => exact ⟨1, rfl, by omega, by omega, HS0⟩
  case round =>
    obtain ⟨n, rfl, hn1, hn2, HS⟩ := hrel
    clear HS0
    by_cases hnl : n ≤ hs.length
    · go_wp2_with fail
      go_loopw [7] (fun v wr => ∃ i : Nat, v = .int .i64 i ∧ to ≤ i ∧ i ≤ hs.length ∧ Hid (FarSt w hs ob to n i to wr)) (fun v _ => hs.length - (intOf v).toNat)
      case atStart => exact ⟨to, rfl, by omega, by omega, HS⟩
      case round =>
        obtain ⟨i, rfl, hi1, hi2, HSi⟩ := hrel
        clear HS
        by_cases hil : i < hs.length
        · go_wp2_with fail
          go_loopw [8] (fun v wr => ∃ j : Nat, v = .int .i64 j ∧ to ≤ j ∧ j ≤ hs.length ∧ Hid (FarSt w hs ob to n i j wr)) (fun v _ => hs.length - (intOf v).toNat)
          case atStart => exact ⟨to, rfl, by omega, by omega, HSi⟩
          case round =>
            obtain ⟨j, rfl, hj1, hj2, HSj⟩ := hrel
            clear HSi
            by_cases hjl : j < hs.length
            · have HE := Lib.hid (redge_any (HH.out.below HSj.out.below) i j hil hjl)
              go_wp2_with fail
              refine HE.out.mono ?_
              clear HE
              obtain ⟨em, hem⟩ : ∃ em, em = edgeB hs i j := ⟨_, rfl⟩
              rw [← hem]
              have HEm := Lib.hid hem
              clear hem
              rintro e w1 ⟨rfl, n1, rfl⟩
              have HSn := Lib.hid (HSj.out.drewN n1)
              have o1 : (wr.drewN n1).cell? ⟨ob, j, none⟩ = some (.int .i64 (outN hs to n i j j : Nat)) := HSn.out.row.cell hjl
              have o2 : (wr.drewN n1).cell? ⟨ob, i, none⟩ = some (.int .i64 (outN hs to n i j i : Nat)) := HSn.out.row.cell hil
              have of : (wr.drewN n1).frozen? ⟨ob, i, none⟩ = false := HSn.out.row.frozen i
              have hol := outN_le hs to i j j hn1
              have hoi := outN_le hs to i j i hn1
              have HMiss := Lib.hid (fun k => HSn.out.miss hi1 hj1 hn1 k)
              have HHit := Lib.hid (fun k1 k2 k3 => HSn.out.hit hobw hi1 hj1 hn1 k1 k2 k3)
              have hcs := near_cases hs to n j hn1
              have HNr := Lib.hid (fun k => outN_near hs to i j j (n := n) k)
              rw [← HEm.out] at HMiss HHit
              clear HSj
              generalize outN hs to n i j j = oj at *
              generalize outN hs to n i j i = oi at *
              generalize nearN hs to n j = nr at *
              rcases hcs with ⟨rfl, hcs⟩ | ⟨rfl, hcs⟩
              · cases em
                · have HNx := Lib.hid (HMiss.out (.inl rfl))
                  clear HMiss HHit
                  rcases hcs with ⟨h1, h2⟩ | ⟨h1, h2, h3⟩
                  · have b1 : ((n : Int) == 1) = true := by simp; omega
                    have b2 : ((j : Int) == (to : Int)) = true := by simp [h2]
                    clear h2
                    go_wp2_with fail
                    go_roundw
                    case rel => exact ⟨j + 1, by go_num, by omega, by omega, HNx⟩
                    case measure => simp [intOf]; omega
                  · have b1 : ((n : Int) == 1) = false := by simp; omega
                    have b2 : ((j : Int) != (to : Int)) = true := by simp; omega
                    have b3 : ((oj : Int) == (n : Int) - 1) = true := by
                      have := (HNr.out h1).2 h3
                      simp; omega
                    clear h2 h3 HNr
                    go_wp2_with fail
                    go_roundw
                    case rel => exact ⟨j + 1, by go_num, by omega, by omega, HNx⟩
                    case measure => simp [intOf]; omega
                · by_cases h0 : oi = 0
                  · have HNx := Lib.hid (HHit.out rfl rfl h0)
                    have b4 : ((oi : Int) == 0) = true := by simp [h0]
                    clear HMiss HHit h0
                    rcases hcs with ⟨h1, h2⟩ | ⟨h1, h2, h3⟩
                    · have b1 : ((n : Int) == 1) = true := by simp; omega
                      have b2 : ((j : Int) == (to : Int)) = true := by simp [h2]
                      clear h2
                      go_wp2_with fail
                      go_roundw
                      case rel => exact ⟨j + 1, by go_num, by omega, by omega, HNx⟩
                      case measure => simp [intOf]; omega
                    · have b1 : ((n : Int) == 1) = false := by simp; omega
                      have b2 : ((j : Int) != (to : Int)) = true := by simp; omega
                      have b3 : ((oj : Int) == (n : Int) - 1) = true := by
                        have := (HNr.out h1).2 h3
                        simp; omega
                      clear h2 h3 HNr
                      go_wp2_with fail
                      go_roundw
                      case rel => exact ⟨j + 1, by go_num, by omega, by omega, HNx⟩
                      case measure => simp [intOf]; omega
                  · have HNx := Lib.hid (HMiss.out (.inr (.inr h0)))
                    have b4 : ((oi : Int) == 0) = false := by simp; omega
                    clear HMiss HHit h0
                    rcases hcs with ⟨h1, h2⟩ | ⟨h1, h2, h3⟩
                    · have b1 : ((n : Int) == 1) = true := by simp; omega
                      have b2 : ((j : Int) == (to : Int)) = true := by simp [h2]
                      clear h2
                      go_wp2_with fail
                      go_roundw
                      case rel => exact ⟨j + 1, by go_num, by omega, by omega, HNx⟩
                      case measure => simp [intOf]; omega
                    · have b1 : ((n : Int) == 1) = false := by simp; omega
                      have b2 : ((j : Int) != (to : Int)) = true := by simp; omega
                      have b3 : ((oj : Int) == (n : Int) - 1) = true := by
                        have := (HNr.out h1).2 h3
                        simp; omega
                      clear h2 h3 HNr
                      go_wp2_with fail
                      go_roundw
                      case rel => exact ⟨j + 1, by go_num, by omega, by omega, HNx⟩
                      case measure => simp [intOf]; omega
              · have HNx := Lib.hid (HMiss.out (.inr (.inl rfl)))
                clear HMiss HHit
                rcases hcs with ⟨h1, h2⟩ | ⟨h1, h2⟩ | ⟨h1, h2, h3⟩
                · have b1 : ((n : Int) == 1) = true := by simp; omega
                  have b2 : ((j : Int) == (to : Int)) = false := by simp; omega
                  clear h2
                  cases em
                  all_goals
                    go_wp2_with fail
                    go_roundw
                    case rel => exact ⟨j + 1, by go_num, by omega, by omega, HNx⟩
                    case measure => simp [intOf]; omega
                · have b1 : ((n : Int) == 1) = false := by simp; omega
                  have b2 : ((j : Int) != (to : Int)) = false := by simp [h2]
                  clear h2
                  cases em
                  all_goals
                    go_wp2_with fail
                    go_roundw
                    case rel => exact ⟨j + 1, by go_num, by omega, by omega, HNx⟩
                    case measure => simp [intOf]; omega
                · have b1 : ((n : Int) == 1) = false := by simp; omega
                  have b2 : ((j : Int) != (to : Int)) = true := by simp; omega
                  have b3 : ((oj : Int) == (n : Int) - 1) = false := by
                    have : ¬ oj = n - 1 := fun k => h3 ((HNr.out h1).1 k)
                    simp; omega
                  clear h2 h3 HNr
                  cases em
                  all_goals
                    go_wp2_with fail
                    go_roundw
                    case rel => exact ⟨j + 1, by go_num, by omega, by omega, HNx⟩
                    case measure => simp [intOf]; omega
            · obtain rfl : j = hs.length := by omega
              have HNx : Hid (FarSt w hs ob to n (i + 1) to wr) := Lib.hid ⟨HSj.out.row.congr fun x _ => by rw [outN_row hn1], HSj.out.below⟩
              go_wp2_with fail
              go_roundw
              case rel => exact ⟨i + 1, by go_num, by omega, by omega, HNx⟩
              case measure => simp [intOf]; omega
        · obtain rfl : i = hs.length := by omega
          have HNx : Hid (FarSt w hs ob to (n + 1) to to wr) := Lib.hid ⟨HSi.out.row.congr fun x hx => by rw [outN_next x hx], HSi.out.below⟩
          go_wp2_with fail
          go_roundw
          case rel => exact ⟨n + 1, by go_num, by omega, by omega, HNx⟩
          case measure => simp [intOf]; omega
    · obtain rfl : n = hs.length + 1 := by omega
      have hob' : ob < wr.heap.size := HS.out.row.lt
      go_wp2_with fail
      go_ret
      exact ⟨⟨ob, rfl, hobw, hob', fun x hx => by rw [HS.out.row.cell hx, outN_last]⟩, HS.out.below⟩
set_option maxRecDepth 100000 in
set_option maxHeartbeats 1000000 in
theorem rstep_any {w : World} {v : Value} {hs : List Acc} (h : Hist w v hs) (f a m ob : Nat) (hf : f < hs.length) (ha : a < hs.length) (_hob : ob < w.heap.size) (hl : hs.length ≤ 100) (hw : ∀ x, x < hs.length → w.cell? ⟨ob, x, none⟩ = some (.int .i64 (far hs f x : Nat))) :
    Calls Try.prog 70 #[v, .int .i64 f, .int .i64 a, .slice (some ⟨ob, 0, none⟩) hs.length hs.length, .int .i64 m] w fun e w' => e = .returned (.int .i64 (stepL hs f a m : Nat)) ∧ ∃ n, w' = w.drewN n := by
  obtain ⟨A, c, rfl, hm, hcap, -⟩ := h.shape
  have HH := Lib.hid h
  have HW := Lib.hid hw
  clear h hw
  go_enter Try.func70, Try.ntmps70
  go_wp2_with fail
  go_loopw [11] (fun v wr => ∃ j n : Nat, v = .int .i64 j ∧ f < j ∧ j ≤ hs.length ∧ wr = w.drewN n ∧ Hid (∀ i, i < j → (decide (f < i) && edgeB hs a i && decide (far hs f i = m)) = false)) (fun v _ => hs.length - (intOf v).toNat)
  case atStart => exact ⟨f + 1, 0, by go_num, by omega, by omega, rfl, Lib.hid (fun i hi => by rw [decide_eq_false (by omega)]; rfl)⟩
  case round =>
    obtain ⟨j, n, rfl, hfj, hj, rfl, HN⟩ := hrel
    by_cases hlj : j < hs.length
    · have HE := Lib.hid (redge_any (HH.out.drewN n) a j ha hlj)
      have o1 := HW.out j hlj
      have HNx : Hid ((decide (f < j) && edgeB hs a j && decide (far hs f j = m)) = false → ∀ i, i < j + 1 → (decide (f < i) && edgeB hs a i && decide (far hs f i = m)) = false) := Lib.hid fun hf i hi => by
        by_cases e : i = j
        · subst e; exact hf
        · exact HN.out i (by omega)
      have HYes : Hid ((decide (f < j) && edgeB hs a j && decide (far hs f j = m)) = true → stepL hs f a m = j) := Lib.hid fun hp => by
        unfold stepL
        have : ((List.range hs.length).find? fun j => decide (f < j) && edgeB hs a j && decide (far hs f j = m)) = some j := by
          rw [List.find?_range_eq_some]
          exact ⟨by simpa using hp, by simpa using hlj, fun i hi => by rw [HN.out i hi]; rfl⟩
        rw [this]
        rfl
      rw [decide_eq_true hfj] at HNx HYes
      generalize edgeB hs a j = em at *
      generalize far hs f j = fj at *
      go_wp2_with fail
      refine HE.out.mono ?_
      clear HE
      rintro e w1 ⟨rfl, n1, rfl⟩
      cases em
      · have HNn := Lib.hid (HNx.out rfl)
        clear HYes HNx
        go_wp2_with fail
        go_roundw
        case rel => exact ⟨j + 1, _, by go_num, by omega, by omega, rfl, HNn⟩
        case measure => simp [intOf]; omega
      · by_cases hq : fj = m
        · have HR := Lib.hid (HYes.out (by simp [hq]))
          have hb : ((fj : Int) == (m : Int)) = true := by simp [hq]
          clear HYes HNx hq
          go_wp2_with fail
          go_ret
          exact ⟨ret_int (by rw [HR.out]), _, rfl⟩
        · have HNn := Lib.hid (HNx.out (by simp [hq]))
          have hb : ((fj : Int) == (m : Int)) = false := by simp; omega
          clear HYes HNx hq
          go_wp2_with fail
          go_roundw
          case rel => exact ⟨j + 1, _, by go_num, by omega, by omega, rfl, HNn⟩
          case measure => simp [intOf]; omega
    · obtain rfl : j = hs.length := by omega
      have HR := Lib.hid (show stepL hs f a m = f by
        unfold stepL
        have : ((List.range hs.length).find? fun j => decide (f < j) && edgeB hs a j && decide (far hs f j = m)) = none := by
          rw [List.find?_eq_none]
          intro i hi
          simp only [List.mem_range] at hi
          rw [HN.out i hi]
          simp
        rw [this]
        rfl)
      go_wp2_with fail
      go_ret
      exact ⟨ret_int (by rw [HR.out]), _, rfl⟩
end Go.Proofs.Ytlfpkikmofgjfaa
