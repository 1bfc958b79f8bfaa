/- The walk of GroupIsOneByOne. -/
import Derived.Test.YtoecffmhnpnaaaaOne
namespace Go.Proofs.Ytoecffmhnpnaaaa
open Go.RowKit

/-- What the law keeps. -/
structure OneInv (w0 wr : World) (F G : Nat → Prop) (g h : Nat) (S T : Gr) (va vb : Value) (n k : Nat) (r : Int) : Prop where
  duo : Duo w0 wr F G g h S T va vb (reports n) (reports k)
  sg : Seq S n k
  sh : Seq T k k
  room : S.room = r
  roomh : T.room = 256
  mosth : T.most = 1
theorem Seq.due_one {T : Gr} {k : Nat} {t : Int} (s : Seq T k (k + 1)) (hO : T.Ok) (hm : T.most = 1) : T.due t = true := by
  have hl := s.len
  have h1 : T.l.length = 1 := by omega
  have hne : T.l ≠ [] := by intro e; rw [e] at h1; simp at h1
  have hp := Gr.front_pos hO hne
  have hle := T.front_le
  unfold Gr.due
  rw [s.is]
  cases hx : T.l with
  | nil => exact absurd hx hne
  | cons y l =>
    simp only [Bool.not_false, Bool.true_and, decide_eq_true_eq]
    left
    rw [hm]
    omega
theorem reports_length (n : Nat) : (reports n).length = n := by simp [reports]
theorem Reps.own_lt {w : World} {base : Nat} {v : Value} {rs : List (Int × Int)} (h : Reps w base v rs) : ∀ q, v.ownBlock = some q → q < w.heap.size := fun q hq => (h.read.2 q hq).2
set_option maxRecDepth 100000 in
set_option maxHeartbeats 2000000 in
theorem one_any (most room delay : Int) (v : Value) (xs : List Int) (w : World) (hx : Ints w v xs) :
    Calls Try.prog 3 #[.int .i64 most, .int .i64 room, .int .i64 delay, v] w fun e w' => e = .returned (.bool true) ∧ Below w.heap.size w w' := by
  obtain ⟨A, c, rfl, hmax, hcell⟩ := hx
  have HX := Lib.hid hcell
  clear hcell
  by_cases hl : 60 < xs.length
  · go_enter Try.func3, Try.ntmps3
    go_wp2_with fail
    refine (begun_any most room delay w).mono ?_
    rintro e w1 ⟨g, m, r, d, rfl, -, -, -, -, hb⟩
    go_wp2_with fail
    refine (g_new 1 256 0 1 w1 (by unfold okNew; omega)).mono ?_
    rintro e w2 ⟨h, rfl, -, hb2⟩
    go_wp2_with fail
    refine (sanity_any w2).mono ?_
    rintro e w3 ⟨rfl, hb3⟩
    go_wp2_with fail
    go_ret
    exact ⟨rfl, (hb.trans (hb2.mono hb.size)).trans (hb3.mono (hb.trans (hb2.mono hb.size)).size)⟩
  · go_enter Try.func3, Try.ntmps3
    go_wp2_with fail
    refine (begun_any most room delay w).mono ?_
    rintro e w1 ⟨g, m, r, d, rfl, ⟨m0, m1⟩, ⟨r0, r1⟩, ⟨d0, d1⟩, ⟨F, hg, hF⟩, hb⟩
    go_wp2_with fail
    refine (g_new 1 256 0 1 w1 (by unfold okNew; omega)).mono ?_
    rintro e w2 ⟨h, rfl, ⟨G, hh, hG⟩, hb2⟩
    have HI : Hid (OneInv w w2 F G g h (newGr m r d 1) (newGr 1 256 0 1) (.slice none 0 0) (.slice none 0 0) 0 0 r) := Lib.hid
      ⟨⟨⟨hb.trans (hb2.mono hb.size), hg.below hb2, hh, hF, fun b hb' => by have := hG b hb'; have := hb.size; omega, fun b h1 h2 => by have := hG b h2; have := hg.lt b h1; omega⟩, Reps.nil _ _, Reps.nil _ _, fun q hq => (by cases hq), fun q hq => (by cases hq), fun q hq => (by cases hq)⟩,
        ⟨rfl, rfl, rfl, rfl, by omega, fun x hx => (by cases hx), d1⟩, ⟨rfl, rfl, rfl, rfl, by omega, fun x hx => (by cases hx), by decide⟩, rfl, rfl, rfl⟩
    clear hg hF hb hh hG hb2
    go_wp2_with fail
    go_loopw [13, 14, 54] (fun va vb i wr => ∃ (k n : Nat) (F G : Nat → Prop) (S T : Gr), k ≤ xs.length ∧ i = .int .i64 k ∧ OneInv w wr F G g h S T va vb n k r) (fun _ _ i _ => xs.length - (intOf i).toNat)
    case atStart => exact ⟨0, 0, F, G, _, _, by omega, rfl, HI.out⟩
    case round =>
      obtain ⟨k, n, F2, G2, S, T, hk, rfl, hI⟩ := hrel
      clear HI
      have HI := Lib.hid hI
      clear hI
      by_cases hlk : k < xs.length
      · obtain ⟨b, o, rfl, hbl, hc⟩ := HX.out k hlk
        have hc' : wr.cell? ⟨b, o + k, none⟩ = some (.int .i64 (xs.getD k 0)) := (HI.out.duo.two.below.cell (p := ⟨b, o + k, none⟩) hbl).trans hc
        obtain ⟨x, hxk⟩ : ∃ x, x = xs.getD k 0 := ⟨_, rfl⟩
        rw [← hxk] at hc'
        clear hc hxk
        obtain ⟨a0, a1⟩ := low8 x
        have hm0 : 0 ≤ bits BinOp.and IntKind.i64 x 255 % r := Int.emod_nonneg _ (by omega)
        have hm1 : bits BinOp.and IntKind.i64 x 255 % r < r := Int.emod_lt_of_pos _ (by omega)
        have hk60 : k < 60 := by omega
        go_wp2_with fail
        have hkw : (Lit.int .i64 (k : Int)).wf = true := wfI (by omega) (by omega)
        obtain ⟨words, hwords⟩ : ∃ words, words = 1 + bits BinOp.and IntKind.i64 x 255 % r := ⟨_, rfl⟩
        have hw1 : 1 ≤ words := by omega
        have hw2 : words ≤ r := by omega
        rw [← hwords]
        have HC1 := Lib.hid (HI.out.sg.code (words := words) (by omega) hw1 (by rw [HI.out.room]; exact hw2))
        have HC2 := Lib.hid (HI.out.sh.code (words := words) (by omega) hw1 (by rw [HI.out.roomh]; omega))
        have HA1 := Lib.hid (HI.out.sg.asked (words := words) (by omega) hw1 (by rw [HI.out.room]; exact hw2))
        have HA2 := Lib.hid (HI.out.sh.asked (words := words) (by omega) hw1 (by rw [HI.out.roomh]; omega))
        have HW := Lib.hid hwords
        clear hwords
        refine (g_ask k words k HI.out.duo.two.gg hkw).mono ?_
        rw [HC1.out]
        rintro e w3 ⟨rfl, F3, hg3, ht3⟩
        have HD3 := Lib.hid (HI.out.duo.turnG ht3 hg3)
        clear hg3 ht3
        rw [HW.out]
        go_wp2_with fail
        rw [← HW.out]
        refine (g_ask k words k HD3.out.two.hh hkw).mono ?_
        rw [HC2.out]
        rintro e w4 ⟨rfl, G4, hh4, ht4⟩
        have HD4 := Lib.hid (HD3.out.turnH ht4 hh4)
        clear hh4 ht4
        rw [HW.out]
        go_wp2_with fail
        obtain ⟨S4, hS4⟩ : ∃ S4, S4 = S.askNext k words k := ⟨_, rfl⟩
        obtain ⟨T4, hT4⟩ : ∃ T4, T4 = T.askNext k words k := ⟨_, rfl⟩
        rw [← hS4] at HA1 HD4
        rw [← hT4] at HA2 HD4
        have HDT := Lib.hid (HA2.out.1.due_one (t := (k : Int)) HD4.out.two.hh.ok (by rw [HA2.out.2.2.1]; exact HI.out.mosth))
        have HRS := Lib.hid (HA1.out.2.1.trans HI.out.room)
        have HRT := Lib.hid (HA2.out.2.1.trans HI.out.roomh)
        have HMT := Lib.hid (HA2.out.2.2.1.trans HI.out.mosth)
        have HSS := Lib.hid HA1.out.1
        have HST := Lib.hid HA2.out.1
        clear hS4 hT4 HA1 HA2 HC1 HC2 HD3
        by_cases hd : S4.due k = true
        case' pos =>
          obtain ⟨m5, hm1, hm2, hq, hbf, htx, hr5, _, _, _⟩ := HSS.out.cut HD4.out.two.gg.ok hd
          have HQ := Lib.hid hq
          have HBF := Lib.hid hbf
          have HTX := Lib.hid htx
          have HR5 := Lib.hid (hr5.trans HRS.out)
          have HDd := Lib.hid hd
          clear hq hbf htx hr5 hd
          refine (g_cut k HD4.out.two.gg).mono ?_
          rw [HDd.out]
          rintro e w5 ⟨A5, c5, rfl, -, -, -, F5, hg5, ht5, -⟩
          have HD5 := Lib.hid (HD4.out.turnG ht5 hg5)
          clear hg5 ht5
          go_wp2_with fail
          have HD6 := Lib.hid (HD5.out.alloc (.cells #[.int .i64 (S4.cutBf k), .slice A5 (S4.cutTxs k).length c5] 32))
          refine (g_done HD6.out.two.gg).mono ?_
          rintro e w6 ⟨A6, c6, rfl, hr6, hg6, ho6⟩
          have HD7 := Lib.hid (HD6.out.turnG (Turn.done ho6 HD6.out.two.gg.fg) hg6)
          rw [show repsOf (S4.cutNext k).bf (S4.cutNext k).txs = repsOf (1 + n) (nums n (n + m5)) by rw [HBF.out, HTX.out]] at hr6
          have HR6 := Lib.hid hr6
          clear hg6 ho6 hr6
          have HL6 := Lib.hid (show (repsOf (1 + n) (nums n (n + m5))).length = m5 by rw [repsOf_length, nums_length]; omega)
          have hnk := HI.out.sg.le
          go_wp2_with (at_builtin; refine wpList_app_reps w6 w.heap.size _ rfl (.tmp 85) (.tmp 87) rfl u13 _ (reports n) (repsOf (1 + n) (nums n (n + m5))) rfl rfl HD7.out.a HR6.out (by rw [HL6.out]; exact hm1) (by rw [HL6.out, reports_length]; omega) HD7.out.two.below.size ?_; intro v7 w7 g1 g2 g3; rw [reports_more] at g1; have HD8 := Lib.hid (HD7.out.grow g2 g1 g3 g1.own_lt); clear g1 g2 g3)
          have HS8 := Lib.hid HQ.out
          have HR8 := Lib.hid HR5.out
          clear HD4 HD5 HD6 HD7 HR6 HL6 HQ HBF HTX HR5 HDd HSS HRS hnk
        case' neg =>
          have hd' : S4.due k = false := by simpa using hd
          have hcn : S4.cutNext k = S4 := by unfold Gr.cutNext; rw [if_neg hd]
          have HCN := Lib.hid hcn
          have HDd := Lib.hid hd'
          clear hd hd' hcn
          refine (g_cut k HD4.out.two.gg).mono ?_
          rw [HDd.out]
          rintro e w5 ⟨A5, c5, rfl, -, -, -, F5, hg5, ht5, -⟩
          rw [HCN.out] at hg5
          have HD5 := Lib.hid (HD4.out.turnG ht5 hg5)
          clear hg5 ht5
          go_wp2_with fail
          have HD8 := Lib.hid (HD5.out.alloc (.cells #[.int .i64 (S4.cutBf k), .slice A5 (S4.cutTxs k).length c5] 32))
          have HS8 := Lib.hid HSS.out
          have HR8 := Lib.hid HRS.out
          clear HD4 HD5 HDd HCN HSS HRS
        all_goals
          obtain ⟨m9, hn1, hn2, hq, hbf, htx, hr9, hmo9, _, hfr⟩ := HST.out.cut HD8.out.two.hh.ok HDT.out
          obtain rfl : m9 = 1 := by omega
          have HQ9 := Lib.hid hq
          have HRM := Lib.hid (show (T4.cutNext k).closed.room = 256 ∧ (T4.cutNext k).closed.most = 1 from ⟨hr9.trans HRT.out, hmo9.trans HMT.out⟩)
          have HRE := Lib.hid (show repsOf (T4.cutNext k).bf (T4.cutNext k).txs = repsOf (1 + k) (nums k (k + 1)) by rw [hbf, htx])
          have HL9 := Lib.hid (show (repsOf (1 + k) (nums k (k + 1))).length = 1 by rw [repsOf_length, nums_length]; omega)
          clear hq hbf htx hr9 hmo9 hfr
          refine (g_cut k HD8.out.two.hh).mono ?_
          rw [HDT.out]
          rintro e w9 ⟨A9, c9, rfl, -, -, -, G9, hh9, ht9, -⟩
          have HD9 := Lib.hid (HD8.out.turnH ht9 hh9)
          clear hh9 ht9
          go_wp2_with fail
          have HD10 := Lib.hid (HD9.out.alloc (.cells #[.int .i64 (T4.cutBf k), .slice A9 (T4.cutTxs k).length c9] 32))
          refine (g_done HD10.out.two.hh).mono ?_
          rintro e w10 ⟨A10, c10, rfl, hr10, hh10, ho10⟩
          have HD11 := Lib.hid (HD10.out.turnH (Turn.done ho10 HD10.out.two.hh.fg) hh10)
          rw [HRE.out] at hr10
          have HR10 := Lib.hid hr10
          clear hh10 ho10 hr10
          go_wp2_with (at_builtin; refine wpList_app_reps w10 w.heap.size _ rfl (.tmp 96) (.tmp 98) rfl u14 _ (reports k) (repsOf (1 + k) (nums k (k + 1))) rfl rfl HD11.out.b HR10.out (by rw [HL9.out]; omega) (by rw [HL9.out, reports_length]; omega) HD11.out.two.below.size ?_; intro v11 w11 g1 g2 g3; rw [reports_more] at g1; have HD12 := Lib.hid (HD11.out.swap.grow g2 g1 g3 g1.own_lt).swap; clear g1 g2 g3)
          go_roundw
          case rel => exact ⟨k + 1, _, _, _, _, _, by omega, by go_num, ⟨HD12.out, HS8.out, HQ9.out, HR8.out, HRM.out.1, HRM.out.2⟩⟩
          case measure => simp [intOf]; omega
      · obtain rfl : k = xs.length := by omega
        go_wp2_with fail
        go_loopw [13, 21] (fun va i wr => ∃ (j n : Nat) (F G : Nat → Prop) (S T : Gr), i = .int .i64 j ∧ j ≤ n ∧ n ≤ xs.length ∧ OneInv w wr F G g h S T va u14 n xs.length r) (fun _ i _ => 100 - (intOf i).toNat)
        case atStart => exact ⟨0, n, _, _, _, _, rfl, by omega, HI.out.sg.le, HI.out⟩
        case round =>
          obtain ⟨j, n2, F3, G3, S3, T3, rfl, hj, hn2, hI⟩ := hrel
          have HI3 := Lib.hid hI
          clear hI HI
          by_cases hd : S3.due 1000 = true
          · obtain ⟨m5, hm1, hm2, hq, hbf, htx, hr5, _, _, _⟩ := HI3.out.sg.cut HI3.out.duo.two.gg.ok hd
            have HQ := Lib.hid hq
            have HRE := Lib.hid (show repsOf (S3.cutNext 1000).bf (S3.cutNext 1000).txs = repsOf (1 + n2) (nums n2 (n2 + m5)) by rw [hbf, htx])
            have HR5 := Lib.hid (hr5.trans HI3.out.room)
            have HL6 := Lib.hid (show (repsOf (1 + n2) (nums n2 (n2 + m5))).length = m5 by rw [repsOf_length, nums_length]; omega)
            have HDd := Lib.hid hd
            clear hq hbf htx hr5 hd
            go_wp2_with fail
            refine (g_due 1000 HI3.out.duo.two.gg).mono ?_
            rw [HDd.out]
            rintro e w4 ⟨rfl, q4, rfl⟩
            have HD4 := Lib.hid (HI3.out.duo.drewN q4)
            go_wp2_with fail
            refine (g_cut 1000 HD4.out.two.gg).mono ?_
            rw [HDd.out]
            rintro e w5 ⟨A5, c5, rfl, -, -, -, F5, hg5, ht5, -⟩
            have HD5 := Lib.hid (HD4.out.turnG ht5 hg5)
            clear hg5 ht5
            go_wp2_with fail
            refine (g_done HD5.out.two.gg).mono ?_
            rintro e w6 ⟨A6, c6, rfl, hr6, hg6, ho6⟩
            have HD7 := Lib.hid (HD5.out.turnG (Turn.done ho6 HD5.out.two.gg.fg) hg6)
            rw [HRE.out] at hr6
            have HR6 := Lib.hid hr6
            clear hg6 ho6 hr6
            go_wp2_with (at_builtin; refine wpList_app_reps w6 w.heap.size _ rfl (.tmp 111) (.tmp 113) rfl u13 _ (reports n2) (repsOf (1 + n2) (nums n2 (n2 + m5))) rfl rfl HD7.out.a HR6.out (by rw [HL6.out]; exact hm1) (by rw [HL6.out, reports_length]; omega) HD7.out.two.below.size ?_; intro v7 w7 g1 g2 g3; rw [reports_more] at g1; have HD8 := Lib.hid (HD7.out.grow g2 g1 g3 g1.own_lt); clear g1 g2 g3)
            go_roundw
            case rel => exact ⟨j + 1, n2 + m5, _, _, _, _, by go_num, by omega, hm2, ⟨HD8.out, HQ.out, HI3.out.sh, HR5.out, HI3.out.roomh, HI3.out.mosth⟩⟩
            case measure => simp [intOf]; omega
          · have hd' : S3.due 1000 = false := by simpa using hd
            obtain rfl : n2 = xs.length := HI3.out.sg.end hd'
            have HDd := Lib.hid hd'
            clear hd hd'
            obtain ⟨A13, c13, rfl, _⟩ := HI3.out.duo.a.read.1.len
            obtain ⟨A14, c14, rfl, _⟩ := HI3.out.duo.b.read.1.len
            have HRa := Lib.hid HI3.out.duo.a.read.1
            have HRb := Lib.hid HI3.out.duo.b.read.1
            rw [reports_length] at HRa HRb ⊢
            go_wp2_with fail
            refine (g_due 1000 HI3.out.duo.two.gg).mono ?_
            rw [HDd.out]
            rintro e w4 ⟨rfl, q4, rfl⟩
            have HB4 := Lib.hid (HI3.out.duo.drewN q4).two.below
            go_wp2_with fail
            refine (sanity_any _).mono ?_
            rintro e w5 ⟨rfl, hb5⟩
            have HB5 := Lib.hid hb5
            clear hb5
            have HRa5 : Hid (RNums w5 (.slice A13 xs.length c13) (reports xs.length)) := Lib.hid (HRa.out.kept HB5.out.size fun q hq => HB5.out.block q (by have := (HI3.out.duo.aa q (by rw [reports_length]; exact hq)).lt; exact this))
            have HRb5 : Hid (RNums w5 (.slice A14 xs.length c14) (reports xs.length)) := Lib.hid (HRb.out.kept HB5.out.size fun q hq => HB5.out.block q (by have := (HI3.out.duo.ab q (by rw [reports_length]; exact hq)).lt; exact this))
            go_wp2_with fail
            refine (same_reports HRa5.out HRb5.out).mono ?_
            rw [show decide (reports xs.length = reports xs.length) = true from decide_eq_true rfl]
            rintro e w6 ⟨rfl, q6, rfl⟩
            go_wp2_with fail
            go_ret
            exact ⟨rfl, below_drewN (HB4.out.trans (HB5.out.mono HB4.out.size)) q6⟩
end Go.Proofs.Ytoecffmhnpnaaaa
