/- The walk of GroupIsPrompt. -/
import Derived.Test.YtoecffmhnpnaaaaWalkQ
namespace Go.Proofs.Ytoecffmhnpnaaaa
open Go.RowKit

/-- A slice value that reads as whole numbers, wherever it lies. -/
def Ints (w : World) (v : Value) (xs : List Int) : Prop := ∃ A c, v = .slice A xs.length c ∧ xs.length ≤ 9223372036854775807 ∧ ∀ j, j < xs.length → ∃ b o, A = some ⟨b, o, none⟩ ∧ b < w.heap.size ∧ w.cell? ⟨b, o + j, none⟩ = some (.int .i64 (xs.getD j 0))
/-- One group made since w0, and what its transactions were asked at: a map in block am. -/
structure Lone (w0 wr : World) (F : Nat → Prop) (g : Nat) (S : Gr) (am n : Nat) (f : Int → Option Int) : Prop where
  below : Below w0.heap.size w0 wr
  gg : Grp wr F g S
  fl : ∀ b, F b → w0.heap.size ≤ b
  map : MapAt Try.prog 3 3 wr am n f
  away : ¬ F am
  fresh : w0.heap.size ≤ am
theorem Lone.turn {w0 wr w1 : World} {F F' : Nat → Prop} {g : Nat} {S S' : Gr} {am n : Nat} {f : Int → Option Int} (t : Lone w0 wr F g S am n f) (k : Turn wr w1 F F') (hg : Grp w1 F' g S') : Lone w0 w1 F' g S' am n f := by
  have hs := t.below.size
  refine ⟨t.below.trans (k.only.below t.fl hs), hg, fun b hb => ?_, t.map.kept (k.only.block am t.map.lt t.away), fun h => ?_, t.fresh⟩
  · rcases k.foot b hb with h | h
    · exact t.fl b h
    · omega
  · rcases k.foot am h with h | h
    · exact t.away h
    · have := t.map.lt; omega
theorem Lone.mapped {w0 wr w1 : World} {F : Nat → Prop} {g : Nat} {S : Gr} {am n n' : Nat} {f f' : Int → Option Int} (t : Lone w0 wr F g S am n f) (k : wr.mapTurned w1 am) (hm : MapAt Try.prog 3 3 w1 am n' f') : Lone w0 w1 F g S am n' f' := by
  have ho : Only wr w1 (fun b => b = am) := (Only.refl wr _).turned k (.inl rfl)
  exact ⟨t.below.trans (ho.below (fun b hb => by rw [hb]; exact t.fresh) t.below.size), t.gg.kept ho (fun b h e => t.away (by rw [← e]; exact h)), t.fl, hm, t.away, t.fresh⟩
theorem Lone.drewN {w0 wr : World} {F : Nat → Prop} {g : Nat} {S : Gr} {am n : Nat} {f : Int → Option Int} (t : Lone w0 wr F g S am n f) (m : Nat) : Lone w0 (wr.drewN m) F g S am n f := t.turn ((Turn.refl wr F).drewN m) (t.gg.drewN m)
/-- What the law keeps: nobody is out, all that wait were asked at their ticks, in order. -/
structure Prm (d : Int) (S : Gr) (f : Int → Option Int) (k : Nat) (t : Int) : Prop where
  is : S.is = false
  txs : S.txs = []
  room : 1 ≤ S.room
  delay : S.delay = d
  num : S.stamp + S.l.length = 1 + k
  lt : ∀ x, x ∈ S.l → 0 ≤ x.tx ∧ x.tx < k
  ask : ∀ x, x ∈ S.l → f x.tx = some x.tick
  sort : S.l.Pairwise fun x y => x.tick ≤ y.tick
  le : ∀ x, x ∈ S.l → x.tick ≤ t
theorem Prm.after {d : Int} {S S' : Gr} {f : Int → Option Int} {k j : Nat} {t t' : Int} (p : Prm d S f k t) (a : After S S' j) (ht : t ≤ t') : Prm d S' f k t' := by
  have hm : ∀ x, x ∈ S'.l → x ∈ S.l := fun x hx => by rw [a.l] at hx; exact List.mem_of_mem_drop hx
  refine ⟨a.is, a.txs, by rw [a.room]; exact p.room, by rw [a.delay]; exact p.delay, ?_, fun x hx => p.lt x (hm x hx), fun x hx => p.ask x (hm x hx), by rw [a.l]; exact p.sort.drop, fun x hx => by have := p.le x (hm x hx); omega⟩
  have h1 := a.l
  have h2 := a.le
  have h3 := p.num
  rw [a.stamp, a.l, List.length_drop]
  omega
theorem Prm.code {d : Int} {S : Gr} {f : Int → Option Int} {k : Nat} {t : Int} (p : Prm d S f k t) (hk : k ≤ 60) (h0 : 0 ≤ t) (h1 : t ≤ 100000) : S.askCode k 1 t = 0 := by
  have hn := p.num
  have hr := p.room
  unfold Gr.askCode
  rw [if_neg (by omega), if_neg, if_neg (by omega)]
  rintro (h | h)
  · simp only [Gr.waits, List.mem_map] at h
    obtain ⟨x, hx, e⟩ := h
    have := p.lt x hx
    omega
  · rw [p.txs] at h; cases h
theorem Prm.asked {d : Int} {S : Gr} {f : Int → Option Int} {k : Nat} {t : Int} (p : Prm d S f k t) (hk : k ≤ 60) (h0 : 0 ≤ t) (h1 : t ≤ 100000) : Prm d (S.askNext k 1 t) (upd f k t) (k + 1) t := by
  have hc := p.code hk h0 h1
  unfold Gr.askNext
  rw [if_pos hc]
  have hcase : ∀ x, x ∈ S.l ++ [(⟨k, 1, t⟩ : Rd)] → x ∈ S.l ∨ x = ⟨k, 1, t⟩ := fun x hx => by simpa using hx
  refine ⟨p.is, p.txs, p.room, p.delay, ?_, fun x hx => ?_, fun x hx => ?_, ?_, fun x hx => ?_⟩
  · have := p.num
    show S.stamp + ((S.l ++ [_]).length : Nat) = _
    simp
    omega
  · rcases hcase x hx with h | rfl
    · have := p.lt x h; simp; omega
    · simp; omega
  · rcases hcase x hx with h | rfl
    · have := p.lt x h
      show upd f k t x.tx = _
      unfold upd
      rw [if_neg (by omega)]
      exact p.ask x h
    · simp [upd]
  · show (S.l ++ [_]).Pairwise _
    rw [List.pairwise_append]
    refine ⟨p.sort, by simp, fun x hx y hy => ?_⟩
    simp at hy
    subst hy
    exact p.le x hx
  · rcases hcase x hx with h | rfl
    · exact p.le x h
    · simp
/-- Nobody who waits was asked long ago. -/
theorem Prm.fine {d : Int} {S : Gr} {f : Int → Option Int} {k : Nat} {t : Int} (p : Prm d S f k t) (hd : S.due t = false) : ∀ x, x ∈ S.l → t < x.tick + d := by
  intro x hx
  unfold Gr.due at hd
  rw [p.is] at hd
  have hs := p.sort
  have hdl := p.delay
  cases hl : S.l with
  | nil => rw [hl] at hx; cases hx
  | cons y l =>
    rw [hl] at hd hs hx
    simp only [Bool.not_false, Bool.true_and, decide_eq_false_iff_not] at hd
    have hy : y.tick ≤ x.tick := by
      rcases List.mem_cons.1 hx with rfl | h
      · exact Int.le_refl _
      · exact (List.pairwise_cons.1 hs).1 x h
    omega
theorem wfI {n : Int} (h0 : -1000000000000000 ≤ n) (h1 : n ≤ 1000000000000000) : (Lit.int .i64 n).wf = true := by
  have e1 : IntKind.i64.min = -9223372036854775808 := by decide
  have e2 : IntKind.i64.max = 9223372036854775807 := by decide
  simp only [Lit.wf, e1, e2, Bool.and_eq_true, decide_eq_true_eq]
  omega
theorem zeroI (w : World) : (zeroValue 3).run Try.prog w = .ok (.int .i64 0) w := by kernel_rfl
set_option maxRecDepth 100000 in
set_option maxHeartbeats 1000000 in
theorem prompt_any (most room delay : Int) (v : Value) (xs : List Int) (w : World) (hx : Ints w v xs) :
    Calls Try.prog 4 #[.int .i64 most, .int .i64 room, .int .i64 delay, v] w fun e w' => e = .returned (.bool true) ∧ Below w.heap.size w w' := by
  obtain ⟨A, c, rfl, hmax, hcell⟩ := hx
  have HX := Lib.hid hcell
  clear hcell
  have hmm := @run_makeMap Try.prog
  by_cases hl : 60 < xs.length
  · go_enter Try.func4, Try.ntmps4
    go_wp2_with fail
    refine (begun_any most room delay w).mono ?_
    rintro e w1 ⟨g, m, r, d, rfl, -, -, -, -, hb⟩
    go_wp2_with fail
    refine (sanity_any w1).mono ?_
    rintro e w2 ⟨rfl, hb2⟩
    go_wp2_with fail
    go_ret
    exact ⟨rfl, hb.trans (hb2.mono hb.size)⟩
  · go_enter Try.func4, Try.ntmps4
    go_wp2_with fail
    refine (begun_any most room delay w).mono ?_
    rintro e w1 ⟨g, m, r, d, rfl, ⟨m0, m1⟩, ⟨r0, r1⟩, ⟨d0, d1⟩, ⟨F, hg, hF⟩, hb⟩
    have HL : Hid (Lone w (w1.alloc (.map #[] 0)) F g (newGr m r d 1) w1.heap.size 0 (fun _ => none)) := Lib.hid ⟨hb.alloc hb.size _, hg.kept ((Only.refl w1 (fun _ => False)).alloc _) (fun _ _ h => h), hF, MapAt.made w1 _ 3 3, fun h => by have := hg.lt _ h; omega, hb.size⟩
    have HP : Hid (Prm d (newGr m r d 1) (fun _ => none) 0 0) := Lib.hid ⟨rfl, rfl, r0, rfl, rfl, fun _ h => (by cases h), fun _ h => (by cases h), List.Pairwise.nil, fun _ h => (by cases h)⟩
    clear hg hF hb
    go_wp2_with fail
    go_loopw [12, 42] (fun t i wr => ∃ (k : Nat) (T : Int) (F : Nat → Prop) (S : Gr) (n : Nat) (f : Int → Option Int), k ≤ xs.length ∧ i = .int .i64 k ∧ t = .int .i64 T ∧ 0 ≤ T ∧ T ≤ 7 * k ∧ n ≤ k ∧ Lone w wr F g S w1.heap.size n f ∧ Prm d S f k T) (fun _ i _ => xs.length - (intOf i).toNat)
    case atStart => exact ⟨0, 0, F, _, 0, _, by omega, rfl, rfl, by omega, by omega, by omega, HL.out, HP.out⟩
    case round =>
      obtain ⟨k, T, F2, S, n, f, hk, rfl, rfl, t0, t1, hn, hL, hP⟩ := hrel
      have HL2 := Lib.hid hL
      have HP2 := Lib.hid hP
      clear hL hP HL HP
      by_cases hlk : k < xs.length
      · obtain ⟨b, o, rfl, hbl, hc⟩ := HX.out k hlk
        have hc' : wr.cell? ⟨b, o + k, none⟩ = some (.int .i64 (xs.getD k 0)) := (HL2.out.below.cell (p := ⟨b, o + k, none⟩) hbl).trans hc
        obtain ⟨x, hxk⟩ : ∃ x, x = xs.getD k 0 := ⟨_, rfl⟩
        rw [← hxk] at hc'
        clear hc hxk
        obtain ⟨a0, a1⟩ := low3 x
        have hk60 : k < 60 := by omega
        have hlen : S.l.length ≤ 60 := by have := HP2.out.num; have := HL2.out.gg.ok.stamp; omega
        obtain ⟨wo, rfl⟩ : ∃ wo : World, wo = wr := ⟨_, rfl⟩
        go_wp2_with fail
        go_loopw [12, 49] (fun t i wr => ∃ (j : Nat) (T' : Int) (F' : Nat → Prop) (S' : Gr), (j : Int) ≤ bits BinOp.and IntKind.i64 x 7 ∧ i = .int .i64 j ∧ t = .int .i64 T' ∧ 0 ≤ T' ∧ T' ≤ 7 * k + j ∧ Lone w wr F' g S' w1.heap.size n f ∧ Prm d S' f k T') (fun _ i _ => 8 - (intOf i).toNat)
        case atStart => exact ⟨0, T, _, _, by omega, rfl, rfl, by omega, by omega, HL2.out, HP2.out⟩
        case round =>
          obtain ⟨j, T', F3, S3, hj, rfl, rfl, t0', t1', hL, hP⟩ := hrel
          have HL3 := Lib.hid hL
          have HP3 := Lib.hid hP
          clear hL hP
          have hlen3 : S3.l.length ≤ 60 := by have := HP3.out.num; have := HL3.out.gg.ok.stamp; omega
          by_cases hjx : (j : Int) < bits BinOp.and IntKind.i64 x 7
          · go_wp2_with fail
            refine (calm_any (T' + 1) HL3.out.gg HP3.out.is HP3.out.txs (by omega)).mono ?_
            rintro e w2 ⟨rfl, F4, S4, k4, hg4, ht4, ha4, hd4⟩
            have HL4 := Lib.hid (HL3.out.turn ht4 hg4)
            have HP4 := Lib.hid (HP3.out.after ha4 (show T' ≤ T' + 1 by omega))
            clear hg4 ht4 ha4 hd4
            go_wp2_with fail
            go_roundw
            case rel => exact ⟨j + 1, T' + 1, F4, S4, by omega, by go_num, rfl, by omega, by omega, HL4.out, HP4.out⟩
            case measure => simp [intOf]; omega
          · have hT7 : T' ≤ 7 * (k + 1 : Int) := by omega
            have hkw : (Lit.int .i64 (k : Int)).wf = true := wfI (by omega) (by omega)
            have htw : (Lit.int .i64 T').wf = true := wfI (by omega) (by omega)
            go_wp2_with (refine wpList_map_put rfl (.tmp 58) (.tmp 59) (.tmp 60) 39 rfl Try.underlying3 Try.underlying3 Try.underlying39 k T' rfl rfl rfl HL3.out.map (by simp only [maxLen]; omega) hkw htw ?_; intro w2 n2 hm2 hn2 ht2)
            have HL4 := Lib.hid (HL3.out.mapped ht2 hm2)
            have HP4 := Lib.hid (HP3.out.asked (show k ≤ 60 by omega) t0' (by omega))
            have HC := Lib.hid (HP3.out.code (show k ≤ 60 by omega) t0' (by omega))
            have hn2' : n2 ≤ k + 1 := by split at hn2 <;> omega
            clear hm2 ht2 hn2
            refine (g_ask k 1 T' HL4.out.gg hkw).mono ?_
            rw [HC.out]
            rintro e w3 ⟨rfl, F5, hg5, ht5⟩
            have HL5 := Lib.hid (HL4.out.turn ht5 hg5)
            clear hg5 ht5
            go_wp2_with fail
            have hlen5 : (S3.askNext k 1 T').l.length ≤ 61 := by have := HP4.out.num; have := HL5.out.gg.ok.stamp; omega
            refine (calm_any T' HL5.out.gg HP4.out.is HP4.out.txs (by omega)).mono ?_
            rintro e w4 ⟨rfl, F6, S6, k6, hg6, ht6, ha6, hd6⟩
            have HL6 := Lib.hid (HL5.out.turn ht6 hg6)
            have HP6 := Lib.hid (HP4.out.after ha6 (Int.le_refl T'))
            have HF6 := Lib.hid (HP6.out.fine hd6)
            clear hg6 ht6 ha6 hd6
            go_wp2_with fail
            have hlen6 : S6.l.length ≤ 61 := by have := HP6.out.num; have := HL6.out.gg.ok.stamp; omega
            refine (g_waiting HL6.out.gg (by omega)).mono ?_
            rintro e w5 ⟨A5, c5, rfl, hr5, hb5⟩
            have HL7 := Lib.hid (HL6.out.turn (Turn.below hb5 F6) (HL6.out.gg.below hb5))
            have HR5 := Lib.hid hr5.nums
            clear hr5 hb5
            go_wp2_with fail
            have hwl : S6.waits.length = S6.l.length := by simp [Gr.waits]
            have HWL := Lib.hid hwl
            clear hwl
            go_loopw [75] (fun i wr => ∃ q j2 : Nat, i = .int .i64 q ∧ q ≤ S6.waits.length ∧ wr = w5.drewN j2) (fun i _ => S6.waits.length - (intOf i).toNat)
            case atStart => exact ⟨0, 0, rfl, by omega, rfl⟩
            case round =>
              obtain ⟨q, j2, rfl, hq, rfl⟩ := hrel
              by_cases hqw : q < S6.waits.length
              · obtain ⟨gb, rfl, hcc⟩ : ∃ gb, A5 = some ⟨gb, 0, none⟩ ∧ w5.cell? ⟨gb, q, none⟩ = some (.int .i64 (S6.waits.getD q 0)) := by
                  rcases HR5.out with ⟨h0, _⟩ | ⟨gb, cb, e, _, _, _, _, hcc⟩
                  · rw [h0] at hqw; simp at hqw
                  · injection e with e1 e2 e3
                    exact ⟨gb, e1, hcc q hqw⟩
                obtain ⟨y, hy, hye⟩ : ∃ y, y ∈ S6.l ∧ S6.waits.getD q 0 = y.tx := by
                  have hql : q < S6.l.length := by rw [← HWL.out]; exact hqw
                  exact ⟨S6.l[q], List.getElem_mem hql, by simp [Gr.waits, List.getD, hql]⟩
                rw [hye] at hcc
                have hyo := HL7.out.gg.ok.l y hy
                obtain ⟨_, _, y0, _, hyw⟩ := hyo
                have hlook := (HL7.out.drewN j2).map.look Try.underlying3 Try.underlying3 Try.underlying39 (zeroI _) hyw
                rw [HP6.out.ask y hy] at hlook
                have yle := HP6.out.le y hy
                have yfi := HF6.out y hy
                have hqb : q ≤ 61 := by have := HWL.out; omega
                clear hy hye
                simp only [Option.getD_some] at hlook
                go_wp2
                go_roundw
                case rel => exact ⟨q + 1, _, by go_num, by omega, rfl⟩
                case measure => simp [intOf]; omega
              · go_wp2_with fail
                go_roundw
                case rel => exact ⟨k + 1, T', F6, S6, n2, _, by omega, by go_num, rfl, t0', by omega, by omega, HL7.out.drewN _, HP6.out⟩
                case measure => simp [intOf]; omega
      · go_wp2_with fail
        refine (sanity_any wr).mono ?_
        rintro e w9 ⟨rfl, hb9⟩
        go_wp2_with fail
        go_ret
        exact ⟨rfl, HL2.out.below.trans (hb9.mono HL2.out.below.size)⟩
end Go.Proofs.Ytoecffmhnpnaaaa
