/- The walks of the law's helpers: begun, calm. -/
import Derived.Test.YtoecffmhnpnaaaaWalkK
import Derived.Test.YtoecffmhnpnaaaaIntMaps
namespace Go.Proofs.Ytoecffmhnpnaaaa
open Go.RowKit

/-- S1 is S but for the first k that waited, who have been reported. -/
structure After (S S1 : Gr) (k : Nat) : Prop where
  most : S1.most = S.most
  room : S1.room = S.room
  delay : S1.delay = S.delay
  le : k ≤ S.l.length
  l : S1.l = S.l.drop k
  is : S1.is = false
  txs : S1.txs = []
  stamp : S1.stamp = S.stamp + k
theorem After.refl {S : Gr} (h1 : S.is = false) (h2 : S.txs = []) : After S S 0 := ⟨rfl, rfl, rfl, by omega, by simp, h1, h2, by simp⟩
theorem After.step {S S1 : Gr} {k : Nat} {tick : Int} (h : After S S1 k) (hO : S1.Ok) (hd : S1.due tick = true) : ∃ k', k + 1 ≤ k' ∧ After S (S1.cutNext tick).closed k' := by
  have hne := (Gr.due_ne hd).1
  have hp := Gr.front_pos hO hne
  have hle := S1.front_le
  have hk : S1.l.length = S.l.length - k := by rw [h.l, List.length_drop]
  refine ⟨k + S1.front, by omega, ?_⟩
  unfold Gr.cutNext
  rw [if_pos hd]
  refine ⟨h.most, h.room, h.delay, by omega, ?_, rfl, rfl, ?_⟩
  · show S1.l.drop S1.front = _
    rw [h.l, List.drop_drop]
  · show S1.stamp + S1.front = _
    rw [h.stamp]
    omega
theorem Gr.due_nil {S : Gr} {tick : Int} (h : S.l = []) : S.due tick = false := by simp [Gr.due, h]
theorem Turn.drewN {w w' : World} {F F' : Nat → Prop} (h : Turn w w' F F') (n : Nat) : Turn w (w'.drewN n) F F' := ⟨h.only.drewN n, h.foot⟩
theorem Turn.done {w w' : World} {F : Nat → Prop} {g : Nat} (h : Only w w' (fun b => b = g)) (hg : F g) : Turn w w' F F := ⟨h.mono (fun b e => by rw [e]; exact hg), fun _ h => .inl h⟩
set_option maxHeartbeats 1000000 in
theorem calm_any {w : World} {F : Nat → Prop} {g : Nat} {S : Gr} (tick : Int) (h : Grp w F g S) (h1 : S.is = false) (h2 : S.txs = []) (hl : S.l.length ≤ 100) :
    Calls Try.prog 15 #[.pointer (some ⟨g, 0, none⟩), .int .i64 tick] w fun e w' => e = .returned (.bool true) ∧ ∃ F' S' k, Grp w' F' g S' ∧ Turn w w' F F' ∧ After S S' k ∧ S'.due tick = false := by
  have HG := Lib.hid h
  have HA := Lib.hid (After.refl h1 h2)
  clear h h1 h2
  go_enter Try.func15, Try.ntmps15
  go_wp2
  go_loopw [5] (fun i wr => ∃ (n k : Nat) (F1 : Nat → Prop) (S1 : Gr), i = .int .i64 n ∧ n ≤ 100 ∧ n ≤ k ∧ Grp wr F1 g S1 ∧ Turn w wr F F1 ∧ After S S1 k) (fun i _ => 100 - (intOf i).toNat)
  case atStart => exact ⟨0, 0, F, S, rfl, by omega, by omega, HG.out, Turn.refl _ _, HA.out⟩
  case round =>
    obtain ⟨n, k, F1, S1, rfl, hn, hnk, hg, ht, ha⟩ := hrel
    have HG1 := Lib.hid hg
    have HT1 := Lib.hid ht
    have HA1 := Lib.hid ha
    clear hg ht ha
    by_cases hd : S1.due tick = true
    · have hn1 : n < 100 := by
        apply Classical.byContradiction
        intro h
        have h1 := HA1.out.l
        rw [List.drop_eq_nil_of_le (by omega)] at h1
        rw [Gr.due_nil h1] at hd
        cases hd
      have HD := Lib.hid hd
      obtain ⟨k', hk', ha'⟩ := HA1.out.step HG1.out.ok hd
      have HA2 := Lib.hid ha'
      clear hd ha'
      go_wp2_with (first | (go_at_call 13; refine (g_due tick HG1.out).mono ?_; rw [HD.out]; rintro e w1 ⟨rfl, m, rfl⟩) | (go_at_call 11; refine (g_cut tick (HG1.out.drewN _)).mono ?_; rintro e w2 ⟨A, c, rfl, -, -, -, F2, hg2, ht2, -⟩; have HG2 := Lib.hid hg2; have HT2 := Lib.hid ht2; clear hg2 ht2) | (go_at_call 12; refine (g_done HG2.out).mono ?_; rintro e w3 ⟨A3, c3, rfl, -, hg3, ho3⟩; have HG3 := Lib.hid hg3; have HO3 := Lib.hid ho3; clear hg3 ho3))
      go_roundw
      case rel =>
        have ht := (HT1.out.drewN m).trans (HT2.out.trans (Turn.done HO3.out HG2.out.fg))
        exact ⟨n + 1, k', _, _, by go_num, by omega, by omega, HG3.out, ht, HA2.out⟩
      case measure => simp [intOf]; omega
    · have HD := Lib.hid (show S1.due tick = false by simpa using hd)
      clear hd
      by_cases hn1 : n < 100
      · go_wp2_with (go_at_call 13; first | (refine (g_due tick HG1.out).mono ?_; rw [HD.out]; rintro e w1 ⟨rfl, m, rfl⟩) | (refine (g_due tick (HG1.out.drewN _)).mono ?_; rw [HD.out]; rintro e w1 ⟨rfl, m2, rfl⟩))
        go_ret
        exact ⟨rfl, F1, S1, k, HG1.out.drewN _, HT1.out.drewN _, HA1.out, HD.out⟩
      · obtain rfl : n = 100 := by omega
        go_wp2_with (go_at_call 13; refine (g_due tick HG1.out).mono ?_; rw [HD.out]; rintro e w1 ⟨rfl, m, rfl⟩)
        go_ret
        exact ⟨rfl, F1, S1, k, HG1.out.drewN _, HT1.out.drewN _, HA1.out, HD.out⟩
end Go.Proofs.Ytoecffmhnpnaaaa
