/- The walk of Ask where it takes the transaction. -/
import Derived.Test.YtoecffmhnpnaaaaWalkF
import Derived.Deep.LoopGhost
namespace Go.Proofs.Ytoecffmhnpnaaaa
open Go.RowKit

set_option maxHeartbeats 600000 in
theorem ask_yes {w : World} {F : Nat → Prop} {g mb : Nat} {bs : List Nat} {S : Gr} (tx words tick : Int) (hR : Rep w F g mb bs S) (hO : S.Ok) (hx : (Lit.int .i64 tx).wf = true) (h : S.askCode tx words tick = 0) :
    Calls Try.prog 10 #[.pointer (some ⟨g, 0, none⟩), .int .i64 tx, .int .i64 words, .int .i64 tick] w fun e w' => e = .returned (.int .i64 0) ∧
      Rep w' (fun b => F b ∨ (w.heap.size ≤ b ∧ b < w'.heap.size)) g mb (bs ++ [w.heap.size]) (S.asked tx words tick) ∧ Only w w' F := by
  have hA : ¬ (words < 1 ∨ tick < 0 ∨ 1099511627776 < tick) ∧ tx ∉ S.waits ∧ tx ∉ S.txs ∧ ¬ S.room < words ∧ ¬ 1073741824 < S.stamp + S.l.length := by
    unfold Gr.askCode at h
    split at h
    · omega
    · split at h
      · omega
      · split at h
        · omega
        · rename_i h1 h2 h3
          exact ⟨h1, fun k => h2 (.inl k), fun k => h2 (.inr k), fun k => h3 (.inl k), fun k => h3 (.inr k)⟩
  obtain ⟨h1, h2, h3, h4, h5⟩ := hA
  clear h
  obtain ⟨v, hv, hn⟩ := hR.v
  have c1 : w.cell? ⟨g, 1, none⟩ = some (.int .i64 S.room) := hv.cell 1
  have c3 : w.cell? ⟨g, 3, none⟩ = some (.int .i64 S.stamp) := hv.cell 3
  have c5 : w.cell? ⟨g, 5, none⟩ = some (.map (some mb)) := hv.cell 5
  have c8 : w.cell? ⟨g, 8, none⟩ = some v := hv.cell 8
  have hlook := hR.set.look Try.underlying3 Try.underlying4 Try.underlying60 (zeroE w) hx
  rw [show decide (tx ∈ S.l.map (·.tx)) = false from decide_eq_false h2] at hlook
  have HCon := Lib.hid (contains_any tx hn)
  have w1 : 1 ≤ words := by omega
  have t0 : 0 ≤ tick := by omega
  have t1 : tick ≤ 1099511627776 := by omega
  have w2 : words ≤ S.room := by omega
  have HD := Lib.hid (decide_eq_false h3)
  have hlen : ∀ (ty : TypeId) (n : Nat), (Builtin.len_ #[60] ty #[.map (some mb)]).run Try.prog (w.drewN n) = .ok (.int .i64 S.l.length) (w.drewN n) := fun ty n => by
    have := ((hR.drewN n).set).len Try.underlying60 ty
    simpa using this
  obtain ⟨s0, s1⟩ := hO.stamp
  have hll : (S.l.length : Int) ≤ 1073741825 := by omega
  have hwr : IntKind.i64.wrap (S.stamp + ↑S.l.length) = S.stamp + ↑S.l.length := IntWalk.i64_in _ (by omega)
  have h5' : S.stamp + S.l.length ≤ 1073741824 := by omega
  have HR := Lib.hid hR
  have HV := Lib.hid hv
  have H2 := Lib.hid h2
  have HLen := Lib.hid hR.len
  clear hR hO hv hn h1 h2 h3 h4 h5
  go_enter Try.func10, Try.ntmps10
  go_wp2_with (go_at_call 31; refine HCon.out.mono ?_; rw [HD.out]; rintro e w1 ⟨rfl, rfl⟩)
  go_quiet (fail)
  go_wp2
  go_loopg [9] bs.length (fun n e wr => ∃ k m : Nat, k ≤ bs.length ∧ n = bs.length - k ∧ e = .pointer (some (linkAt g bs k)) ∧ wr = w.drewN m)
  case atStart => exact ⟨0, _, by omega, rfl, rfl, rfl⟩
  case round =>
    obtain ⟨k, m, hk, hgk, rfl, rfl⟩ := hrel
    have HG := Lib.hid hgk
    clear hgk
    obtain ⟨l1, l2, l3, l4⟩ := HR.out.link_cells hk
    by_cases hlk : k < bs.length
    · obtain ⟨b, hb⟩ : ∃ b, bs[k]? = some b := ⟨_, List.getElem?_eq_getElem hlk⟩
      have hlink : linkAt g bs (k + 1) = ⟨b, 3, none⟩ := by rw [linkAt, List.getD, hb]; rfl
      rw [ptrAt_in hb] at l1
      have HLk := Lib.hid hlink
      clear hlink hb
      go_wp2
      go_roundg (bs.length - (k + 1))
      case rel => exact ⟨k + 1, m, by omega, rfl, by rw [HLk.out], rfl⟩
      case measure => rw [HG.out]; omega
    · obtain rfl : k = bs.length := by omega
      obtain ⟨f1, f2, f3, f4⟩ := (HR.out.drewN m).hung ⟨tx, words, tick⟩
      rw [ptrAt_out (Nat.le_refl _)] at l1 f2
      have HS := Lib.hid f4
      obtain ⟨p, hp⟩ : ∃ p, p = linkAt g bs bs.length := ⟨_, rfl⟩
      unfold hungW at f3
      rw [← hp] at l1 l2 l3 l4 f1 f2 f3 ⊢
      have hmx : S.l.length < maxLen := by simp only [maxLen]; omega
      have HMx := Lib.hid (show (S.l.map (·.tx)).length < maxLen by rw [List.length_map]; exact hmx)
      have f3' : (((w.drewN m).alloc (.cells #[.int .i64 tx, .int .i64 words, .int .i64 tick, .pointer none] 69)).setCell p (.pointer (some ⟨w.heap.size, 0, none⟩))).cell? ⟨g, 5, none⟩ = some (.map (some mb)) := f3
      clear f4 hmx f3
      have HP := Lib.hid hp
      clear hp
      go_wp2_with (refine wpList_set_put rfl (.tmp 79) (.tmp 80) (.const (.bool true)) 60 rfl Try.underlying3 Try.underlying4 Try.underlying60 tx rfl rfl rfl (by rw [HP.out]; exact HS.out) HMx.out hx H2.out ?_; intro w3 hs3 ht3)
      go_ret
      have ht : ((((w.drewN m).alloc (.cells #[.int .i64 tx, .int .i64 words, .int .i64 tick, .pointer none] 69)).setCell (linkAt g bs bs.length) (.pointer (some ⟨w.heap.size, 0, none⟩))).mapTurned w3 mb) := by rw [← HP.out]; exact ht3
      obtain ⟨r1, r2⟩ := (HR.out.drewN m).appended ⟨tx, words, tick⟩ hs3 ht
      exact ⟨rfl, r1, (Only.of_drewN w m F).trans r2 (fun _ _ h => h)⟩
end Go.Proofs.Ytoecffmhnpnaaaa
