/- The walks of Ask. -/
import Derived.Test.YtoecffmhnpnaaaaWalkD
import Derived.Deep.LoopGhost
namespace Go.Proofs.Ytoecffmhnpnaaaa
open Go.RowKit

/-- What Ask answers: the number of its error; 0: it is taken. -/
def Gr.askCode (S : Gr) (tx words tick : Int) : Int :=
  if words < 1 ∨ tick < 0 ∨ 1099511627776 < tick then 1 else if tx ∈ S.waits ∨ tx ∈ S.txs then 6 else if S.room < words ∨ 1073741824 < S.stamp + S.l.length then 2 else 0
def Gr.asked (S : Gr) (tx words tick : Int) : Gr := { S with l := S.l ++ [⟨tx, words, tick⟩] }
theorem zeroE (w : World) : (zeroValue 4).run Try.prog w = .ok (.bool false) w := by kernel_rfl
set_option maxHeartbeats 600000 in
theorem ask_arg {w : World} {g : Nat} {S : Gr} (tx words tick : Int) (h : words < 1 ∨ tick < 0 ∨ 1099511627776 < tick) :
    Calls Try.prog 10 #[.pointer (some ⟨g, 0, none⟩), .int .i64 tx, .int .i64 words, .int .i64 tick] w fun e w' => e = .returned (.int .i64 (S.askCode tx words tick)) ∧ ∃ n, w' = w.drewN n := by
  have HA := Lib.hid (show S.askCode tx words tick = 1 by rw [Gr.askCode, if_pos h])
  rcases (show words < 1 ∨ (1 ≤ words ∧ tick < 0) ∨ (1 ≤ words ∧ 0 ≤ tick ∧ 1099511627776 < tick) by omega) with a1 | ⟨a1, a2⟩ | ⟨a1, a2, a3⟩
  all_goals
    clear h
    go_enter Try.func10, Try.ntmps10
    go_wp2
    go_ret
    exact ⟨ret_int HA.out.symm, 0, rfl⟩
set_option maxHeartbeats 1000000 in
theorem ask_no {w : World} {F : Nat → Prop} {g mb : Nat} {bs : List Nat} {S : Gr} (tx words tick : Int) (hR : Rep w F g mb bs S) (hO : S.Ok) (hx : (Lit.int .i64 tx).wf = true) (h : S.askCode tx words tick ≠ 0) :
    Calls Try.prog 10 #[.pointer (some ⟨g, 0, none⟩), .int .i64 tx, .int .i64 words, .int .i64 tick] w fun e w' => e = .returned (.int .i64 (S.askCode tx words tick)) ∧ ∃ n, w' = w.drewN n := by
  by_cases h1 : words < 1 ∨ tick < 0 ∨ 1099511627776 < tick
  · exact ask_arg tx words tick h1
  obtain ⟨v, hv, hn⟩ := hR.v
  have c1 : w.cell? ⟨g, 1, none⟩ = some (.int .i64 S.room) := hv.cell 1
  have c3 : w.cell? ⟨g, 3, none⟩ = some (.int .i64 S.stamp) := hv.cell 3
  have c5 : w.cell? ⟨g, 5, none⟩ = some (.map (some mb)) := hv.cell 5
  have c8 : w.cell? ⟨g, 8, none⟩ = some v := hv.cell 8
  have hlook := hR.set.look Try.underlying3 Try.underlying4 Try.underlying60 (zeroE w) hx
  have hcon := contains_any tx hn
  have HCon := Lib.hid hcon
  have w1 : 1 ≤ words := by omega
  have t0 : 0 ≤ tick := by omega
  have t1 : tick ≤ 1099511627776 := by omega
  by_cases h2 : tx ∈ S.waits
  · have HA := Lib.hid (show S.askCode tx words tick = 6 by rw [Gr.askCode, if_neg h1, if_pos (.inl h2)])
    rw [show decide (tx ∈ S.l.map (·.tx)) = true from decide_eq_true h2] at hlook
    clear hv hn hR hO hcon h h1 h2 HCon
    go_enter Try.func10, Try.ntmps10
    go_wp2
    go_ret
    exact ⟨ret_int HA.out.symm, 0, rfl⟩
  rw [show decide (tx ∈ S.l.map (·.tx)) = false from decide_eq_false h2] at hlook
  by_cases h3 : tx ∈ S.txs
  · have HA := Lib.hid (show S.askCode tx words tick = 6 by rw [Gr.askCode, if_neg h1, if_pos (.inr h3)])
    have HD := Lib.hid (decide_eq_true h3)
    clear hv hn hR hO hcon h h1 h2 h3
    go_enter Try.func10, Try.ntmps10
    go_wp2_with (go_at_call 31; refine HCon.out.mono ?_; rw [HD.out]; rintro e w1 ⟨rfl, rfl⟩)
    go_ret
    exact ⟨ret_int HA.out.symm, 0, rfl⟩
  have HD := Lib.hid (decide_eq_false h3)
  have hlen : ∀ (ty : TypeId) (n : Nat), (Builtin.len_ #[60] ty #[.map (some mb)]).run Try.prog (w.drewN n) = .ok (.int .i64 S.l.length) (w.drewN n) := fun ty n => by
    have := ((hR.drewN n).set).len Try.underlying60 ty
    simpa using this
  obtain ⟨s0, s1⟩ := hO.stamp
  by_cases h4 : S.room < words
  · have HA := Lib.hid (show S.askCode tx words tick = 2 by rw [Gr.askCode, if_neg h1, if_neg (by rintro (h | h); exact h2 h; exact h3 h), if_pos (.inl h4)])
    clear hv hn hR hO hcon h h1 h2 h3
    go_enter Try.func10, Try.ntmps10
    go_wp2_with (go_at_call 31; refine HCon.out.mono ?_; rw [HD.out]; rintro e w1 ⟨rfl, rfl⟩)
    go_quiet (fail)
    go_wp2
    go_ret
    exact ⟨ret_int HA.out.symm, _, rfl⟩
  · have h5 : 1073741824 < S.stamp + S.l.length := by
      apply Classical.byContradiction
      intro h5
      exact h (by rw [Gr.askCode, if_neg h1, if_neg (by rintro (h | h); exact h2 h; exact h3 h), if_neg (by omega)])
    have HA := Lib.hid (show S.askCode tx words tick = 2 by rw [Gr.askCode, if_neg h1, if_neg (by rintro (h | h); exact h2 h; exact h3 h), if_pos (.inr h5)])
    have hll : (S.l.length : Int) ≤ 1073741825 := by omega
    have hwr : IntKind.i64.wrap (S.stamp + ↑S.l.length) = S.stamp + ↑S.l.length := IntWalk.i64_in _ (by omega)
    clear hv hn hR hO hcon h h1 h2 h3
    go_enter Try.func10, Try.ntmps10
    go_wp2_with (go_at_call 31; refine HCon.out.mono ?_; rw [HD.out]; rintro e w1 ⟨rfl, rfl⟩)
    go_quiet (fail)
    go_wp2
    go_ret
    exact ⟨ret_int HA.out.symm, _, rfl⟩
end Go.Proofs.Ytoecffmhnpnaaaa
