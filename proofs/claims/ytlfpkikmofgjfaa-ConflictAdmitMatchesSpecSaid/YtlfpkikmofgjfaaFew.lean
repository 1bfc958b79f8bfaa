/- The walk of Few. -/
import Derived.Test.YtlfpkikmofgjfaaWalkD
namespace Go.Proofs.Ytlfpkikmofgjfaa
open Go.RowKit

/-- Some bool; and what was there is as it was. -/
def SomeBool (w : World) (e : Ending) (w' : World) : Prop := ∃ b : Bool, e = .returned (.bool b) ∧ Below w.heap.size w w'
theorem SomeBool.mk {w : World} (b : Bool) : SomeBool w (.returned (.bool b)) w := ⟨b, rfl, Below.refl _ _⟩
set_option maxRecDepth 100000 in
set_option maxHeartbeats 4000000 in
theorem few_any {w : World} {v : Value} {hs : List Acc} (k : Hist w v hs) : Calls Try.prog 24 #[v] w fun e w' => SomeBool w e w' := by
  obtain ⟨A, c, rfl, hm, hcap, hc⟩ := k.shape
  have HC := Lib.hid hc
  clear hc k
  have HS := Lib.hid (@SomeBool.mk w)
  go_enter Try.func24, Try.ntmps24
  by_cases hl : 9 < hs.length
  · by_cases h2 : 100 < hs.length
    · by_cases h3 : hs.length ≤ 102
      · go_wp2_with fail
        go_ret
        exact HS.out _
      · go_wp2_with fail
        go_ret
        exact HS.out _
    · go_wp2_with fail
      go_ret
      exact HS.out _
  · go_wp2_with fail
    go_loop [3] (fun i => ∃ k : Nat, i = .int .i64 k ∧ k ≤ hs.length) (fun i => hs.length - (intOf i).toNat)
    case atStart => exact ⟨0, rfl, by omega⟩
    case round =>
      obtain ⟨k, rfl, hk⟩ := hrel
      by_cases hlk : k < hs.length
      · obtain ⟨b, o, vr, vw, rfl, ha⟩ := HC.out k hlk
        obtain ⟨Ar, cr, rfl, hrm⟩ := ha.rd.r.shape
        obtain ⟨Aw, cw, rfl, hwm⟩ := ha.rd.w.shape
        obtain ⟨lt, _, c0, c1, c2, c3, c4, c5⟩ := ha
        generalize tx hs k = x at *
        obtain ⟨lr, hlr⟩ : ∃ n, n = x.reads.length := ⟨_, rfl⟩
        obtain ⟨lw, hlw⟩ : ∃ n, n = x.writes.length := ⟨_, rfl⟩
        rw [← hlr] at c4 hrm
        rw [← hlw] at c5 hwm
        clear hlr hlw c0 c1 c2 c3
        have HK : Hid (k < hs.length) := Lib.hid hlk
        go_wp2_with fail
        all_goals first
          | (go_ret; exact HS.out _)
          | (go_round
             case rel => exact ⟨k + 1, by go_num, by omega⟩
             case measure => simp [intOf]; omega)
      · go_wp2_with fail
        go_ret
        exact HS.out _
end Go.Proofs.Ytlfpkikmofgjfaa
