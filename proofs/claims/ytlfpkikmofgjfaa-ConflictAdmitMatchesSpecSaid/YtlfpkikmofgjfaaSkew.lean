/- The example that sanity plays: what the plain functions say of it. -/
import Derived.Test.YtlfpkikmofgjfaaWalkS
namespace Go.Proofs.Ytlfpkikmofgjfaa
open Go.RowKit

/-- The two transactions of the example; of the second one the mode, whether it is done, and the stamp. -/
def skH (m : Int) (d : Bool) (s : Int) : List Acc := [⟨1, 0, true, 1, [1], [2]⟩, ⟨m, 0, d, s, [2], [1]⟩]
def skO : List Acc := [⟨1, 0, true, 1, [1], [2]⟩]
theorem sk_check : checkL (skH 1 true 2) = 0 := by decide
theorem sk_anti : antiL (skH 1 true 2) = [(0, 1), (1, 0)] := by decide
theorem sk_depends : dependsL (skH 1 true 2) = [(0, 1), (1, 0)] := by decide
theorem sk_danger : dangerousL (skH 1 true 2) = some (0, 1, 0) := by decide
theorem sk_serial : serialL (skH 1 true 2) = none := by decide
theorem sk_cycle : cycleL (skH 1 true 2) = [0, 1] := by decide
theorem sk_safe0 : safeL (skH 1 true 2) 0 = true := by decide
theorem sk_safe1 : safeL (skH 1 true 2) 1 = false := by decide
theorem sk_safe2 : safeL (skH 1 true 2) 2 = true := by decide
theorem sk_admit : admitL (skH 1 false 0) 1 = (0, 272) := by decide
theorem sk_admit0 : admitL (skH 0 false 0) 1 = (2, 0) := by decide
theorem sk_one : serialL skO = some [0] := by decide
theorem sk_equiv : equivL skO [0] = true := by decide
end Go.Proofs.Ytlfpkikmofgjfaa
