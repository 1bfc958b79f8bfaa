/- The walks of the sets of items: of, meets. -/
import Derived.Test.YtlfpkikmofgjfaaWalkB
namespace Go.Proofs.Ytlfpkikmofgjfaa
open Go.RowKit

theorem zeroB (w : World) : (zeroValue 4).run Try.prog w = .ok (.bool false) w := by kernel_rfl
theorem take_succ_getD {xs : List Int} {k : Nat} (h : k < xs.length) : xs.take (k + 1) = xs.take k ++ [xs.getD k 0] := by
  rw [List.take_add_one, List.getD, List.getElem?_eq_getElem h]
  rfl
theorem getD_not_mem {xs : List Int} (hn : xs.Nodup) {k : Nat} (h : k < xs.length) : xs.getD k 0 ∉ xs.take k := by
  intro hm
  obtain ⟨i, hi, e⟩ := List.mem_iff_getElem.1 hm
  have hik : i < k := by simp at hi; omega
  rw [List.getElem_take] at e
  have e2 : xs.getD k 0 = xs[k] := by simp [List.getD, h]
  rw [e2] at e
  have := (List.getElem_inj hn).1 e
  omega
theorem Only.below_new {w w1 : World} {b : Nat} (h : Only w w1 (fun c => c = b)) (hb : w.heap.size ≤ b) : Below w.heap.size w w1 := h.below (fun c hc => by rw [hc]; exact hb) (Nat.le_refl _)
set_option maxHeartbeats 1000000 in
theorem of_any {w : World} {v : Value} {xs : List Int} (h : Ints w v xs) (hn : xs.Nodup) (hl : xs.length ≤ 1000000) :
    Calls Try.prog 44 #[v] w fun e w' => ∃ b, e = .returned (.map (some b)) ∧ w.heap.size ≤ b ∧ SetAt Try.prog 3 4 w' b xs ∧ Below w.heap.size w w' := by
  obtain ⟨hw, A, c, rfl, hm, hcap, hc⟩ := h
  have HC := Lib.hid hc
  have HW := Lib.hid hw
  have HN := Lib.hid hn
  clear hc hw hn
  have hmm := @run_makeMap Try.prog
  go_enter Try.func44, Try.ntmps44
  go_wp2_with fail
  go_loopw [9] (fun i wr => ∃ k : Nat, i = .int .i64 k ∧ k ≤ xs.length ∧ SetAt Try.prog 3 4 wr w.heap.size (xs.take k) ∧ Below w.heap.size w wr) (fun i _ => xs.length - (intOf i).toNat)
  case atStart => exact ⟨0, rfl, by omega, SetAt.made w _ 3 4, (Below.refl _ _).alloc (Nat.le_refl _) _⟩
  case round =>
    obtain ⟨k, rfl, hk, hs, hB⟩ := hrel
    by_cases hlk : k < xs.length
    · obtain ⟨b, o, rfl, hlt, hcell⟩ := HC.out k hlk
      have hcell' : wr.cell? ⟨b, o + k, none⟩ = some (.int .i64 (xs.getD k 0)) := (hB.cell (p := ⟨b, o + k, none⟩) hlt).trans hcell
      have hy := HW.out _ (getD_mem' hlk)
      have HNM := Lib.hid (getD_not_mem HN.out hlk)
      have HTS := Lib.hid (take_succ_getD hlk)
      have HTL := Lib.hid (show (xs.take k).length ≤ 1000000 by simp; omega)
      obtain ⟨y, hyy⟩ : ∃ y, y = xs.getD k 0 := ⟨_, rfl⟩
      rw [← hyy] at hcell' hy HNM HTS
      clear hyy hcell
      have HS := Lib.hid hs
      have HB := Lib.hid hB
      clear hs hB
      go_wp2_with (refine wpList_set_put rfl (.tmp 13) (.tmp 14) (.const (.bool true)) 58 rfl Try.underlying3 Try.underlying4 Try.underlying58 y rfl rfl rfl HS.out (by have := HTL.out; simp only [maxLen]; omega) hy HNM.out ?_; intro w3 hs3 ht3; rw [← HTS.out] at hs3; have HS3 := Lib.hid hs3; have HT3 := Lib.hid ht3; clear hs3 ht3)
      go_roundw
      case rel => exact ⟨k + 1, by go_num, by omega, HS3.out, HB.out.trans (((Only.refl wr _).turned HT3.out (.inl rfl) : Only wr w3 (fun c => c = w.heap.size)).below (fun c hc => by rw [hc]; exact Nat.le_refl _) HB.out.size)⟩
      case measure => simp [intOf]; omega
    · obtain rfl : k = xs.length := by omega
      rw [List.take_length] at hs
      go_wp2_with fail
      go_ret
      exact ⟨_, rfl, Nat.le_refl _, hs, hB⟩
/-- What the closure of meets asks. -/
theorem has_key {w : World} {bx b : Nat} {ks : List Int} {y : Int} (hc : w.cell? ⟨bx, 0, none⟩ = some (.map (some b))) (hs : SetAt Try.prog 3 4 w b ks) (hy : W64 y) :
    Calls Try.prog 79 #[.int .i64 y, .pointer (some ⟨bx, 0, none⟩)] w fun e w' => e = .returned (.bool (decide (y ∈ ks))) ∧ w = w' := by
  have hlook := hs.look Try.underlying3 Try.underlying4 Try.underlying58 (zeroB w) hy
  clear hs
  go_enter Try.func79, Try.ntmps79
  go_wp2_with fail
  go_ret
  exact ⟨rfl, rfl⟩
/-- An index, or -1, and whether there is one. -/
def IsIdx (e : Ending) (b : Bool) : Prop := ∃ r, e = .returned (.int .i64 r) ∧ -1 ≤ r ∧ decide (0 ≤ r) = b
theorem SetAt.drewN {w : World} {b : Nat} {ks : List Int} (h : SetAt Try.prog 3 4 w b ks) (n : Nat) : SetAt Try.prog 3 4 (w.drewN n) b ks := h.kept rfl
set_option maxHeartbeats 1000000 in
theorem index_key {w : World} {v : Value} {xs ks : List Int} {bx b : Nat} (h : Ints w v xs) (hc : w.cell? ⟨bx, 0, none⟩ = some (.map (some b))) (hs : SetAt Try.prog 3 4 w b ks) :
    Calls Try.prog 85 #[v, .func (Fn.func 79) #[] #[.pointer (some ⟨bx, 0, none⟩)]] w fun e w' => IsIdx e (meet ks xs) ∧ w = w' := by
  obtain ⟨hw, A, c, rfl, hm, hcap, hcell⟩ := h
  have HC := Lib.hid hcell
  have HW := Lib.hid hw
  have HS := Lib.hid hs
  have HX := Lib.hid hc
  clear hcell hw hs hc
  go_enter Try.func85, Try.ntmps85
  go_wp2
  go_loopw [8] (fun i wr => ∃ k : Nat, i = .int .i64 k ∧ k ≤ xs.length ∧ wr = w ∧ Hid (∀ x, x ∈ xs.take k → x ∉ ks)) (fun i _ => xs.length - (intOf i).toNat)
  case atStart => exact ⟨0, rfl, by omega, rfl, Lib.hid (by simp)⟩
  case round =>
    obtain ⟨k, rfl, hk, rfl, HN⟩ := hrel
    by_cases hlk : k < xs.length
    · obtain ⟨b', o, rfl, hlt, hcell⟩ := HC.out k hlk
      have hy := HW.out _ (getD_mem' hlk)
      obtain ⟨y, hyy⟩ : ∃ y, y = xs.getD k 0 := ⟨_, rfl⟩
      rw [← hyy] at hcell hy
      have HY := Lib.hid hyy
      clear hyy
      go_wp2_with fail
      refine (has_key HX.out HS.out hy).mono ?_
      by_cases he : y ∈ ks
      · rw [decide_eq_true he]
        rintro e w1 ⟨rfl, rfl⟩
        have HR := Lib.hid (show meet ks xs = true from meet_iff.2 ⟨y, he, by rw [HY.out]; exact getD_mem' hlk⟩)
        go_wp2
        go_ret
        exact ⟨⟨k, rfl, by omega, by rw [HR.out]; simp⟩, rfl⟩
      · rw [decide_eq_false he]
        rintro e w1 ⟨rfl, rfl⟩
        have HR := Lib.hid (show ∀ x, x ∈ xs.take (k + 1) → x ∉ ks from fun x hx => by
          rcases (mem_take_succ hlk x).1 hx with h | h
          · exact HN.out x h
          · rw [h, ← HY.out]; exact he)
        go_wp2
        go_roundw
        case rel => exact ⟨k + 1, by go_num, by omega, by trivial, HR⟩
        case measure => simp [intOf]; omega
    · obtain rfl : k = xs.length := by omega
      have HR := Lib.hid (show meet ks xs = false by
        rw [← Bool.not_eq_true, meet_iff]
        rintro ⟨x, h1, h2⟩
        exact HN.out x (by rw [List.take_length]; exact h2) h1)
      go_wp2
      go_ret
      exact ⟨⟨-1, rfl, by omega, by rw [HR.out]; rfl⟩, by trivial⟩
theorem contains_key {w : World} {v : Value} {xs ks : List Int} {bx b : Nat} (h : Ints w v xs) (hc : w.cell? ⟨bx, 0, none⟩ = some (.map (some b))) (hs : SetAt Try.prog 3 4 w b ks) :
    Calls Try.prog 78 #[v, .func (Fn.func 79) #[] #[.pointer (some ⟨bx, 0, none⟩)]] w fun e w' => e = .returned (.bool (meet ks xs)) ∧ w = w' := by
  have HI := Lib.hid (index_key h hc hs)
  clear h hc hs
  go_enter Try.func78, Try.ntmps78
  go_wp2_with fail
  refine HI.out.mono ?_
  rintro e w1 ⟨⟨r, rfl, h1, h2⟩, rfl⟩
  have H2 := Lib.hid h2
  clear h2
  go_wp2_with fail
  go_ret
  exact ⟨ret_bool H2.out, rfl⟩
theorem meets_any {w : World} {v : Value} {xs ks : List Int} {b : Nat} (h : Ints w v xs) (hs : SetAt Try.prog 3 4 w b ks) :
    Calls Try.prog 47 #[.map (some b), v] w fun e w' => e = .returned (.bool (meet ks xs)) ∧ Below w.heap.size w w' := by
  have HI := Lib.hid (contains_key (w := w.alloc (.cells #[.map (some b)] 58)) (h.alloc _) ((Cells.made w 58 #[.map (some b)]).cell 0) (hs.kept (Below.heap_alloc _ _ _ hs.lt)))
  clear h hs
  go_enter Try.func47, Try.ntmps47
  go_wp2_with fail
  refine HI.out.mono ?_
  rintro e w1 ⟨rfl, rfl⟩
  go_wp2_with fail
  go_ret
  exact ⟨rfl, (Below.refl _ _).alloc (Nat.le_refl _) _⟩
set_option maxHeartbeats 1000000 in
theorem index_any {w : World} {v : Value} {xs : List Int} (x : Int) (h : Ints w v xs) :
    Calls Try.prog 81 #[v, .int .i64 x] w fun e w' => IsIdx e (decide (x ∈ xs)) ∧ w = w' := by
  obtain ⟨hw, A, c, rfl, hm, hcap, hcell⟩ := h
  have HC := Lib.hid hcell
  clear hcell hw
  go_enter Try.func81, Try.ntmps81
  go_wp2
  go_loopw [8] (fun i wr => ∃ k : Nat, i = .int .i64 k ∧ k ≤ xs.length ∧ wr = w ∧ Hid (x ∉ xs.take k)) (fun i _ => xs.length - (intOf i).toNat)
  case atStart => exact ⟨0, rfl, by omega, rfl, Lib.hid (by simp)⟩
  case round =>
    obtain ⟨k, rfl, hk, rfl, HN⟩ := hrel
    by_cases hlk : k < xs.length
    · obtain ⟨b', o, rfl, hlt, hcell⟩ := HC.out k hlk
      obtain ⟨y, hyy⟩ : ∃ y, y = xs.getD k 0 := ⟨_, rfl⟩
      rw [← hyy] at hcell
      have HY := Lib.hid hyy
      clear hyy
      by_cases he : x = y
      · have HR := Lib.hid (show x ∈ xs by rw [he, HY.out]; exact getD_mem' hlk)
        go_wp2
        go_ret
        exact ⟨⟨k, rfl, by omega, by rw [decide_eq_true HR.out]; simp⟩, rfl⟩
      · have HR := Lib.hid (show x ∉ xs.take (k + 1) from fun h => by
          rcases (mem_take_succ hlk x).1 h with h | h
          · exact HN.out h
          · exact he (h.trans HY.out.symm))
        go_wp2
        go_roundw
        case rel => exact ⟨k + 1, by go_num, by omega, by trivial, HR⟩
        case measure => simp [intOf]; omega
    · obtain rfl : k = xs.length := by omega
      have HR := Lib.hid (show x ∉ xs by have := HN.out; rwa [List.take_length] at this)
      go_wp2
      go_ret
      exact ⟨⟨-1, rfl, by omega, by rw [decide_eq_false HR.out]; rfl⟩, by trivial⟩
theorem contains_any {w : World} {v : Value} {xs : List Int} (x : Int) (h : Ints w v xs) :
    Calls Try.prog 57 #[v, .int .i64 x] w fun e w' => e = .returned (.bool (decide (x ∈ xs))) ∧ w = w' := by
  have HI := Lib.hid (index_any x h)
  clear h
  go_enter Try.func57, Try.ntmps57
  go_wp2_with fail
  refine HI.out.mono ?_
  rintro e w1 ⟨⟨r, rfl, h1, h2⟩, rfl⟩
  have H2 := Lib.hid h2
  clear h2
  go_wp2_with fail
  go_ret
  exact ⟨ret_bool H2.out, rfl⟩
end Go.Proofs.Ytlfpkikmofgjfaa
