/- The reference's walk of Once. -/
import Derived.Test.YtlfpkikmofgjfaaRefJ
namespace Go.Proofs.Ytlfpkikmofgjfaa
open Go.RowKit

/-- The first k members are committed transactions, each for the first time. -/
def FineTo (hs : List Acc) (o : List Int) (k : Nat) : Prop := ∀ j, j < k → (0 ≤ o.getD j 0 ∧ o.getD j 0 < hs.length) ∧ (tx hs (o.getD j 0).toNat).done = true ∧ o.getD j 0 ∉ o.take j
theorem fineTo_mem {o : List Int} {p : Int → Prop} : (∀ x, x ∈ o → p x) ↔ ∀ j, j < o.length → p (o.getD j 0) := by
  constructor
  · intro h j hj
    exact h _ (getD_mem' hj)
  · intro h x hx
    obtain ⟨j, hj, rfl⟩ := List.mem_iff_getElem.1 hx
    have := h j hj
    simpa [List.getD, List.getElem?_eq_getElem hj] using this
theorem nodup_take {o : List Int} : o.Nodup ↔ ∀ j, j < o.length → o.getD j 0 ∉ o.take j := by
  constructor
  · intro h j hj hm
    obtain ⟨i, hi, e⟩ := List.mem_iff_getElem.1 hm
    have hij : i < j := by simp at hi; omega
    have e1 : (o.take j)[i] = o[i]'(by omega) := by simp
    rw [e1] at e
    have : o.getD j 0 = o[j] := by simp [List.getD, List.getElem?_eq_getElem hj]
    rw [this] at e
    exact List.pairwise_iff_getElem.1 h i j (by omega) hj hij e
  · intro h
    refine List.pairwise_iff_getElem.2 fun i j hi hj hij e => ?_
    have h1 : o.getD j 0 = o[j] := by simp [List.getD, List.getElem?_eq_getElem hj]
    refine h j hj ?_
    rw [h1, ← e]
    exact List.mem_iff_getElem.2 ⟨i, by simp; omega, by simp⟩
theorem onceB_true {hs : List Acc} {o : List Int} (hl : o.length = committed hs) (h : FineTo hs o o.length) : onceB hs o = true := by
  unfold onceB
  simp only [Bool.and_eq_true, decide_eq_true_eq, List.all_eq_true]
  refine ⟨⟨hl, fineTo_mem.2 fun j hj => ⟨(h j hj).1, (h j hj).2.1⟩⟩, nodup_take.2 fun j hj => (h j hj).2.2⟩
theorem onceB_len {hs : List Acc} {o : List Int} (hl : o.length ≠ committed hs) : onceB hs o = false := by
  unfold onceB
  rw [decide_eq_false hl]
  rfl
theorem onceB_no {hs : List Acc} {o : List Int} {k : Nat} (hk : k < o.length) (h : ¬ ((0 ≤ o.getD k 0 ∧ o.getD k 0 < hs.length) ∧ (tx hs (o.getD k 0).toNat).done = true ∧ o.getD k 0 ∉ o.take k)) : onceB hs o = false := by
  rw [← Bool.not_eq_true]
  intro e
  unfold onceB at e
  simp only [Bool.and_eq_true, decide_eq_true_eq, List.all_eq_true] at e
  obtain ⟨⟨_, h1⟩, h2⟩ := e
  have h3 := h1 _ (getD_mem' hk)
  exact h ⟨h3.1, h3.2, nodup_take.1 h2 k hk⟩
theorem Ints.take {w : World} {A : Option Addr} {n c : Nat} {xs : List Int} (h : Ints w (.slice A n c) xs) {k : Nat} (hk : k ≤ xs.length) : Ints w (.slice A k c) (xs.take k) := by
  obtain ⟨hw, A', c', e, hm, hcap, hc⟩ := h
  injection e with e1 e2 e3
  subst e1 e2 e3
  have hl : (xs.take k).length = k := by simp; omega
  refine ⟨fun x hx => hw x (List.mem_of_mem_take hx), A, c, by rw [hl], by omega, by omega, fun j hj => ?_⟩
  rw [hl] at hj
  obtain ⟨b, o, e, hlt, hcell⟩ := hc j (by omega)
  refine ⟨b, o, e, hlt, ?_⟩
  rw [hcell]
  simp [List.getD, hj]
set_option maxRecDepth 100000 in
set_option maxHeartbeats 2000000 in
theorem ronce_any {w : World} {v ov : Value} {hs : List Acc} {o : List Int} (h : Hist w v hs) (ho : Ints w ov o) :
    Calls Try.prog 71 #[v, ov] w fun e w' => e = .returned (.bool (onceB hs o)) ∧ Below w.heap.size w w' := by
  have HCm := Lib.hid (rcommitted_any h)
  obtain ⟨A, c, rfl, hm, hcap, hc⟩ := h.shape
  have HC := Lib.hid hc
  have HOI := Lib.hid ho
  obtain ⟨_, B, d, rfl, hm2, hdap, hoc⟩ := ho
  have HO := Lib.hid hoc
  clear h hc hoc
  have hcl : committed hs ≤ hs.length := countTo_le hs hs.length
  generalize hN : committed hs = N at *
  have HN := Lib.hid hN
  clear hN
  generalize hL : o.length = L at *
  have HL := Lib.hid hL
  clear hL
  by_cases hLN : L = N
  case neg =>
    have HR := Lib.hid (onceB_len (hs := hs) (o := o) (by rw [HL.out, HN.out]; exact hLN))
    have hb : ((L : Int) != (N : Int)) = true := by simp; omega
    go_enter Try.func71, Try.ntmps71
    go_wp2_with fail
    refine HCm.out.mono ?_
    rintro e w1 ⟨rfl, rfl⟩
    go_wp2_with fail
    go_ret
    exact ⟨ret_bool HR.out.symm, Below.refl _ _⟩
  have HLN := Lib.hid hLN
  have hb : ((L : Int) != (N : Int)) = false := by simp [hLN]
  clear hLN
  go_enter Try.func71, Try.ntmps71
  go_wp2_with fail
  refine HCm.out.mono ?_
  rintro e w1 ⟨rfl, rfl⟩
  go_wp2_with fail
  clear hb HCm
  go_loopw [5] (fun i wr => ∃ k n : Nat, i = .int .i64 k ∧ k ≤ L ∧ wr = w.drewN n ∧ Hid (FineTo hs o k)) (fun i _ => L - (intOf i).toNat)
  case atStart => exact ⟨0, 0, rfl, by omega, rfl, Lib.hid (fun j hj => by omega)⟩
  case round =>
    obtain ⟨k, n, rfl, hk, rfl, HF⟩ := hrel
    by_cases hlk : k < L
    · obtain ⟨b, oo, rfl, hblt, hcell⟩ := HO.out k hlk
      have HNo := Lib.hid (@onceB_no hs o k (by rw [HL.out]; exact hlk))
      have HYes : Hid ((0 ≤ o.getD k 0 ∧ o.getD k 0 < hs.length) → (tx hs (o.getD k 0).toNat).done = true → o.getD k 0 ∉ o.take k → FineTo hs o (k + 1)) := Lib.hid fun h1 h2 h3 j hj => by
        by_cases e : j = k
        · subst e; exact ⟨h1, h2, h3⟩
        · exact HF.out j (by omega)
      have HTk := Lib.hid (HOI.out.take (k := k) (by rw [HL.out]; exact hk))
      have hkd : k ≤ d := by omega
      generalize o.getD k 0 = y at *
      by_cases hy0 : y < 0
      · have HR := Lib.hid (HNo.out (fun h => by have := h.1.1; omega))
        go_wp2_with fail
        go_ret
        exact ⟨ret_bool HR.out.symm, Below.drewN' (Below.refl _ _) n⟩
      by_cases hyl : y < hs.length
      case neg =>
        have HR := Lib.hid (HNo.out (fun h => hyl h.1.2))
        go_wp2_with fail
        go_ret
        exact ⟨ret_bool HR.out.symm, Below.drewN' (Below.refl _ _) n⟩
      obtain ⟨yn, rfl⟩ : ∃ yn : Nat, y = yn := ⟨y.toNat, by omega⟩
      rw [Int.toNat_natCast] at HNo HYes
      have hyn : yn < hs.length := by omega
      obtain ⟨hb', ho', vr, vw, rfl, ha⟩ := HC.out yn hyn
      have c2 := ha.c2
      clear ha
      generalize (tx hs yn).done = dn at *
      have HHas : Hid (∀ q, Calls Try.prog 83 #[.slice (some ⟨b, oo, none⟩) k d, .int .i64 (yn : Int)] (w.drewN (n + q)) fun e w' => e = .returned (.bool (decide ((yn : Int) ∈ o.take k))) ∧ ∃ m, w' = w.drewN (n + m)) := Lib.hid fun q => (has_any (yn : Int) (HTk.out.drewN (n + q))).mono fun e w' ⟨h, m, h'⟩ => ⟨h, q + m, by rw [h', World.drewN_drewN]; congr 1; omega⟩
      have hq0 : decide ((yn : Int) < 0) = false := decide_eq_false (by omega)
      by_cases hin : (yn : Int) ∈ o.take k
      · rw [decide_eq_true hin] at HHas
        have HR := Lib.hid (HNo.out (fun h => h.2.2 hin))
        clear hin HNo HYes
        go_wp2_with fail
        go_quiet ((go_at_call 83; exact HHas.out _))
        go_wp2_with fail
        go_ret
        exact ⟨ret_bool HR.out.symm, Below.drewN' (Below.refl _ _) _⟩
      · rw [decide_eq_false hin] at HHas
        cases dn
        · have HR := Lib.hid (HNo.out (fun h => by cases h.2.1))
          clear hin HNo HYes
          go_wp2_with fail
          go_quiet ((go_at_call 83; exact HHas.out _))
          go_wp2_with fail
          go_ret
          exact ⟨ret_bool HR.out.symm, Below.drewN' (Below.refl _ _) _⟩
        · have HFn := Lib.hid (HYes.out ⟨by omega, by omega⟩ rfl hin)
          clear hin HNo HYes
          go_wp2_with fail
          go_quiet ((go_at_call 83; exact HHas.out _))
          go_wp2_with fail
          go_roundw
          case rel => exact ⟨k + 1, _, by go_num, by omega, rfl, HFn⟩
          case measure => simp [intOf]; omega
    · obtain rfl : k = L := by omega
      have HR := Lib.hid (onceB_true (hs := hs) (o := o) (by rw [HL.out, HN.out, HLN.out]) (by rw [HL.out]; exact HF.out))
      go_wp2_with fail
      go_ret
      exact ⟨ret_bool HR.out.symm, Below.drewN' (Below.refl _ _) n⟩
end Go.Proofs.Ytlfpkikmofgjfaa
