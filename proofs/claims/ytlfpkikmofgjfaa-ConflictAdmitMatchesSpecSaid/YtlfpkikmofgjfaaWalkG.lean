/- The walks of pairs, Anti, Depends. -/
import Derived.Test.YtlfpkikmofgjfaaPairs
import Derived.Test.YtlfpkikmofgjfaaWalkF
namespace Go.Proofs.Ytlfpkikmofgjfaa
open Go.RowKit

/-- A row of pairs is returned. -/
def IsPairs (w : World) (e : Ending) (w' : World) (ps : List (Nat × Nat)) : Prop := ∃ v, e = .returned v ∧ Prs w' w.heap.size v ps
theorem pairs_nil (kinds : Int) (w : World) : Calls Try.prog 50 #[.pointer none, .int .i64 kinds] w fun e w' => e = .returned (.slice none 0 0) ∧ w = w' := by
  go_enter Try.func50, Try.ntmps50
  go_wp2_with fail
  go_ret
  exact ⟨rfl, rfl⟩
set_option maxHeartbeats 2000000 in
theorem pairs_any {w : World} {g : Nat} {v : Value} {hs : List Acc} (kinds : Int) (p : Nat → Nat → Bool) (hp : ∀ i j, (bits BinOp.and IntKind.i64 (bitsOf hs i j) kinds != 0) = p i j) (hg : Graph w g v hs) (hh : Hist w v hs) (hl : hs.length ≤ 100) :
    Calls Try.prog 50 #[.pointer (some ⟨g, 0, none⟩), .int .i64 kinds] w fun e w' => IsPairs w e w' (pairsOf hs.length p) ∧ Below w.heap.size w w' := by
  obtain ⟨A, c, rfl, hm, hcap, _⟩ := hh.shape
  obtain ⟨eb, hc, heb, hr⟩ := hg
  have HR := Lib.hid hr
  have HCg := Lib.hid hc
  have HP := Lib.hid hp
  have hglt := hc.lt
  have g0 : w.cell? ⟨g, 0, none⟩ = some (.slice A hs.length c) := hc.cell 0
  clear hr hc hp hh
  go_enter Try.func50, Try.ntmps50
  go_wp2_with fail
  go_loopw [5, 17] (fun v i wr => ∃ k : Nat, i = .int .i64 k ∧ k ≤ hs.length ∧ Prs wr w.heap.size v (pairsTo hs.length p k 0) ∧ (pairsTo hs.length p k 0).length ≤ 100 * k ∧ Below w.heap.size w wr) (fun _ i _ => hs.length - (intOf i).toNat)
  case atStart => exact ⟨0, rfl, by omega, Prs.nil _ _, by simp [pairsTo], Below.refl _ _⟩
  case round =>
    obtain ⟨k, rfl, hk, hpr, hpl, hB⟩ := hrel
    have HPr := Lib.hid hpr
    have HPl := Lib.hid hpl
    have HB := Lib.hid hB
    clear hpr hpl hB
    by_cases hlk : k < hs.length
    · obtain ⟨rb, r1, r2, r3⟩ := HR.out k hlk
      have HR3 := Lib.hid r3
      have f1 : wr.cell? ⟨g, 1, none⟩ = some (.slice (some ⟨eb, 0, none⟩) hs.length hs.length) := (HB.out.cell (p := ⟨g, 1, none⟩) hglt).trans (HCg.out.cell 1)
      have f2 : wr.cell? ⟨eb, k, none⟩ = some (.slice (some ⟨rb, 0, none⟩) hs.length hs.length) := (HB.out.cell (p := ⟨eb, k, none⟩) heb).trans r1
      clear r1 r3
      go_wp2_with fail
      go_loopw [5, 28] (fun v i wr => ∃ m : Nat, i = .int .i64 m ∧ m ≤ hs.length ∧ Prs wr w.heap.size v (pairsTo hs.length p k m) ∧ (pairsTo hs.length p k m).length ≤ 100 * k + m ∧ Below w.heap.size w wr) (fun _ i _ => hs.length - (intOf i).toNat)
      case atStart => exact ⟨0, rfl, by omega, HPr.out, by have := HPl.out; omega, HB.out⟩
      case round =>
        obtain ⟨m, rfl, hm', hpr, hpl, hB⟩ := hrel
        clear HPr HPl HB
        have HPr := Lib.hid hpr
        have HPl := Lib.hid hpl
        have HB := Lib.hid hB
        clear hpr hpl hB
        by_cases hlm : m < hs.length
        · have f3 : wr.cell? ⟨rb, m, none⟩ = some (.int .i64 (bitsOf hs k m)) := (HB.out.cell (p := ⟨rb, m, none⟩) r2).trans (HR3.out m hlm)
          have hpk := HP.out k m
          have hst := pairsTo_step hs.length p k m
          generalize bitsOf hs k m = x at *
          have hsz := HB.out.size
          by_cases hpt : p k m = true
          · rw [hpt] at hpk
            rw [if_pos hpt] at hst
            have HST := Lib.hid hst
            clear hst hpt
            go_wp2_with (at_builtin; refine wpList_app_pair wr w.heap.size rfl (.tmp 37) (.tmp 41) rfl u5 _ k m rfl rfl HPr.out (by have := HPl.out; omega) hsz ?_; intro v1 w1 h1 h2 h3; rw [← HST.out] at h1; have H1 := Lib.hid h1; have HB1 := Lib.hid (HB.out.grown h2 hsz (fun q hq => h3 q hq)); clear h1 h2 h3)
            go_roundw
            case rel => exact ⟨m + 1, by go_num, by omega, H1.out, by rw [HST.out]; have := HPl.out; simp; omega, HB1.out⟩
            case measure => simp [intOf]; omega
          · have hpf : p k m = false := by simpa using hpt
            rw [hpf] at hpk
            rw [if_neg hpt, List.append_nil] at hst
            have HST := Lib.hid hst
            clear hst hpt hpf
            go_wp2_with fail
            go_roundw
            case rel => exact ⟨m + 1, by go_num, by omega, by rw [HST.out]; exact HPr.out, by rw [HST.out]; have := HPl.out; omega, HB.out⟩
            case measure => simp [intOf]; omega
        · obtain rfl : m = hs.length := by omega
          go_wp2_with fail
          go_roundw
          case rel => exact ⟨k + 1, by go_num, by omega, by rw [← pairsTo_row]; exact HPr.out, by rw [← pairsTo_row]; have := HPl.out; omega, HB.out⟩
          case measure => simp [intOf]; omega
    · obtain rfl : k = hs.length := by omega
      go_wp2_with fail
      go_ret
      exact ⟨⟨_, rfl, by rw [← pairsTo_all]; exact HPr.out⟩, HB.out⟩
theorem Prs.mono {w : World} {base base' : Nat} {v : Value} {ps : List (Nat × Nat)} (h : Prs w base v ps) (hb : base' ≤ base) : Prs w base' v ps := by
  obtain ⟨⟨hl, h⟩, hn⟩ := h
  refine ⟨⟨hl, ?_⟩, hn⟩
  rcases h with h | ⟨g, cap, cur, h1, h2, h3, h4⟩
  · exact .inl h
  · exact .inr ⟨g, cap, cur, h1, by omega, h3, h4⟩
theorem anti_any {w : World} {v : Value} {hs : List Acc} (k : Hist w v hs) :
    Calls Try.prog 27 #[v] w fun e w' => IsPairs w e w' (antiL hs) ∧ Below w.heap.size w w' := by
  have HG := Lib.hid (graph_any k)
  have HK := Lib.hid k
  clear k
  by_cases hv : checkL hs = 0
  · have HV := Lib.hid hv
    have HR := Lib.hid (show antiL hs = pairsOf hs.length (antiB hs) by unfold antiL; rw [if_pos hv])
    have HL := Lib.hid (checkL_zero.1 hv).len
    clear hv
    go_enter Try.func27, Try.ntmps27
    go_wp2_with fail
    refine HG.out.mono ?_
    rintro e w1 ⟨hg, hb⟩
    unfold IsGraph at hg
    rw [if_pos HV.out] at hg
    obtain ⟨g, rfl, hgr, hge⟩ := hg
    have HGr := Lib.hid hgr
    have HB := Lib.hid hb
    clear hgr hb hge
    go_wp2_with fail
    refine (pairs_any 2 (antiB hs) (and_two hs) HGr.out (HK.out.below HB.out) HL.out).mono ?_
    rintro e w2 ⟨⟨u, rfl, hp⟩, hb2⟩
    have HP := Lib.hid (hp.mono HB.out.size)
    have HB2 := Lib.hid (HB.out.trans (hb2.mono HB.out.size))
    clear hp hb2
    go_wp2_with fail
    go_ret
    exact ⟨⟨u, rfl, by rw [HR.out]; exact HP.out⟩, HB2.out⟩
  · have HV := Lib.hid hv
    have HR := Lib.hid (show antiL hs = [] by unfold antiL; rw [if_neg hv])
    clear hv
    go_enter Try.func27, Try.ntmps27
    go_wp2_with fail
    refine HG.out.mono ?_
    rintro e w1 ⟨hg, hb⟩
    unfold IsGraph at hg
    rw [if_neg HV.out] at hg
    subst hg
    have HB := Lib.hid hb
    clear hb
    go_wp2_with fail
    refine (pairs_nil 2 w1).mono ?_
    rintro e w2 ⟨rfl, rfl⟩
    go_wp2_with fail
    go_ret
    exact ⟨⟨_, rfl, by rw [HR.out]; exact Prs.nil _ _⟩, HB.out⟩
theorem depends_any {w : World} {v : Value} {hs : List Acc} (k : Hist w v hs) :
    Calls Try.prog 29 #[v] w fun e w' => IsPairs w e w' (dependsL hs) ∧ Below w.heap.size w w' := by
  have HG := Lib.hid (graph_any k)
  have HK := Lib.hid k
  clear k
  by_cases hv : checkL hs = 0
  · have HV := Lib.hid hv
    have HR := Lib.hid (show dependsL hs = pairsOf hs.length (edgeB hs) by unfold dependsL; rw [if_pos hv])
    have HL := Lib.hid (checkL_zero.1 hv).len
    clear hv
    go_enter Try.func29, Try.ntmps29
    go_wp2_with fail
    refine HG.out.mono ?_
    rintro e w1 ⟨hg, hb⟩
    unfold IsGraph at hg
    rw [if_pos HV.out] at hg
    obtain ⟨g, rfl, hgr, hge⟩ := hg
    have HGr := Lib.hid hgr
    have HB := Lib.hid hb
    clear hgr hb hge
    go_wp2_with fail
    refine (pairs_any 3 (edgeB hs) (and_three hs) HGr.out (HK.out.below HB.out) HL.out).mono ?_
    rintro e w2 ⟨⟨u, rfl, hp⟩, hb2⟩
    have HP := Lib.hid (hp.mono HB.out.size)
    have HB2 := Lib.hid (HB.out.trans (hb2.mono HB.out.size))
    clear hp hb2
    go_wp2_with fail
    go_ret
    exact ⟨⟨u, rfl, by rw [HR.out]; exact HP.out⟩, HB2.out⟩
  · have HV := Lib.hid hv
    have HR := Lib.hid (show dependsL hs = [] by unfold dependsL; rw [if_neg hv])
    clear hv
    go_enter Try.func29, Try.ntmps29
    go_wp2_with fail
    refine HG.out.mono ?_
    rintro e w1 ⟨hg, hb⟩
    unfold IsGraph at hg
    rw [if_neg HV.out] at hg
    subst hg
    have HB := Lib.hid hb
    clear hb
    go_wp2_with fail
    refine (pairs_nil 3 w1).mono ?_
    rintro e w2 ⟨rfl, rfl⟩
    go_wp2_with fail
    go_ret
    exact ⟨⟨_, rfl, by rw [HR.out]; exact Prs.nil _ _⟩, HB.out⟩
end Go.Proofs.Ytlfpkikmofgjfaa
