/- The reference's walks of Last and With. -/
import Derived.Test.YtlfpkikmofgjfaaWalkP
namespace Go.Proofs.Ytlfpkikmofgjfaa
open Go.RowKit

set_option maxRecDepth 100000 in
set_option maxHeartbeats 1000000 in
theorem rlast_any {w : World} {v : Value} {hs : List Acc} (h : Hist w v hs) :
    Calls Try.prog 53 #[v] w fun e w' => e = .returned (.int .i64 (lastL hs)) ∧ ∃ n, w' = w.drewN n := by
  obtain ⟨A, c, rfl, hm, hcap, hc⟩ := h.shape
  have HC := Lib.hid hc
  have HR := Lib.hid (lastTo_all hs)
  clear h hc
  go_enter Try.func53, Try.ntmps53
  go_wp2_with fail
  go_loopw [3, 4] (fun m i wr => ∃ (k n : Nat) (L : Int), i = .int .i64 k ∧ k ≤ hs.length ∧ m = .int .i64 L ∧ Hid (lastTo hs k = L) ∧ wr = w.drewN n) (fun _ i _ => hs.length - (intOf i).toNat)
  case atStart => exact ⟨0, 0, 0, rfl, by omega, rfl, Lib.hid rfl, rfl⟩
  case round =>
    obtain ⟨k, n, L, rfl, hk, rfl, HL, rfl⟩ := hrel
    by_cases hlk : k < hs.length
    · obtain ⟨b, o, vr, vw, rfl, ha⟩ := HC.out k hlk
      have c1 := ha.c1
      have c3 := ha.c3
      have HLt := Lib.hid (lastTo_succ hlk)
      clear ha
      generalize (tx hs k).snap = sn at *
      generalize (tx hs k).stamp = st at *
      obtain ⟨M, hM⟩ : ∃ M, (if (if L < st then st else L) < sn then sn else if L < st then st else L) = M := ⟨_, rfl⟩
      have HM : Hid (lastTo hs (k + 1) = M) := Lib.hid (by rw [HLt.out, HL.out, ← hM, max3_if])
      go_wp2_with fail
      go_quiet (fail)
      go_wp2_with fail
      go_roundw
      case rel => exact ⟨k + 1, _, M, by go_num, by omega, rfl, HM, rfl⟩
      case measure => simp [intOf]; omega
    · have hkl : k = hs.length := by omega
      have HE := Lib.hid (show L = lastL hs by rw [← HR.out, ← HL.out, hkl])
      clear hkl
      go_wp2_with fail
      go_ret
      exact ⟨ret_int HE.out, _, rfl⟩
/-- What append lays behind an empty slice is a copy of the history. -/
theorem cloned_of {w w1 : World} {hs : List Acc} {b o : Nat} {fa : Nat → Value × Value} {v' : Value} (HC : ∀ j, j < hs.length → At w b (o + j * 6) (tx hs j) (fa j).1 (fa j).2) (hp : 0 < hs.length) (hm : hs.length ≤ 9223372036854775807)
    (h1 : w1.ownsRow w.heap.size 29 6 v' (0 + hs.length) ([] ++ (List.range hs.length).flatMap fun j => accL (tx hs j) (fa j).1 (fa j).2)) (h2 : (w.alloc (.cells #[] 29)).grownBy w1 (some w.heap.size)) :
    ∃ g cap, v' = .slice (some ⟨g, 0, none⟩) hs.length cap ∧ Cloned w w1 hs g cap (fun j => (fa j).1) (fun j => (fa j).2) := by
  rw [Nat.zero_add, List.nil_append] at h1
  obtain ⟨hl1, ⟨_, h0⟩ | ⟨g, cap, cur, rfl, e2, e3, e4, e5, e6, e7⟩⟩ := h1
  · omega
  · refine ⟨g, cap, rfl, ?_, e2, (Array.getElem?_eq_some_iff.1 e3).1, hm, e4, fun j hj => (HC j hj).rd, fun j f hj hf => ?_, fun p => ?_⟩
    · exact ((Below.refl _ _).alloc (Nat.le_refl _) _).grown h2 (by simp) (fun k hk => by have e : some w.heap.size = some k := hk; injection e with e; omega)
    · have h8 := accL_get (hs := hs) (fr := fun j => (fa j).1) (fw := fun j => (fa j).2) j f hj hf
      rw [← e7, List.getElem?_take, if_pos (by omega)] at h8
      refine Eq.trans ?_ h8
      simp [World.cell?, e3]
    · simp [World.frozen?, e3]
/-- What append is told of the elements of a history. -/
theorem news_of {w : World} {hs : List Acc} {b o : Nat} {fa : Nat → Value × Value} (HC : ∀ j, j < hs.length → At w b (o + j * 6) (tx hs j) (fa j).1 (fa j).2) (hbl : b < w.heap.size) :
    (∀ j u, ((List.range hs.length).flatMap fun j => accL (tx hs j) (fa j).1 (fa j).2)[j]? = some u → (w.alloc (.cells #[] 29)).cell? ((⟨b, o, none⟩ : Addr).add j) = some u) ∧ ∀ u, u ∈ ((List.range hs.length).flatMap fun j => accL (tx hs j) (fa j).1 (fa j).2) → u.oneCell' = true := by
  constructor
  · intro j u hu
    have hadd : (⟨b, o, none⟩ : Addr).add j = ⟨b, o + j, none⟩ := by unfold Addr.add; split <;> simp_all
    rw [hadd]
    have hjl : j < hs.length * 6 := by
      have := (List.getElem?_eq_some_iff.1 hu).1
      rwa [flatMap_length6 (g := fun j => accL (tx hs j) (fa j).1 (fa j).2) (fun _ => rfl)] at this
    have hq : j / 6 < hs.length := by omega
    have hf : j % 6 < 6 := Nat.mod_lt _ (by omega)
    have e1 : j = j / 6 * 6 + j % 6 := by omega
    have ha := HC (j / 6) hq
    have h2 := accL_get (hs := hs) (fr := fun j => (fa j).1) (fw := fun j => (fa j).2) (j / 6) (j % 6) hq hf
    rw [← e1, hu] at h2
    have hcell : ∀ p, (w.alloc (.cells #[] 29)).cell? ⟨b, p, none⟩ = w.cell? ⟨b, p, none⟩ := fun p => Below.cell ((Below.refl w.heap.size w).alloc (Nat.le_refl _) _) (p := ⟨b, p, none⟩) hbl
    rw [hcell, show o + j = o + j / 6 * 6 + j % 6 by omega]
    generalize j % 6 = f at *
    have : f = 0 ∨ f = 1 ∨ f = 2 ∨ f = 3 ∨ f = 4 ∨ f = 5 := by omega
    rcases this with rfl | rfl | rfl | rfl | rfl | rfl
    · exact ha.c0.trans h2.symm
    · exact ha.c1.trans h2.symm
    · exact ha.c2.trans h2.symm
    · exact ha.c3.trans h2.symm
    · exact ha.c4.trans h2.symm
    · exact ha.c5.trans h2.symm
  · intro u hu
    obtain ⟨j, hj, hu⟩ := List.mem_flatMap.1 hu
    have ha := HC j (by simpa using hj)
    obtain ⟨_, _, h1, _⟩ := ha.rd.r.shape
    obtain ⟨_, _, h2, _⟩ := ha.rd.w.shape
    simp only [accL, h1, h2, List.mem_cons, List.not_mem_nil, or_false] at hu
    rcases hu with rfl | rfl | rfl | rfl | rfl | rfl <;> rfl
/-- A history's transactions, chosen. -/
theorem Hist.pick {w : World} {v : Value} {hs : List Acc} (k : Hist w v hs) (hp : 0 < hs.length) : ∃ (b o c : Nat) (fa : Nat → Value × Value), v = .slice (some ⟨b, o, none⟩) hs.length c ∧ hs.length ≤ 9223372036854775807 ∧ hs.length ≤ c ∧ b < w.heap.size ∧ ∀ j, j < hs.length → At w b (o + j * 6) (tx hs j) (fa j).1 (fa j).2 := by
  obtain ⟨A, c, rfl, hm, hcap, hc⟩ := k.shape
  obtain ⟨b, o, rfl⟩ : ∃ b o, A = some ⟨b, o, none⟩ := by
    obtain ⟨b, o, _, _, h, _⟩ := hc 0 hp
    exact ⟨b, o, h⟩
  have hch : ∀ j, ∃ rw : Value × Value, j < hs.length → At w b (o + j * 6) (tx hs j) rw.1 rw.2 := by
    intro j
    by_cases hj : j < hs.length
    · obtain ⟨b', o', vr, vw, e', ha⟩ := hc j hj
      injection e' with e'
      injection e' with e1 e2
      subst e1 e2
      exact ⟨(vr, vw), fun _ => ha⟩
    · exact ⟨(.slice none 0 0, .slice none 0 0), fun h => absurd h hj⟩
  obtain ⟨fa, hfa⟩ := Classical.axiomOfChoice hch
  exact ⟨b, o, c, fa, rfl, hm, hcap, (hfa 0 hp).lt, hfa⟩
set_option maxRecDepth 100000 in
set_option maxHeartbeats 1000000 in
theorem rwith_any {w : World} {v : Value} {hs : List Acc} (k : Hist w v hs) (hl : hs.length ≤ 100) (i : Nat) (hi : i < hs.length) (s : Int) (hs64 : W64 s) :
    Calls Try.prog 52 #[v, .int .i64 i, .int .i64 s] w fun e w' => ∃ gb cap fr fw, e = .returned (.slice (some ⟨gb, 0, none⟩) hs.length cap) ∧ Cloned w w' (withL hs i s) gb cap fr fw := by
  have hp : 0 < hs.length := by omega
  obtain ⟨b, o, c, fa, rfl, hm, hcap, hbl, hfa⟩ := k.pick hp
  have HC := Lib.hid hfa
  obtain ⟨hn1, hn2⟩ := news_of hfa hbl
  have HN1 := Lib.hid hn1
  have HN2 := Lib.hid hn2
  clear hfa k hn1 hn2
  have hO : Hid ((w.alloc (.cells #[] 29)).ownsRow w.heap.size 29 6 (.slice (some ⟨w.heap.size, 0, none⟩) 0 0) 0 []) := Lib.hid (by
    refine ⟨rfl, .inr ⟨w.heap.size, 0, #[], rfl, Nat.le_refl _, (MapKept.heap_alloc w _).1, Nat.le_refl _, by simp [maxLen], rfl, rfl⟩⟩)
  obtain ⟨i0, hi0, hzz⟩ := Option.map_eq_some_iff.1 info29
  simp only [Prod.mk.injEq] at hzz
  have HI := Lib.hid hzz
  have HIi := Lib.hid hi0
  have hLen := Lib.hid (flatMap_length6 (g := fun j => accL (tx hs j) (fa j).1 (fa j).2) (fun _ => rfl) hs.length)
  have HW64 := Lib.hid hs64
  clear hzz hi0 hs64
  go_enter Try.func52, Try.ntmps52
  go_wp2_with (at_builtin; refine wpList_append_own_at _ rfl (.tmp 8) (.tmp 9) 24 rfl w.heap.size 29 i0 _ 6 80 Try.underlying24 HIi.out HI.out.1 HI.out.2.1 HI.out.2.2 rfl (by decide) _ _ _ rfl hO.out ⟨b, o, none⟩ hs.length c _ rfl hLen.out HN1.out HN2.out (by simp only [maxLen]; omega) (by omega) (by simp) ?_; intro v' w1 h1 h2 h3 h4; obtain ⟨gb, cap, rfl, hcl⟩ := cloned_of HC.out hp hm h1 h2; have HCl := Lib.hid hcl; have o1 : w1.cell? ⟨gb, i * 6 + 2, none⟩ = some (.bool (tx hs i).done) := hcl.cells i 2 hi (by omega); have o2 : w1.cell? ⟨gb, i * 6 + 3, none⟩ = some (.int .i64 (tx hs i).stamp) := hcl.cells i 3 hi (by omega); have f1 := hcl.frozen (i * 6 + 2); have f2 := hcl.frozen (i * 6 + 3); clear h1 h2 h3 h4 hcl)
  go_ret
  exact ⟨gb, cap, _, _, rfl, HCl.out.set hi HW64.out (.inl rfl)⟩
end Go.Proofs.Ytlfpkikmofgjfaa
