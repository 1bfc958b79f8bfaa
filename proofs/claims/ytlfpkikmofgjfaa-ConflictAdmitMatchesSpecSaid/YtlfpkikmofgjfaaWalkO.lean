/- The walk of Clone: a copy of a history. -/
import Derived.Test.YtlfpkikmofgjfaaWalkN
import Derived.Lib.SliceRun
namespace Go.Proofs.Ytlfpkikmofgjfaa
open Go.RowKit

theorem info29 : (Try.prog.info? 29).map (fun i => (i.zero, i.size, i.bytes)) = some (some (.agg #[.int .i64 0, .int .i64 0, .bool false, .int .i64 0, .slice none 0 0, .slice none 0 0]), 6, 80) := by kernel_rfl
theorem flatMap_length6 {g : Nat → List Value} (hg : ∀ j, (g j).length = 6) : ∀ n, ((List.range n).flatMap g).length = n * 6
  | 0 => rfl
  | n + 1 => by
    rw [List.range_succ, List.flatMap_append, List.length_append, flatMap_length6 hg n]
    simp [hg]
    omega
theorem flatMap_get6 {g : Nat → List Value} (hg : ∀ j, (g j).length = 6) {j f : Nat} (hf : f < 6) : ∀ n, j < n → ((List.range n).flatMap g)[j * 6 + f]? = (g j)[f]?
  | n + 1, h => by
    rw [List.range_succ, List.flatMap_append]
    by_cases e : j = n
    · subst e
      rw [List.getElem?_append_right (by rw [flatMap_length6 hg]; omega), flatMap_length6 hg]
      simp
    · rw [List.getElem?_append_left (by rw [flatMap_length6 hg]; omega)]
      exact flatMap_get6 hg hf n (by omega)
/-- The cells of a transaction, as a list. -/
def accL (x : Acc) (vr vw : Value) : List Value := [.int .i64 x.mode, .int .i64 x.snap, .bool x.done, .int .i64 x.stamp, vr, vw]
/-- A history at block gb, whose lists lie in the memory of W. -/
structure Cloned (W w1 : World) (hs : List Acc) (gb cap : Nat) (fr fw : Nat → Value) : Prop where
  below : Below W.heap.size W w1
  new : W.heap.size ≤ gb
  lt : gb < w1.heap.size
  len : hs.length ≤ 9223372036854775807
  cap : hs.length ≤ cap
  reads : ∀ j, j < hs.length → Reads W (tx hs j) (fr j) (fw j)
  cells : ∀ j f, j < hs.length → f < 6 → w1.cell? ⟨gb, j * 6 + f, none⟩ = (accL (tx hs j) (fr j) (fw j))[f]?
  frozen : ∀ p, w1.frozen? ⟨gb, p, none⟩ = false
theorem Cloned.hist {W w1 : World} {hs : List Acc} {gb cap : Nat} {fr fw : Nat → Value} (c : Cloned W w1 hs gb cap fr fw) : Hist w1 (.slice (some ⟨gb, 0, none⟩) hs.length cap) hs :=
  ⟨_, cap, rfl, c.len, c.cap, fun j hj => ⟨gb, 0, fr j, fw j, rfl, c.lt, (c.reads j hj).below c.below, by
    simp only [Nat.zero_add]
    exact ⟨c.cells j 0 hj (by omega), c.cells j 1 hj (by omega), c.cells j 2 hj (by omega), c.cells j 3 hj (by omega), c.cells j 4 hj (by omega), c.cells j 5 hj (by omega)⟩⟩⟩
theorem setCell_cell (w : World) (gb p : Nat) (u : Value) (q : Nat) (hu : (w.cell? ⟨gb, p, none⟩).isSome) : (w.setCell ⟨gb, p, none⟩ u).cell? ⟨gb, q, none⟩ = if q = p then some u else w.cell? ⟨gb, q, none⟩ := by
  by_cases e : q = p
  · subst e
    rw [if_pos rfl]
    obtain ⟨z, hz⟩ := Option.isSome_iff_exists.1 hu
    exact World.cell?_setCell_same w _ u hz
  · rw [if_neg e]
    exact World.cell?_setCell_other w _ _ u (by simp)
theorem accL_get {hs : List Acc} {fr fw : Nat → Value} (j f : Nat) (hj : j < hs.length) (hf : f < 6) : (((List.range hs.length).flatMap fun j => accL (tx hs j) (fr j) (fw j)))[j * 6 + f]? = (accL (tx hs j) (fr j) (fw j))[f]? :=
  flatMap_get6 (g := fun j => accL (tx hs j) (fr j) (fw j)) (fun _ => rfl) hf _ hj
set_option maxRecDepth 100000 in
set_option maxHeartbeats 1000000 in
theorem clone_any {w : World} {v : Value} {hs : List Acc} (k : Hist w v hs) (hp : 0 < hs.length) (hl : hs.length ≤ 100) :
    Calls Try.prog 74 #[v] w fun e w' => ∃ gb cap fr fw, e = .returned (.slice (some ⟨gb, 0, none⟩) hs.length cap) ∧ Cloned w w' hs gb cap fr fw := by
  obtain ⟨A, c, rfl, hm, hcap, hc⟩ := k.shape
  obtain ⟨b, o, rfl⟩ : ∃ b o, A = some ⟨b, o, none⟩ := by
    obtain ⟨b, o, _, _, h, _⟩ := hc 0 hp
    exact ⟨b, o, h⟩
  have hch : ∀ j, ∃ rw : Value × Value, j < hs.length → At w b (o + j * 6) (tx hs j) rw.1 rw.2 := by
    intro j
    by_cases hj : j < hs.length
    · obtain ⟨b', o', vr, vw, e', ha⟩ := hc j hj
      injection e' with e'
      injection e' with e1 e2
      subst e1 e2
      exact ⟨(vr, vw), fun _ => ha⟩
    · exact ⟨(.slice none 0 0, .slice none 0 0), fun h => absurd h hj⟩
  obtain ⟨fa, hfa⟩ := Classical.axiomOfChoice hch
  have HC : Hid (∀ j, j < hs.length → At w b (o + j * 6) (tx hs j) (fa j).1 (fa j).2) := Lib.hid hfa
  have hbl : b < w.heap.size := (hfa 0 hp).lt
  clear hfa hch hc k
  have hNews : Hid (∀ j u, ((List.range hs.length).flatMap fun j => accL (tx hs j) (fa j).1 (fa j).2)[j]? = some u → (w.alloc (.cells #[] 29)).cell? ((⟨b, o, none⟩ : Addr).add j) = some u) := Lib.hid (by
    intro j u hu
    have hadd : (⟨b, o, none⟩ : Addr).add j = ⟨b, o + j, none⟩ := by unfold Addr.add; split <;> simp_all
    rw [hadd]
    have hjl : j < hs.length * 6 := by
      have := (List.getElem?_eq_some_iff.1 hu).1
      rwa [flatMap_length6 (g := fun j => accL (tx hs j) (fa j).1 (fa j).2) (fun _ => rfl)] at this
    have hq : j / 6 < hs.length := by omega
    have hf : j % 6 < 6 := Nat.mod_lt _ (by omega)
    have e1 : j = j / 6 * 6 + j % 6 := by omega
    have ha := HC.out (j / 6) hq
    have h2 := accL_get (hs := hs) (fr := fun j => (fa j).1) (fw := fun j => (fa j).2) (j / 6) (j % 6) hq hf
    rw [← e1, hu] at h2
    have hcell : ∀ p, (w.alloc (.cells #[] 29)).cell? ⟨b, p, none⟩ = w.cell? ⟨b, p, none⟩ := fun p => Below.cell ((Below.refl w.heap.size w).alloc (Nat.le_refl _) _) (p := ⟨b, p, none⟩) hbl
    rw [hcell, show o + j = o + j / 6 * 6 + j % 6 by omega]
    generalize j % 6 = f at *
    have : f = 0 ∨ f = 1 ∨ f = 2 ∨ f = 3 ∨ f = 4 ∨ f = 5 := by omega
    rcases this with rfl | rfl | rfl | rfl | rfl | rfl
    · exact ha.c0.trans h2.symm
    · exact ha.c1.trans h2.symm
    · exact ha.c2.trans h2.symm
    · exact ha.c3.trans h2.symm
    · exact ha.c4.trans h2.symm
    · exact ha.c5.trans h2.symm)
  have hOne : Hid (∀ u, u ∈ ((List.range hs.length).flatMap fun j => accL (tx hs j) (fa j).1 (fa j).2) → u.oneCell' = true) := Lib.hid (by
    intro u hu
    obtain ⟨j, hj, hu⟩ := List.mem_flatMap.1 hu
    have ha := HC.out j (by simpa using hj)
    obtain ⟨_, _, h1, _⟩ := ha.rd.r.shape
    obtain ⟨_, _, h2, _⟩ := ha.rd.w.shape
    simp only [accL, h1, h2, List.mem_cons, List.not_mem_nil, or_false] at hu
    rcases hu with rfl | rfl | rfl | rfl | rfl | rfl <;> rfl)
  have hO : Hid ((w.alloc (.cells #[] 29)).ownsRow w.heap.size 29 6 (.slice (some ⟨w.heap.size, 0, none⟩) 0 0) 0 []) := Lib.hid (by
    refine ⟨rfl, .inr ⟨w.heap.size, 0, #[], rfl, Nat.le_refl _, (MapKept.heap_alloc w _).1, Nat.le_refl _, by simp [maxLen], rfl, rfl⟩⟩)
  obtain ⟨i0, hi, hzz⟩ := Option.map_eq_some_iff.1 info29
  simp only [Prod.mk.injEq] at hzz
  have HI := Lib.hid hzz
  have HIi := Lib.hid hi
  have hLen := Lib.hid (flatMap_length6 (g := fun j => accL (tx hs j) (fa j).1 (fa j).2) (fun _ => rfl) hs.length)
  clear hzz hi
  have qT : ∀ (w : World) (a : Option Addr) (n c n' c' : Nat), (binOp .eql 24 (.slice a n c) (.slice none n' c')).run Try.prog w = .ok (.bool a.isNone) w := fun w a n c n' c' => Lib.run_eql_slice_nil w _ _ a n c n' c' Try.underlying24
  go_enter Try.func74, Try.ntmps74
  go_wp2_with (at_builtin; refine wpList_append_own_at _ rfl (.tmp 5) (.tmp 6) 24 rfl w.heap.size 29 i0 _ 6 80 Try.underlying24 HIi.out HI.out.1 HI.out.2.1 HI.out.2.2 rfl (by decide) _ _ _ rfl hO.out ⟨b, o, none⟩ hs.length c _ rfl hLen.out hNews.out hOne.out (by simp only [maxLen]; omega) (by omega) (by simp) ?_; intro v' w1 h1 h2 h3 h4)
  go_ret
  rw [Nat.zero_add, List.nil_append] at h1
  obtain ⟨hl1, ⟨_, h0⟩ | ⟨g, cap, cur, rfl, e2, e3, e4, e5, e6, e7⟩⟩ := h1
  · omega
  · refine ⟨g, cap, (fun j => (fa j).1), (fun j => (fa j).2), rfl, ?_, e2, (Array.getElem?_eq_some_iff.1 e3).1, hm, e4, fun j hj => (HC.out j hj).rd, fun j f hj hf => ?_, fun p => ?_⟩
    · exact ((Below.refl _ _).alloc (Nat.le_refl _) _).grown h2 (by simp) (fun k hk => by have e : some w.heap.size = some k := hk; injection e with e; omega)
    · have h8 := accL_get (hs := hs) (fr := fun j => (fa j).1) (fw := fun j => (fa j).2) j f hj hf
      rw [← e7, List.getElem?_take, if_pos (by omega)] at h8
      refine Eq.trans ?_ h8
      simp [World.cell?, e3]
    · simp [World.frozen?, e3]
/-- The transaction i commits with the stamp s. -/
theorem Cloned.set {W w1 w2 : World} {hs : List Acc} {gb cap : Nat} {fr fw : Nat → Value} (c : Cloned W w1 hs gb cap fr fw) {i : Nat} (hi : i < hs.length) {s : Int} (hs64 : W64 s)
    (hw : w2 = (w1.setCell ⟨gb, i * 6 + 2, none⟩ (.bool true)).setCell ⟨gb, i * 6 + 3, none⟩ (.int .i64 s) ∨ w2 = (w1.setCell ⟨gb, i * 6 + 3, none⟩ (.int .i64 s)).setCell ⟨gb, i * 6 + 2, none⟩ (.bool true)) :
    Cloned W w2 (withL hs i s) gb cap fr fw := by
  have hsm : ∀ q, q < 6 → (w1.cell? ⟨gb, i * 6 + q, none⟩).isSome := fun q hq => by
    rw [c.cells i q hi hq, List.getElem?_eq_getElem (show q < (accL (tx hs i) (fr i) (fw i)).length from hq)]
    rfl
  have hcell : ∀ q, w2.cell? ⟨gb, q, none⟩ = if q = i * 6 + 2 then some (.bool true) else if q = i * 6 + 3 then some (.int .i64 s) else w1.cell? ⟨gb, q, none⟩ := by
    intro q
    rcases hw with rfl | rfl
    · rw [setCell_cell _ _ _ _ _ (by rw [setCell_cell _ _ _ _ _ (hsm 2 (by omega)), if_neg (by omega)]; exact hsm 3 (by omega)), setCell_cell _ _ _ _ _ (hsm 2 (by omega))]
      by_cases e : q = i * 6 + 3
      · rw [if_pos e, if_neg (by omega), if_pos e]
      · rw [if_neg e]
        simp only [if_neg e]
    · rw [setCell_cell _ _ _ _ _ (by rw [setCell_cell _ _ _ _ _ (hsm 3 (by omega)), if_neg (by omega)]; exact hsm 2 (by omega)), setCell_cell _ _ _ _ _ (hsm 3 (by omega))]
  have hsz : w2.heap.size = w1.heap.size := by rcases hw with rfl | rfl <;> simp [World.setCell]
  refine ⟨?_, c.new, by rw [hsz]; exact c.lt, by rw [withL_length]; exact c.len, by rw [withL_length]; exact c.cap, fun j hj => ?_, fun j f hj hf => ?_, fun p => ?_⟩
  · rcases hw with rfl | rfl
    · exact (c.below.setCell (p := ⟨gb, _, none⟩) c.new _).setCell (p := ⟨gb, _, none⟩) c.new _
    · exact (c.below.setCell (p := ⟨gb, _, none⟩) c.new _).setCell (p := ⟨gb, _, none⟩) c.new _
  · rw [withL_length] at hj
    by_cases e : i = j
    · subst e
      rw [tx_withL_same hi]
      obtain ⟨r1, r2, r3, r4, r5⟩ := c.reads i hi
      exact ⟨r1, r2, r3, r4, hs64⟩
    · rw [tx_withL_other e]
      exact c.reads j hj
  · rw [withL_length] at hj
    rw [hcell]
    by_cases e : i = j
    · subst e
      rw [tx_withL_same hi, c.cells i f hi hf]
      have : f = 0 ∨ f = 1 ∨ f = 2 ∨ f = 3 ∨ f = 4 ∨ f = 5 := by omega
      rcases this with rfl | rfl | rfl | rfl | rfl | rfl
      · rw [if_neg (by omega), if_neg (by omega)]; rfl
      · rw [if_neg (by omega), if_neg (by omega)]; rfl
      · rw [if_pos rfl]; rfl
      · rw [if_neg (by omega), if_pos rfl]; rfl
      · rw [if_neg (by omega), if_neg (by omega)]; rfl
      · rw [if_neg (by omega), if_neg (by omega)]; rfl
    · rw [if_neg (by omega), if_neg (by omega), tx_withL_other e]
      exact c.cells j f hj hf
  · rcases hw with rfl | rfl <;> simpa using c.frozen p
theorem structQ_hurts (hs : List Acc) (q : Nat) : (tripleOf hs.length (structQ hs q)).isSome = hurtsB hs q := by
  cases h : tripleOf hs.length (structQ hs q) with
  | none =>
    rw [tripleOf_none] at h
    symm
    exact anyUpto_not.2 fun a ha => anyUpto_not.2 fun b hb => anyUpto_not.2 fun c hc => h a b c ha hb hc
  | some p =>
    symm
    cases hh : hurtsB hs q with
    | true => rfl
    | false =>
      exfalso
      unfold hurtsB at hh
      simp only [anyUpto_not] at hh
      have := (tripleOf_none (p := structQ hs q)).2 (fun a b c ha hb hc => hh a ha b hb c hc : ∀ a b c, a < hs.length → b < hs.length → c < hs.length → structQ hs q a b c = false)
      rw [this] at h
      cases h
end Go.Proofs.Ytlfpkikmofgjfaa
