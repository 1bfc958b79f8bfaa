/- The walk of sanity. -/
import Derived.Test.YtoecffmhnpnaaaaWalkP
namespace Go.Proofs.Ytoecffmhnpnaaaa
open Go.RowKit

/-- Two groups beside each other, made since the world w0. -/
structure Two (w0 wc : World) (F G : Nat → Prop) (g h : Nat) (S T : Gr) : Prop where
  below : Below w0.heap.size w0 wc
  gg : Grp wc F g S
  hh : Grp wc G h T
  fl : ∀ b, F b → w0.heap.size ≤ b
  gl : ∀ b, G b → w0.heap.size ≤ b
  dis : ∀ b, F b → ¬ G b
theorem Two.turnG {w0 wc w1 : World} {F F' G : Nat → Prop} {g h : Nat} {S S' T : Gr} (t : Two w0 wc F G g h S T) (k : Turn wc w1 F F') (hg : Grp w1 F' g S') : Two w0 w1 F' G g h S' T := by
  have hs := t.below.size
  refine ⟨t.below.trans (k.only.below t.fl hs), hg, t.hh.kept k.only (fun b h1 h2 => t.dis b h2 h1), fun b hb => ?_, t.gl, k.apart t.hh.lt t.dis⟩
  rcases k.foot b hb with h | h
  · exact t.fl b h
  · omega
theorem Two.turnH {w0 wc w1 : World} {F G G' : Nat → Prop} {g h : Nat} {S T T' : Gr} (t : Two w0 wc F G g h S T) (k : Turn wc w1 G G') (hh : Grp w1 G' h T') : Two w0 w1 F G' g h S T' := by
  have hs := t.below.size
  refine ⟨t.below.trans (k.only.below t.gl hs), t.gg.kept k.only t.dis, hh, t.fl, fun b hb => ?_, fun b h1 h2 => k.apart t.gg.lt (fun b h1 h2 => t.dis b h2 h1) b h2 h1⟩
  rcases k.foot b hb with h | h
  · exact t.gl b h
  · omega
theorem Two.drewN {w0 wc : World} {F G : Nat → Prop} {g h : Nat} {S T : Gr} (t : Two w0 wc F G g h S T) (n : Nat) : Two w0 (wc.drewN n) F G g h S T :=
  t.turnG ((Turn.refl wc F).drewN n) (t.gg.drewN n)
theorem Turn.alloc {w w' : World} {F F' : Nat → Prop} (h : Turn w w' F F') (o : Obj) : Turn w (w'.alloc o) F F' := ⟨h.only.alloc o, h.foot⟩
theorem Two.alloc {w0 wc : World} {F G : Nat → Prop} {g h : Nat} {S T : Gr} (t : Two w0 wc F G g h S T) (o : Obj) : Two w0 (wc.alloc o) F G g h S T :=
  t.turnG ((Turn.refl wc F).alloc o) (t.gg.kept ((Only.refl wc (fun _ => False)).alloc o) (fun _ _ h => h))
/-- A block of neither group. -/
structure Away (wc : World) (F G : Nat → Prop) (b : Nat) : Prop where
  f : ¬ F b
  g : ¬ G b
  lt : b < wc.heap.size
theorem Away.turnG {wc w1 : World} {F F' G : Nat → Prop} {b : Nat} (a : Away wc F G b) (k : Turn wc w1 F F') : Away w1 F' G b ∧ w1.heap[b]? = wc.heap[b]? :=
  ⟨⟨fun h => by rcases k.foot b h with h | h; exact a.f h; have := a.lt; omega, a.g, Nat.lt_of_lt_of_le a.lt k.only.size⟩, k.only.block b a.lt a.f⟩
theorem Away.turnH {wc w1 : World} {F G G' : Nat → Prop} {b : Nat} (a : Away wc F G b) (k : Turn wc w1 G G') : Away w1 F G' b ∧ w1.heap[b]? = wc.heap[b]? :=
  ⟨⟨a.f, fun h => by rcases k.foot b h with h | h; exact a.g h; have := a.lt; omega, Nat.lt_of_lt_of_le a.lt k.only.size⟩, k.only.block b a.lt a.g⟩
/-- A block of neither group, and what it holds. -/
structure Held (wc : World) (F G : Nat → Prop) (b : Nat) (o : Obj) : Prop where
  blk : wc.heap[b]? = some o
  away : Away wc F G b
theorem Held.turnG {wc w1 : World} {F F' G : Nat → Prop} {b : Nat} {o : Obj} (a : Held wc F G b o) (k : Turn wc w1 F F') : Held w1 F' G b o := ⟨(a.away.turnG k).2.trans a.blk, (a.away.turnG k).1⟩
theorem Held.turnH {wc w1 : World} {F G G' : Nat → Prop} {b : Nat} {o : Obj} (a : Held wc F G b o) (k : Turn wc w1 G G') : Held w1 F G' b o := ⟨(a.away.turnH k).2.trans a.blk, (a.away.turnH k).1⟩
theorem Held.alloc {wc : World} {F G : Nat → Prop} {b : Nat} {o : Obj} (a : Held wc F G b o) (o' : Obj) : Held (wc.alloc o') F G b o := a.turnG ((Turn.refl wc F).alloc o')
theorem Held.made {w0 wc : World} {F G : Nat → Prop} {g h : Nat} {S T : Gr} (t : Two w0 wc F G g h S T) (o : Obj) : Held (wc.alloc o) F G wc.heap.size o :=
  ⟨(MapKept.heap_alloc wc o).1, ⟨fun h => by have := t.gg.lt _ h; omega, fun h => by have := t.hh.lt _ h; omega, by simp⟩⟩
theorem flat_get : ∀ (rs : List (Int × Int)) (j : Nat), j < rs.length →
    (rs.flatMap fun r => [Value.int .i64 r.1, Value.int .i64 r.2])[j * 2]? = some (.int .i64 (rs.getD j (0, 0)).1) ∧ (rs.flatMap fun r => [Value.int .i64 r.1, Value.int .i64 r.2])[j * 2 + 1]? = some (.int .i64 (rs.getD j (0, 0)).2)
  | [], _, h => by simp at h
  | r :: rs, 0, _ => by simp [List.flatMap_cons]
  | r :: rs, j + 1, h => by
    have := flat_get rs j (by simpa using h)
    rw [List.flatMap_cons, show (j + 1) * 2 = j * 2 + 2 by omega]
    simpa using this
/-- What a row of reports reads as, and where it lies. -/
theorem Reps.read {w : World} {base : Nat} {v : Value} {rs : List (Int × Int)} (h : Reps w base v rs) : RNums w v rs ∧ ∀ b, v.ownBlock = some b → base ≤ b ∧ b < w.heap.size := by
  obtain ⟨⟨hl, h⟩, hn⟩ := h
  refine ⟨?_, fun b hb => ?_⟩
  · by_cases h0 : rs = []
    · exact .inl ⟨h0, hn h0⟩
    · have hp : 0 < rs.length := List.length_pos_iff.2 h0
      rcases h with ⟨_, h⟩ | ⟨g, cap, cur, h1, h2, h3, h4, h5, h6, h7⟩
      · omega
      · refine .inr ⟨g, cap, h1, hp, by simp only [maxLen] at h5; omega, (Array.getElem?_eq_some_iff.1 h3).1, fun j hj => ?_⟩
        have hk : ∀ i, i < rs.length * 2 → w.cell? ⟨g, i, none⟩ = (rs.flatMap fun r => [Value.int .i64 r.1, Value.int .i64 r.2])[i]? := fun i hi => by
          rw [← h7, List.getElem?_take, if_pos hi]
          simp [World.cell?, h3]
        obtain ⟨k1, k2⟩ := flat_get rs j hj
        exact ⟨(hk _ (by omega)).trans k1, (hk _ (by omega)).trans k2⟩
  · rcases h with ⟨e, _⟩ | ⟨g, cap, cur, h1, h2, h3, _⟩
    · rw [e] at hb; cases hb
    · rw [h1] at hb
      have : g = b := by simpa [Value.ownBlock] using hb
      subst this
      exact ⟨h2, (Array.getElem?_eq_some_iff.1 h3).1⟩
theorem RNums.kept {w w' : World} {v : Value} {rs : List (Int × Int)} (h : RNums w v rs) (hs : w.heap.size ≤ w'.heap.size) (hk : ∀ b, v.ownBlock = some b → w'.heap[b]? = w.heap[b]?) : RNums w' v rs := by
  rcases h with h | ⟨g, c, e, h1, h2, h3, h4⟩
  · exact .inl h
  · have hb := hk g (by rw [e]; rfl)
    refine .inr ⟨g, c, e, h1, h2, by omega, fun j hj => ?_⟩
    rw [← (h4 j hj).1, ← (h4 j hj).2]
    simp [World.cell?, hb]
theorem Nums.carry {w w' : World} {v : Value} {xs : List Int} {F : Nat → Prop} (h : Nums w v xs F) (hs : w.heap.size ≤ w'.heap.size) (hk : ∀ q, v.ownBlock = some q → w'.heap[q]? = w.heap[q]?) : Nums w' v xs (fun _ => True) := by
  rcases h with h | ⟨g, c, e, hp, hm, hF, hlt, hcell⟩
  · exact .inl h
  · have hb := hk g (by rw [e]; rfl)
    exact .inr ⟨g, c, e, hp, hm, trivial, by omega, fun j hj => by rw [← hcell j hj]; simp [World.cell?, hb]⟩
theorem Nums.lit (w : World) (xs : List Int) (c : Nat) (h0 : 0 < xs.length) (hm : xs.length ≤ 1000000) (t : TypeId) : Nums (w.alloc (.cells (xs.map fun x => Value.int .i64 x).toArray t)) (.slice (some ⟨w.heap.size, 0, none⟩) xs.length c) xs (fun _ => True) := by
  refine .inr ⟨w.heap.size, c, rfl, h0, by omega, trivial, by simp, fun j hj => ?_⟩
  rw [(Cells.made w t _).cell]
  simp [hj, List.getD]
theorem RNums.lit (w : World) (rs : List (Int × Int)) (c : Nat) (h0 : 0 < rs.length) (hm : rs.length ≤ 1000000) (t : TypeId) : RNums (w.alloc (.cells (rs.flatMap fun r => [Value.int .i64 r.1, Value.int .i64 r.2]).toArray t)) (.slice (some ⟨w.heap.size, 0, none⟩) rs.length c) rs := by
  refine .inr ⟨w.heap.size, c, rfl, h0, by omega, by simp, fun j hj => ?_⟩
  rw [(Cells.made w t _).cell, (Cells.made w t _).cell]
  simpa using flat_get rs j hj
def sS0 : Gr := newGr 2 10 3 5
def sS1 : Gr := sS0.askNext 7 4 0
def sS2 : Gr := sS1.askNext 8 4 1
def sS3 : Gr := sS2.cutNext 1
def sS4 : Gr := (sS3.askNext 7 1 1).askNext 9 1 1
def sH1 : Gr := sS0.askNext 7 6 0
def sH2 : Gr := sH1.askNext 8 6 0
set_option maxRecDepth 100000 in
set_option maxHeartbeats 1000000 in
theorem sanity_any (w : World) : Calls Try.prog 9 #[] w fun e w' => e = .returned (.bool true) ∧ Below w.heap.size w w' := by
  go_enter Try.func9, Try.ntmps9
  go_wp2_with fail
  refine (g_new 2 10 3 5 w (by unfold okNew; omega)).mono ?_
  rintro e w1 ⟨g, rfl, ⟨F, hg, hF⟩, hb1⟩
  go_wp2_with fail
  refine (g_new 2 10 3 5 w1 (by unfold okNew; omega)).mono ?_
  rintro e w2 ⟨h, rfl, ⟨G, hh, hG⟩, hb2⟩
  have HT := Lib.hid (show Two w w2 F G g h sS0 sS0 from ⟨hb1.trans (hb2.mono hb1.size), hg.below hb2, hh, hF, fun b hb => by have := hG b hb; have := hb1.size; omega, fun b h1 h2 => by have := hG b h2; have := hg.lt b h1; omega⟩)
  clear hg hh hF hG hb1 hb2
  go_wp2_with fail
  refine (g_ask 7 4 0 HT.out.gg (by decide)).mono ?_
  rintro e w3 ⟨rfl, F3, hg3, ht3⟩
  rw [show sS0.askCode 7 4 0 = 0 by decide]
  have HT3 := Lib.hid (show Two w w3 F3 G g h sS1 sS0 from HT.out.turnG ht3 hg3)
  clear HT hg3 ht3
  go_wp2_with fail
  refine (g_due 2 HT3.out.gg).mono ?_
  rw [show sS1.due 2 = false by decide]
  rintro e w4 ⟨rfl, m4, rfl⟩
  have HT4 := Lib.hid (HT3.out.drewN m4)
  clear HT3
  go_wp2_with fail
  refine (g_due 3 HT4.out.gg).mono ?_
  rw [show sS1.due 3 = true by decide]
  rintro e w5 ⟨rfl, m5, rfl⟩
  have HT5 := Lib.hid (show Two w (w3.drewN (m4 + m5)) F3 G g h sS1 sS0 by rw [← World.drewN_drewN]; exact HT4.out.drewN m5)
  clear HT4
  go_wp2_with fail
  refine (g_ask 8 4 1 HT5.out.gg (by decide)).mono ?_
  rw [show sS1.askCode 8 4 1 = 0 by decide]
  rintro e w6 ⟨rfl, F6, hg6, ht6⟩
  have HT6 := Lib.hid (show Two w w6 F6 G g h sS2 sS0 from HT5.out.turnG ht6 hg6)
  clear HT5 hg6 ht6
  go_wp2_with fail
  refine (g_due 1 HT6.out.gg).mono ?_
  rw [show sS2.due 1 = true by decide]
  rintro e w7 ⟨rfl, m7, rfl⟩
  have HT7 := Lib.hid (HT6.out.drewN m7)
  clear HT6
  go_wp2_with fail
  refine (g_cut 1 HT7.out.gg).mono ?_
  rw [show sS2.due 1 = true by decide, show sS2.cutBf 1 = 5 by decide, show sS2.cutTxs 1 = [7, 8] by decide]
  rintro e w8 ⟨A8, c8, rfl, m8, hm8, hr8, F8, hg8, ht8, hl8⟩
  have HT8 := Lib.hid (show Two w w8 F8 G g h sS3 sS0 from HT7.out.turnG ht8 hg8)
  have HR8 := Lib.hid hr8
  have hGl8 := HT7.out.hh.lt
  clear HT7 hg8 ht8 hr8
  go_wp2_with fail
  obtain ⟨q8, o8, hq8, hd8⟩ : ∃ q8 o8, A8 = some ⟨q8, 0, none⟩ ∧ Held w8 F8 G q8 o8 := by
    rcases HR8.out.nums with ⟨h0, _⟩ | ⟨q, c, e, _, _, ⟨hq1, _⟩, hq2, _⟩
    · simp at h0
    · injection e with e1 e2 e3
      exact ⟨q, _, e1, ⟨Array.getElem?_eq_getElem hq2, ⟨fun h => by have := hl8 q h; omega, fun h => by have := hGl8 q h; omega, hq2⟩⟩⟩
  obtain ⟨C8, hC8⟩ : ∃ C8, C8 = Obj.cells #[.int .i64 5, .slice A8 2 c8] 32 := ⟨_, rfl⟩
  have HT9 := Lib.hid (HT8.out.alloc C8)
  have HD9 := Lib.hid (hd8.alloc C8)
  have HE9 := Lib.hid (Held.made HT8.out C8)
  rw [hC8] at HT9 HD9 HE9
  refine (g_ask 7 1 1 HT9.out.gg (by decide)).mono ?_
  rw [show sS3.askCode 7 1 1 = 6 by decide]
  rintro e w9 ⟨rfl, F9, hg9, ht9⟩
  have HT10 := Lib.hid (show Two w w9 F9 G g h (sS3.askNext 7 1 1) sS0 from HT9.out.turnG ht9 hg9)
  have HD10 := Lib.hid (HD9.out.turnG ht9)
  have HE10 := Lib.hid (HE9.out.turnG ht9)
  clear HT9 HD9 HE9 hg9 ht9
  go_wp2_with fail
  refine (g_ask 9 1 1 HT10.out.gg (by decide)).mono ?_
  rw [show (sS3.askNext 7 1 1).askCode 9 1 1 = 0 by decide]
  rintro e w10 ⟨rfl, F10, hg10, ht10⟩
  have HT11 := Lib.hid (show Two w w10 F10 G g h sS4 sS0 from HT10.out.turnG ht10 hg10)
  have HD11 := Lib.hid (HD10.out.turnG ht10)
  have HE11 := Lib.hid (HE10.out.turnG ht10)
  clear HT10 HD10 HE10 hg10 ht10
  go_wp2_with fail
  refine (g_done HT11.out.gg).mono ?_
  rw [show sS4.txs = [7, 8] by decide, show sS4.bf = 5 by decide]
  rintro e w11 ⟨A11, c11, rfl, hr11, hg11, ho11⟩
  have hFl10 := HT11.out.gg.lt
  have hGl10 := HT11.out.hh.lt
  have ht11 : Turn w10 w11 F10 F10 := Turn.done ho11 HT11.out.gg.fg
  have HT12 := Lib.hid (show Two w w11 F10 G g h sS4.closed sS0 from HT11.out.turnG ht11 hg11)
  have HD12 := Lib.hid (HD11.out.turnG ht11)
  have HE12 := Lib.hid (HE11.out.turnG ht11)
  have HR12 := Lib.hid hr11
  clear HT11 HD11 HE11 hg11 ho11 ht11 hr11
  obtain ⟨q11, o11, hq11, hp11, hx11⟩ : ∃ q11 o11, (Value.slice A11 [7, 8].length c11).ownBlock = some q11 ∧ RNums w11 (Value.slice A11 [7, 8].length c11) [(7, 5), (8, 6)] ∧ Held w11 F10 G q11 o11 := by
    obtain ⟨k1, k2⟩ := HR12.out.read
    have k1' : RNums w11 (Value.slice A11 [7, 8].length c11) [(7, 5), (8, 6)] := k1
    rcases k1 with ⟨h0, _⟩ | ⟨q, c, e, _, _, hq2, _⟩
    · simp [repsOf] at h0
    · have hb : (Value.slice A11 [7, 8].length c11).ownBlock = some q := by injection e with e1 e2 e3; rw [e1]; rfl
      have := (k2 q hb).1
      exact ⟨q, _, hb, k1', ⟨Array.getElem?_eq_getElem hq2, ⟨fun h => by have := hFl10 q h; omega, fun h => by have := hGl10 q h; omega, hq2⟩⟩⟩
  have HP11 := Lib.hid hp11
  have HQ11 := Lib.hid hq11
  have HX12 := Lib.hid hx11
  clear hp11 hq11 hx11 hFl10 hGl10
  go_wp2_with fail
  refine (g_ask 7 6 0 HT12.out.hh (by decide)).mono ?_
  rw [show sS0.askCode 7 6 0 = 0 by decide]
  rintro e w12 ⟨rfl, G12, hg12, ht12⟩
  have HT13 := Lib.hid (show Two w w12 F10 G12 g h sS4.closed sH1 from HT12.out.turnH ht12 hg12)
  have HD13 := Lib.hid (HD12.out.turnH ht12)
  have HE13 := Lib.hid (HE12.out.turnH ht12)
  have HX13 := Lib.hid (HX12.out.turnH ht12)
  have HS1112 := Lib.hid ht12.only.size
  clear HT12 HD12 HE12 hg12 ht12
  go_wp2_with fail
  refine (g_ask 8 6 0 HT13.out.hh (by decide)).mono ?_
  rw [show sH1.askCode 8 6 0 = 0 by decide]
  rintro e w13 ⟨rfl, G13, hg13, ht13⟩
  have HT14 := Lib.hid (show Two w w13 F10 G13 g h sS4.closed sH2 from HT13.out.turnH ht13 hg13)
  have HD14 := Lib.hid (HD13.out.turnH ht13)
  have HE14 := Lib.hid (HE13.out.turnH ht13)
  have HX14 := Lib.hid (HX13.out.turnH ht13)
  have HS1113 := Lib.hid (Nat.le_trans HS1112.out ht13.only.size)
  clear HT13 HD13 HE13 HX13 hg13 ht13
  go_wp2_with fail
  refine (g_cut 0 HT14.out.hh).mono ?_
  rw [show sH2.due 0 = true by decide, show sH2.cutBf 0 = 5 by decide, show sH2.cutTxs 0 = [7] by decide]
  rintro e w14 ⟨A14, c14, rfl, m14, hm14, hr14, G14, hg14, ht14, hl14⟩
  have HB15 := Lib.hid (HT14.out.turnH ht14 hg14).below
  have HD15 := Lib.hid (HD14.out.turnH ht14)
  have HE15 := Lib.hid (HE14.out.turnH ht14)
  have HX15 := Lib.hid (HX14.out.turnH ht14)
  have HR14 := Lib.hid hr14
  have hs814 : w8.heap.size ≤ w14.heap.size := by have := HE15.out.away.lt; omega
  have hs1114 : w11.heap.size ≤ w14.heap.size := Nat.le_trans HS1113.out ht14.only.size
  clear HT14 HD14 HE14 HX14 hg14 ht14 hl14 hr14
  have hE0 : w14.cell? ⟨w8.heap.size, 0, none⟩ = some (.int .i64 5) := Cells.cell (show Cells w14 w8.heap.size 32 #[.int .i64 5, .slice A8 2 c8] from HE15.out.blk) 0
  have hE1 : w14.cell? ⟨w8.heap.size, 1, none⟩ = some (.slice A8 2 c8) := Cells.cell (show Cells w14 w8.heap.size 32 #[.int .i64 5, .slice A8 2 c8] from HE15.out.blk) 1
  have hElt : w8.heap.size < w14.heap.size := HE15.out.away.lt
  have hq8' : (Value.slice A8 2 c8).ownBlock = some q8 := by rw [hq8]; rfl
  have hk8 : ∀ W : World, w14.heap.size ≤ W.heap.size → (∀ b, b < w14.heap.size → W.heap[b]? = w14.heap[b]?) → Nums W (Value.slice A8 2 c8) [7, 8] (fun _ => True) := fun W h1 h2 =>
    HR8.out.nums.carry (Nat.le_trans hs814 h1) fun q hq => by
      have : q8 = q := Option.some.inj (hq8'.symm.trans hq)
      subst this
      rw [h2 _ HD15.out.away.lt, HD15.out.blk, hd8.blk]
  have hk11 : ∀ W : World, w14.heap.size ≤ W.heap.size → (∀ b, b < w14.heap.size → W.heap[b]? = w14.heap[b]?) → RNums W (Value.slice A11 2 c11) [(7, 5), (8, 6)] := fun W h1 h2 =>
    HP11.out.kept (Nat.le_trans hs1114 h1) fun q hq => by
      have : q11 = q := Option.some.inj (HQ11.out.symm.trans hq)
      subst this
      rw [h2 _ HX15.out.away.lt, HX15.out.blk, HX12.out.blk]
  have HK8 := Lib.hid hk8
  have HK11 := Lib.hid hk11
  clear hk8 hk11 hq8'
  go_wp2_with fail
  have hsz1 : (w14.alloc (Obj.cells #[.int .i64 5, .slice A14 1 c14] 32)).heap.size = w14.heap.size + 1 := by simp
  have n1 := HK8.out ((w14.alloc (Obj.cells #[.int .i64 5, .slice A14 1 c14] 32)).alloc (.cells #[.int .i64 7, .int .i64 8] 3)) (by simp; omega) (fun b hb => by rw [Below.heap_alloc _ _ _ (by simp; omega), Below.heap_alloc _ _ _ hb])
  have n2 := Nums.lit (w14.alloc (Obj.cells #[.int .i64 5, .slice A14 1 c14] 32)) [7, 8] 2 (by simp) (by simp) 3
  rw [hsz1] at n2
  rw [hq8] at n1
  refine (same_batch 5 5 n1 n2).mono ?_
  rw [show decide ((5 : Int) = 5 ∧ [(7 : Int), 8] = [7, 8]) = true by decide]
  rintro e w15 ⟨rfl, hb15⟩
  have hb15' : ∀ b, b < w14.heap.size + 1 → w15.heap[b]? = (w14.alloc (Obj.cells #[.int .i64 5, .slice A14 1 c14] 32)).heap[b]? := fun b hb => by
    rw [hb15.block b (by simp; omega), Below.heap_alloc _ _ _ (by simp; omega)]
  have hs15 : w14.heap.size + 2 ≤ w15.heap.size := by have := hb15.size; simpa using this
  have hC15 : Cells w15 w14.heap.size 32 #[.int .i64 5, .slice A14 1 c14] := (Cells.made w14 32 _).kept (hb15' _ (by omega))
  have HC15 := Lib.hid hC15
  have HB15' := Lib.hid hb15'
  have HBB := Lib.hid hb15
  clear hb15 hb15' hC15 n1 n2
  go_wp2_with fail
  have hs2 : (w15.alloc (.cells #[.int .i64 7, .int .i64 5, .int .i64 8, .int .i64 6] 65)).heap.size = w15.heap.size + 1 := by simp
  have r1 := HK11.out (w15.alloc (.cells #[.int .i64 7, .int .i64 5, .int .i64 8, .int .i64 6] 65)) (by rw [hs2]; omega) (fun b hb => by rw [Below.heap_alloc _ _ _ (by omega), HB15'.out b (by omega), Below.heap_alloc _ _ _ hb])
  have r2 := RNums.lit w15 [(7, 5), (8, 6)] 2 (by simp) (by simp) 65
  refine (same_reports r1 r2).mono ?_
  rw [show decide ([((7 : Int), (5 : Int)), (8, 6)] = [(7, 5), (8, 6)]) = true by decide]
  rintro e w16 ⟨rfl, n16, rfl⟩
  clear r1 r2
  have hF0 : w15.cell? ⟨w14.heap.size, 0, none⟩ = some (.int .i64 5) := HC15.out.cell 0
  have hF1 : w15.cell? ⟨w14.heap.size, 1, none⟩ = some (.slice A14 1 c14) := HC15.out.cell 1
  have hFlt : w14.heap.size < w15.heap.size := by omega
  have hs2' : w14.heap.size ≠ w15.heap.size := by omega
  go_wp2_with fail
  have hk14 : ∀ W : World, w14.heap.size ≤ W.heap.size → (∀ b, b < w14.heap.size → W.heap[b]? = w14.heap[b]?) → Nums W (Value.slice A14 1 c14) [7] (fun _ => True) := fun W h1 h2 =>
    HR14.out.nums.carry h1 fun q hq => h2 q (by
      rcases HR14.out.nums with ⟨h0, _⟩ | ⟨q', c, e, _, _, _, hq2, _⟩
      · simp at h0
      · have : (Value.slice A14 [7].length c14).ownBlock = some q := hq
        injection e with e1 e2 e3
        rw [e1] at this
        have : q' = q := Option.some.inj this
        omega)
  have hs3 : ((w15.alloc (Obj.cells #[.int .i64 7, .int .i64 5, .int .i64 8, .int .i64 6] 65)).drewN n16).heap.size = w15.heap.size + 1 := hs2
  have n1 := hk14 ((((w15.alloc (Obj.cells #[.int .i64 7, .int .i64 5, .int .i64 8, .int .i64 6] 65)).drewN n16).alloc (.cells #[.int .i64 7] 3))) (by simp; omega) (fun b hb => by
    rw [Below.heap_alloc _ _ _ (by rw [hs3]; omega)]
    show (w15.alloc _).heap[b]? = _
    rw [Below.heap_alloc _ _ _ (by omega), HB15'.out b (by omega), Below.heap_alloc _ _ _ hb])
  have n2 := Nums.lit ((w15.alloc (Obj.cells #[.int .i64 7, .int .i64 5, .int .i64 8, .int .i64 6] 65)).drewN n16) [7] 1 (by simp) (by simp) 3
  rw [hs3] at n2
  refine (same_batch 5 5 n1 n2).mono ?_
  rw [show decide ((5 : Int) = 5 ∧ [(7 : Int)] = [7]) = true by decide]
  rintro e w17 ⟨rfl, hb17⟩
  have HB17 := Lib.hid hb17
  clear hb17 n1 n2 hk14
  go_wp2_with fail
  refine (new_no 0 1 1 1 w17 (by unfold okNew; omega)).mono ?_
  rintro e w18 ⟨rfl, rfl⟩
  go_wp2_with fail
  go_ret
  refine ⟨rfl, ?_⟩
  have b1 : Below w.heap.size w ((w14.alloc (Obj.cells #[.int .i64 5, .slice A14 1 c14] 32)).alloc (.cells #[.int .i64 7, .int .i64 8] 3)) := (HB15.out.alloc HB15.out.size _).alloc (by have := HB15.out.size; simp; omega) _
  have b2 : Below w.heap.size w w15 := b1.trans (HBB.out.mono b1.size)
  have b3 : Below w.heap.size w ((((w15.alloc (Obj.cells #[.int .i64 7, .int .i64 5, .int .i64 8, .int .i64 6] 65)).drewN n16).alloc (.cells #[.int .i64 7] 3))) :=
    (below_drewN (b2.alloc b2.size _) n16).alloc (by rw [hs3]; have := b2.size; omega) _
  exact b3.trans (HB17.out.mono b3.size)
end Go.Proofs.Ytoecffmhnpnaaaa
