/- The walk of Drop. -/
import Derived.Test.YtoecffmhnpnaaaaWalkG
namespace Go.Proofs.Ytoecffmhnpnaaaa
open Go.RowKit

theorem eraseIdx_filter : ∀ (l : List Rd) (k : Nat) (x : Rd), (l.map (·.tx)).Nodup → l[k]? = some x → l.eraseIdx k = l.filter (fun y => decide (y.tx ≠ x.tx))
  | [], _, _, _, h => by simp at h
  | y :: l, 0, x, hn, h => by
    simp at h
    subst h
    simp at hn
    obtain ⟨h1, h2⟩ := hn
    simp
    rw [List.filter_eq_self.2]
    intro a ha
    simpa using h1 a ha
  | y :: l, k + 1, x, hn, h => by
    simp at h
    simp only [List.map_cons, List.nodup_cons] at hn
    obtain ⟨h1, h2⟩ := hn
    have hx : x ∈ l := List.mem_of_getElem? h
    have hne : y.tx ≠ x.tx := fun e => h1 (by rw [e]; exact List.mem_map_of_mem hx)
    simp only [List.eraseIdx_cons_succ]
    rw [List.filter_cons_of_pos (by simpa using hne), eraseIdx_filter l k x h2 h]
theorem erase_map : ∀ (l : List Rd) (k : Nat) (x : Rd), (l.map (·.tx)).Nodup → l[k]? = some x → (l.map (·.tx)).erase x.tx = (l.eraseIdx k).map (·.tx)
  | [], _, _, _, h => by simp at h
  | y :: l, 0, x, _, h => by
    simp at h
    subst h
    simp
  | y :: l, k + 1, x, hn, h => by
    simp at h
    simp only [List.map_cons, List.nodup_cons] at hn
    obtain ⟨h1, h2⟩ := hn
    have hx : x ∈ l := List.mem_of_getElem? h
    have hne : y.tx ≠ x.tx := fun e => h1 (by rw [e]; exact List.mem_map_of_mem hx)
    simp only [List.map_cons, List.eraseIdx_cons_succ]
    rw [List.erase_cons_tail (by simpa using hne), erase_map l k x h2 h]
theorem ptrAt_erase {bs : List Nat} {k j : Nat} : ptrAt (bs.eraseIdx k) j = if j < k then ptrAt bs j else ptrAt bs (j + 1) := by
  unfold ptrAt
  rw [List.getElem?_eraseIdx]
  split <;> rfl
def Gr.dropped (S : Gr) (tx : Int) : Gr := { S with l := S.l.filter (fun y => decide (y.tx ≠ tx)) }
section
variable {w : World} {F : Nat → Prop} {g mb : Nat} {bs : List Nat} {S : Gr}
/-- The k-th node has been hung out, and its number taken out of the set. -/
theorem Rep.removed (hR : Rep w F g mb bs S) (hN : (S.l.map (·.tx)).Nodup) {k : Nat} {x : Rd} (hx : S.l[k]? = some x) {w2 : World}
    (hset : SetAt Try.prog 3 4 w2 mb ((S.l.map (·.tx)).erase x.tx)) (hturn : (w.setCell (linkAt g bs k) (ptrAt bs (k + 1))).mapTurned w2 mb) :
    Rep w2 F g mb (bs.eraseIdx k) (S.dropped x.tx) ∧ Only w w2 F := by
  obtain ⟨hk, _⟩ := List.getElem?_eq_some_iff.1 hx
  have hkb : k < bs.length := by rw [hR.len]; exact hk
  obtain ⟨hl1, hl2, hl3, hl4⟩ := hR.link_cells (Nat.le_of_lt hkb)
  have hg := hturn.grown
  have hset1 : SetAt Try.prog 3 4 w mb (S.l.map (·.tx)) := hR.set
  have hmlt := hR.set.lt
  have hOnly : Only w w2 F := ((Only.refl w F).setCell (Or.inl hl3) _).turned hturn (Or.inl hR.fm)
  have hk2 : ∀ b, b ≠ mb → b < w.heap.size → w2.heap[b]? = (w.setCell (linkAt g bs k) (ptrAt bs (k + 1))).heap[b]? := fun b hb hlt => hg.block b (by simp [World.setCell]; omega) (fun e => hb (Option.some.inj e))
  have hk1 : ∀ b, b ≠ mb → b ≠ (linkAt g bs k).block → b < w.heap.size → w2.heap[b]? = w.heap[b]? := fun b hb hl hlt => by
    rw [hk2 b hb hlt, Below.heap_setCell _ _ _ _ hl]
  have hl : (S.dropped x.tx).l = S.l.eraseIdx k := (eraseIdx_filter S.l k x hN hx).symm
  have hsub : ∀ b, b ∈ bs.eraseIdx k → b ∈ bs := fun b hb => List.mem_of_mem_eraseIdx hb
  refine ⟨⟨?_, ?_, ?_, ?_, ?_, hR.fg, hR.fm, fun b hb => hR.fb b (hsub b hb)⟩, hOnly⟩
  · obtain ⟨v, hv, hn⟩ := hR.v
    refine ⟨v, ?_, ?_⟩
    · show Cells w2 g 63 #[.int .i64 S.most, .int .i64 S.room, .int .i64 S.delay, .int .i64 S.stamp, ptrAt (bs.eraseIdx k) 0, .map (some mb), .bool S.is, .int .i64 S.bf, v]
      rw [ptrAt_erase]
      match k, hk2, hk1 with
      | 0, hk2, hk1 =>
        have h2 := (hv.set 4 (ptrAt bs 1)).kept (hk2 g (Ne.symm hR.g_ne_m) hv.lt)
        simpa using h2
      | k + 1, hk2, hk1 =>
        rw [if_pos (by omega)]
        refine hv.kept (hk1 g (Ne.symm hR.g_ne_m) ?_ hv.lt)
        have hb : bs.getD k 0 ∈ bs := by simp [List.getD, List.getElem?_eq_getElem (show k < bs.length by omega)]
        exact Ne.symm (hR.g_ne_b hb)
    · show Nums w2 v S.txs _
      refine hn.kept hOnly.size fun b ⟨f1, f2, f3, f4⟩ hlt => ⟨⟨f1, f2, f3, fun h => f4 (hsub b h)⟩, hk1 b f3 ?_ hlt⟩
      intro e1
      match k, hkb, e1 with
      | 0, _, e1 => exact f2 e1
      | k + 1, hkb, e1 => exact f4 (by rw [e1]; simp [linkAt, List.getD, List.getElem?_eq_getElem (show k < bs.length by omega)])
  · rw [hl, List.length_eraseIdx_of_lt hkb, List.length_eraseIdx_of_lt hk, hR.len]
  · intro j b y hb hy
    rw [hl, List.getElem?_eraseIdx] at hy
    rw [List.getElem?_eraseIdx] at hb
    unfold nodeAt
    rw [ptrAt_erase]
    by_cases hj : j < k
    · rw [if_pos hj] at hb hy
      have hn := hR.nodes j b y hb hy
      have hbm := List.mem_of_getElem? hb
      by_cases hlast : j + 1 = k
      · subst hlast
        have hla : linkAt g bs (j + 1) = ⟨b, 3, none⟩ := by rw [linkAt, List.getD, hb]; rfl
        rw [hla] at hk2
        have h2 := (hn.set 3 (ptrAt bs (j + 1 + 1))).kept (hk2 b (hR.m_ne_b hbm) hn.lt)
        unfold nodeAt at h2
        rw [if_neg (by omega)]
        simpa using h2
      · rw [if_pos (by omega)]
        refine hn.kept (hk1 b (hR.m_ne_b hbm) ?_ hn.lt)
        obtain ⟨i, rfl⟩ : ∃ i, k = i + 1 := ⟨k - 1, by omega⟩
        rw [linkAt, List.getD, List.getElem?_eq_getElem (show i < bs.length by omega)]
        intro e1
        simp only [Option.getD_some] at e1
        obtain ⟨hk', rfl⟩ := List.getElem?_eq_some_iff.1 hb
        have := (List.getElem_inj hR.nodup).1 e1
        omega
    · rw [if_neg hj] at hb hy
      rw [if_neg (by omega)]
      have hn := hR.nodes (j + 1) b y hb hy
      have hbm := List.mem_of_getElem? hb
      refine hn.kept (hk1 b (hR.m_ne_b hbm) ?_ hn.lt)
      match k, hkb, hj with
      | 0, _, _ => exact hR.g_ne_b hbm
      | i + 1, hkb, hj =>
        rw [linkAt, List.getD, List.getElem?_eq_getElem (show i < bs.length by omega)]
        intro e1
        simp only [Option.getD_some] at e1
        obtain ⟨hk', rfl⟩ := List.getElem?_eq_some_iff.1 hb
        have := (List.getElem_inj hR.nodup).1 e1
        omega
  · exact hR.nodup.sublist (List.eraseIdx_sublist _ _)
  · rw [hl, ← erase_map S.l k x hN hx]
    exact hset
/-- The world in which it has been hung out. -/
theorem Rep.unhung (hR : Rep w F g mb bs S) {k : Nat} (hk : k < bs.length) (u : Value) :
    (w.setCell (linkAt g bs k) u).cell? ⟨g, 5, none⟩ = some (.map (some mb)) ∧ SetAt Try.prog 3 4 (w.setCell (linkAt g bs k) u) mb (S.l.map (·.tx)) := by
  obtain ⟨l1, l2, l3, l4⟩ := hR.link_cells (Nat.le_of_lt hk)
  obtain ⟨v, hv, hn⟩ := hR.v
  refine ⟨?_, ?_⟩
  · match k, hk with
    | 0, _ => exact (hv.set 4 _).cell 5
    | k + 1, hk =>
      refine (hv.kept (Below.heap_setCell _ _ _ _ ?_)).cell 5
      exact Ne.symm (hR.g_ne_b (b := bs.getD k 0) (by simp [List.getD, List.getElem?_eq_getElem (show k < bs.length by omega)]))
  · refine hR.set.kept ?_
    rw [Below.heap_setCell]
    match k, hk with
    | 0, _ => exact hR.g_ne_m
    | k + 1, hk => exact Ne.symm (hR.m_ne_b (b := bs.getD k 0) (by simp [List.getD, List.getElem?_eq_getElem (show k < bs.length by omega)]))
end
set_option maxHeartbeats 600000 in
theorem drop_any {w : World} {F : Nat → Prop} {g mb : Nat} {bs : List Nat} {S : Gr} (tx : Int) (hR : Rep w F g mb bs S) (hO : S.Ok) (hx : (Lit.int .i64 tx).wf = true) :
    Calls Try.prog 22 #[.pointer (some ⟨g, 0, none⟩), .int .i64 tx] w fun e w' => e = .returned (.bool (decide (tx ∈ S.waits))) ∧ ∃ bs', Rep w' F g mb bs' (S.dropped tx) ∧ Only w w' F := by
  have c4 := (hR.link_cells (Nat.zero_le _)).1
  have HR := Lib.hid hR
  have HN := Lib.hid hO.nodup
  have hlen := hR.len
  clear hR hO
  go_enter Try.func22, Try.ntmps22
  go_wp2
  go_loopg [5] bs.length (fun n e wr => ∃ k : Nat, k ≤ bs.length ∧ n = bs.length - k ∧ e = .pointer (some (linkAt g bs k)) ∧ wr = w ∧ Hid (∀ j y, j < k → S.l[j]? = some y → y.tx ≠ tx))
  case atStart => exact ⟨0, by omega, rfl, rfl, rfl, Lib.hid (fun j y h => by omega)⟩
  case round =>
    obtain ⟨k, hk, hgk, rfl, rfl, HP⟩ := hrel
    have HG := Lib.hid hgk
    clear hgk
    obtain ⟨l1, l2, l3, l4⟩ := HR.out.link_cells hk
    by_cases hlk : k < bs.length
    · obtain ⟨x, hxk⟩ : ∃ x, S.l[k]? = some x := ⟨_, List.getElem?_eq_getElem (by rw [← hlen]; exact hlk)⟩
      obtain ⟨b, hb⟩ : ∃ b, bs[k]? = some b := ⟨_, List.getElem?_eq_getElem hlk⟩
      have hnode := HR.out.nodes k b x hb hxk
      have d0 : wr.cell? ⟨b, 0, none⟩ = some (.int .i64 x.tx) := hnode.cell 0
      have d3 : wr.cell? ⟨b, 3, none⟩ = some (ptrAt bs (k + 1)) := hnode.cell 3
      have hlink : linkAt g bs (k + 1) = ⟨b, 3, none⟩ := by rw [linkAt, List.getD, hb]; rfl
      rw [ptrAt_in hb] at l1
      have HLk := Lib.hid hlink
      have HX := Lib.hid hxk
      clear hlink hb hnode hxk
      by_cases he : x.tx = tx
      · obtain ⟨u1, u2⟩ := HR.out.unhung hlk (ptrAt bs (k + 1))
        obtain ⟨q, hq⟩ : ∃ q, ptrAt bs (k + 1) = .pointer q := ⟨_, rfl⟩
        rw [hq] at u1 u2 d3
        have HQ := Lib.hid hq
        clear hq
        obtain ⟨p, hp⟩ : ∃ p, p = linkAt g bs k := ⟨_, rfl⟩
        rw [← hp] at l1 l2 l3 l4 u1 ⊢
        have HS := Lib.hid u2
        have HPp := Lib.hid hp
        have HI := Lib.hid (show tx ∈ S.l.map (·.tx) by rw [← he]; exact List.mem_map_of_mem (List.mem_of_getElem? HX.out))
        have HE := Lib.hid he
        have hbe : x.tx = tx := he
        clear u2 hp he
        go_wp2_with (refine wpList_set_del rfl (.tmp 37) (.tmp 38) 60 rfl Try.underlying3 Try.underlying4 Try.underlying60 tx rfl rfl (by rw [HPp.out]; exact HS.out) hx HI.out ?_; intro w3 hs3 ht3)
        go_ret
        rw [HPp.out, ← HQ.out] at ht3
        rw [← HE.out] at hs3
        obtain ⟨r1, r2⟩ := HR.out.removed HN.out HX.out hs3 ht3
        rw [HE.out] at r1
        exact ⟨ret_bool (decide_eq_true HI.out).symm, _, r1, r2⟩
      · go_wp2
        go_roundg (bs.length - (k + 1))
        case rel => exact ⟨k + 1, by omega, rfl, by rw [HLk.out], rfl, Lib.hid (fun j y hj hy => by
          by_cases e : j = k
          · subst e
            rw [HX.out] at hy
            injection hy with hy
            rw [← hy]
            exact he
          · exact HP.out j y (by omega) hy)⟩
        case measure => rw [HG.out]; omega
    · obtain rfl : k = bs.length := by omega
      rw [ptrAt_out (Nat.le_refl _)] at l1
      obtain ⟨p, hp⟩ : ∃ p, p = linkAt g bs bs.length := ⟨_, rfl⟩
      rw [← hp] at l1 l2 l3 l4 ⊢
      clear hp
      go_wp2
      go_ret
      have hno : tx ∉ S.waits := by
        unfold Gr.waits
        intro h
        obtain ⟨y, hy, e⟩ := List.mem_map.1 h
        obtain ⟨j, hj, rfl⟩ := List.mem_iff_getElem.1 hy
        exact HP.out j _ (by rw [hlen]; exact hj) (List.getElem?_eq_getElem hj) e
      have hsame : S.dropped tx = S := by
        have : S.l.filter (fun y => decide (y.tx ≠ tx)) = S.l := List.filter_eq_self.2 fun y hy => by
          simp
          rintro rfl
          exact hno (List.mem_map_of_mem hy)
        unfold Gr.dropped
        rw [this]
      exact ⟨ret_bool (decide_eq_false hno).symm, bs, by rw [hsame]; exact HR.out, Only.refl _ _⟩
end Go.Proofs.Ytoecffmhnpnaaaa
