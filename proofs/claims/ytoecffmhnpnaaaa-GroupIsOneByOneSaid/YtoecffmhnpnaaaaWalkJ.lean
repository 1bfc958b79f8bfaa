/- The walk of Cut where a batch is due. -/
import Derived.Test.YtoecffmhnpnaaaaWalkI
namespace Go.Proofs.Ytoecffmhnpnaaaa
open Go.RowKit

set_option maxHeartbeats 3000000 in
theorem cut_yes {w : World} {F : Nat → Prop} {g mb : Nat} {bs : List Nat} {S : Gr} (tick : Int) (hR : Rep w F g mb bs S) (hO : S.Ok) (hF : ∀ b, F b → b < w.heap.size) (hw : ∀ x ∈ S.l, (Lit.int .i64 x.tx).wf = true) (hd : S.due tick = true) :
    Calls Try.prog 11 #[.pointer (some ⟨g, 0, none⟩), .int .i64 tick] w fun e w' => ∃ A c m, e = .returned (.tuple #[.agg #[.int .i64 S.stamp, .slice A S.front c], .bool true]) ∧ w.heap.size ≤ m ∧ m ≤ w'.heap.size ∧ Row w' m 3 (.slice A S.front c) S.cutted.txs ∧
      (∃ bs', Rep w' (fun b => F b ∨ (w.heap.size ≤ b ∧ b < m)) g mb bs' S.cutted) ∧ Only w w' F := by
  have hR1 : Rep (w.alloc (.cells #[.int .i64 0, .slice none 0 0] 32)) F g mb bs S := hR.only ((Only.refl w (fun _ => False)).alloc _) (fun _ _ h => h)
  have HDue := Lib.hid (due_any tick hR1 hO)
  have HFr : Hid (∀ n, Calls Try.prog 32 #[.pointer (some ⟨g, 0, none⟩)] ((w.alloc (.cells #[.int .i64 0, .slice none 0 0] 32)).drewN n) fun e w' => e = .returned (.tuple #[.int .i64 S.front, ptrAt bs S.front]) ∧ ∃ m, w' = ((w.alloc (.cells #[.int .i64 0, .slice none 0 0] 32)).drewN n).drewN m) := Lib.hid fun n => front_any (hR1.drewN n) hO
  have HD := Lib.hid hd
  obtain ⟨v, hv, hn⟩ := hR.v
  have c3 : w.cell? ⟨g, 3, none⟩ = some (.int .i64 S.stamp) := hv.cell 3
  have c4 : w.cell? ⟨g, 4, none⟩ = some (ptrAt bs 0) := hv.cell 4
  have hlt := hv.lt
  have HR := Lib.hid hR
  have HO := Lib.hid hO
  have HV := Lib.hid hv
  have HFF := Lib.hid hF
  have HW := Lib.hid hw
  have hle := S.front_le
  have hlen := hR.len
  clear hR hR1 hd hO hv hF hn hw
  obtain ⟨f, hf⟩ : ∃ f, f = S.front := ⟨_, rfl⟩
  rw [← hf] at HFr hle ⊢
  have HFq := Lib.hid hf
  obtain ⟨q, hq⟩ : ∃ q, ptrAt bs f = .pointer q := ⟨_, rfl⟩
  have HQ := Lib.hid hq
  rw [hq] at HFr
  clear hq
  clear hf
  go_enter Try.func11, Try.ntmps11
  go_wp2_with (first | (go_at_call 13; refine HDue.out.mono ?_; rw [HD.out]; rintro e w1 ⟨rfl, n, rfl⟩) | (go_at_call 32; refine (HFr.out _).mono ?_; rintro e w1 ⟨rfl, m, rfl⟩))
  go_loopg [9] f (fun n e wr => ∃ (k : Nat) (v : Value), k ≤ f ∧ n = f - k ∧ e = ptrAt bs k ∧ Cells wr (w.heap.size + 1) 32 #[.int .i64 S.stamp, v] ∧ Row wr (w.heap.size + 2) 3 v (S.waits.take k) ∧ SetAt Try.prog 3 4 wr mb (S.waits.drop k) ∧ Only w wr (fun b => b = mb) ∧ Cells wr w.heap.size 32 #[.int .i64 0, .slice none 0 0])
  case atStart =>
    have hz : ((w.alloc (.cells #[.int .i64 0, .slice none 0 0] 32)).drewN (n + m)).heap.size = w.heap.size + 1 := by show (w.alloc _).heap.size = _; simp
    have ha : ∀ b', b' < w.heap.size + 1 → (((w.alloc (.cells #[.int .i64 0, .slice none 0 0] 32)).drewN (n + m)).alloc (.cells #[.int .i64 S.stamp, .slice none 0 0] 32)).heap[b']? = (w.alloc (.cells #[.int .i64 0, .slice none 0 0] 32)).heap[b']? := fun b' hb' => Below.heap_alloc _ _ _ (by rw [hz]; exact hb')
    refine ⟨0, .slice none 0 0, by omega, by omega, rfl, ?_, Row.nil _ _ _, ?_, ?_, ?_⟩
    · have := Cells.made ((w.alloc (.cells #[.int .i64 0, .slice none 0 0] 32)).drewN (n + m)) 32 #[.int .i64 S.stamp, .slice none 0 0]
      rw [hz] at this
      exact this
    · have hmlt := HR.out.set.lt
      exact HR.out.set.kept ((ha mb (by omega)).trans (Below.heap_alloc _ _ _ hmlt))
    · exact (((Only.refl w _).alloc _).drewN _).alloc _
    · exact (Cells.made w 32 _).kept (ha w.heap.size (by omega))
  case round =>
    obtain ⟨k, v9, hk, hgk, rfl, hcell, hrow, hset, hon, hcell0⟩ := hrel
    have HG := Lib.hid hgk
    clear hgk
    by_cases hlk : k < f
    · obtain ⟨x, hx⟩ : ∃ x, S.l[k]? = some x := ⟨_, List.getElem?_eq_getElem (by omega)⟩
      obtain ⟨b, hb⟩ : ∃ b, bs[k]? = some b := ⟨_, List.getElem?_eq_getElem (by omega)⟩
      have hbm := List.mem_of_getElem? hb
      have hnode := (HR.out.nodes k b x hb hx)
      have hblt := hnode.lt
      have hnode' := hnode.kept (hon.block b hblt (HR.out.m_ne_b hbm))
      have d0 : wr.cell? ⟨b, 0, none⟩ = some (.int .i64 x.tx) := hnode'.cell 0
      have d3 : wr.cell? ⟨b, 3, none⟩ = some (ptrAt bs (k + 1)) := hnode'.cell 3
      have e1 : wr.cell? ⟨w.heap.size + 1, 1, none⟩ = some v9 := hcell.cell 1
      have hpk := ptrAt_in hb
      have hcmp := links_ne (w := wr) hlen HR.out.nodup (fun j b' y h1 h2 => (HR.out.nodes j b' y h1 h2).kept (hon.block b' (HR.out.nodes j b' y h1 h2).lt (HR.out.m_ne_b (List.mem_of_getElem? h1)))) hlk hb HQ.out
      rw [hpk]
      go_wp2
      have htk : S.waits.take (k + 1) = S.waits.take k ++ [x.tx] := by
        unfold Gr.waits
        rw [List.take_add_one]
        simp [hx]
      have hlk' : (S.waits.take k).length = k := by simp [Gr.waits]; omega
      have hl60 : (S.l.length : Int) ≤ 1073741825 := by have := HO.out.stamp; omega
      have hsz : w.heap.size + 2 ≤ wr.heap.size := by have := hcell.lt; omega
      have hown : wr.ownsRow (w.heap.size + 2) 3 1 v9 k ((S.waits.take k).map fun x => Value.int .i64 x) := by have := hrow.1; rw [hlk'] at this; exact this
      obtain ⟨i0, hi0, hz0, hz1, hz2⟩ := info_parts info3
      have hn1 : k + 1 ≤ maxLen := by simp only [maxLen]; omega
      have hn2 : (k + 1) * 8 ≤ 140737488355328 := by omega
      have m1 : (wr.alloc (.cells #[.int .i64 x.tx] 3)).cell? ⟨w.heap.size + 1, 1, none⟩ = some v9 := (World.cell?_alloc_lt wr _ _ (by show w.heap.size + 1 < _; omega)).trans e1
      have hdr : S.waits.drop k = x.tx :: S.waits.drop (k + 1) := by
        unfold Gr.waits
        have hkl : k < (S.l.map (·.tx)).length := by simp; omega
        rw [List.drop_eq_getElem_cons hkl]
        obtain ⟨_, h2⟩ := List.getElem?_eq_some_iff.1 hx
        simp [h2]
      have HDr := Lib.hid hdr
      have HIn := Lib.hid (show x.tx ∈ S.waits.drop k by rw [hdr]; simp)
      clear hdr
      have HTK := Lib.hid htk
      have HLK := Lib.hid hlk'
      have HOwn := Lib.hid hown
      have HNew := Lib.hid (heap_alloc_new wr (.cells #[.int .i64 x.tx] 3))
      have HSet := Lib.hid hset
      have HOn := Lib.hid hon
      have HC := Lib.hid hcell
      have HC0 := Lib.hid hcell0
      clear htk hlk' hown hrow hset hon hcell hcell0 hnode hnode'
      go_region_law ((refine step_append_lies _ (by rfl) (.tmp 37) (.tmp 42) 22 (by rfl) (w.heap.size + 2) 3 i0 (.int .i64 0) 1 8 Try.underlying22 hi0 hz0 hz1 hz2 rfl (by omega) v9 k _ (by rfl) ((HOwn.out.alloc _).drew) ⟨wr.heap.size, 0, none⟩ 1 1 [.int .i64 x.tx] (by rfl) (by rfl) (World.news_of_block (cs := #[.int .i64 x.tx]) (t := 3) (fr := (0, 0)) HNew.out) (by simp [Value.oneCell']) (by omega) hn1 hn2 (by simp; omega) (wr.heap.size + 1) (by simp) ?_; intro gg cap w1 hown1 hgrow hat hgl; have hkept : ∀ b', b' < w.heap.size + 2 → w1.heap[b']? = wr.heap[b']? := (fun b' hb' => (hgrow.block b' (by simp; omega) (fun e => by have := (HOwn.out.lt b' e.symm).1; omega)).trans (Below.heap_alloc _ _ _ (by omega))); have hcell3 := HC.out.kept (hkept _ (by omega)); have e3 := hcell3.cell 1; have f3 := hcell3.free 1))
      all_goals
        obtain ⟨w4, hw4⟩ : ∃ w4, w4 = w1.setCell ⟨w.heap.size + 1, 1, none⟩ (.slice (some ⟨gg, 0, none⟩) (k + 1) cap) := ⟨_, rfl⟩
        have hsz1 : wr.heap.size ≤ w1.heap.size := by have := hgrow.size; simp at this; omega
        have hsz4 : wr.heap.size ≤ w4.heap.size := by rw [hw4]; simp [World.setCell]; exact hsz1
        have hk4 : ∀ b', b' < w.heap.size + 1 → w4.heap[b']? = wr.heap[b']? := fun b' hb' => by rw [hw4, Below.heap_setCell _ _ _ _ (by show b' ≠ w.heap.size + 1; omega)]; exact hkept b' (by omega)
        have hset4 : SetAt Try.prog 3 4 w4 mb (S.waits.drop k) := HSet.out.kept (hk4 mb (by have := HR.out.set.lt; omega))
        have hcell4 : Cells w4 (w.heap.size + 1) 32 #[.int .i64 S.stamp, .slice (some ⟨gg, 0, none⟩) (k + 1) cap] := by
          have := hcell3.set 1 (.slice (some ⟨gg, 0, none⟩) (k + 1) cap)
          rw [← hw4] at this
          simpa using this
        have hcell04 : Cells w4 w.heap.size 32 #[.int .i64 0, .slice none 0 0] := HC0.out.kept (hk4 _ (by omega))
        have hrow4 : Row w4 (w.heap.size + 2) 3 (.slice (some ⟨gg, 0, none⟩) (k + 1) cap) (S.waits.take (k + 1)) := by
          rw [hw4]
          refine Row.setCell ?_ (by show w.heap.size + 1 < _; omega) _
          rw [HTK.out]
          exact ⟨by simpa [HLK.out] using hown1, fun h => by simp at h⟩
        have hon4 : Only w w4 (fun b => b = mb) := ⟨by rw [hw4]; exact hgrow.os.trans HOn.out.os, by rw [hw4]; exact hgrow.tape.trans HOn.out.tape, by rw [hw4]; exact hgrow.output.trans HOn.out.output, by have := HOn.out.size; omega, fun b' hb' hm => (hk4 b' (by omega)).trans (HOn.out.block b' hb' hm)⟩
        have hg4 : Cells w4 g 63 _ := HV.out.kept (hon4.block g hlt (Ne.symm HR.out.g_ne_m))
        have c5 : w4.cell? ⟨g, 5, none⟩ = some (.map (some mb)) := hg4.cell 5
        have hn4 := (HR.out.nodes k b x hb hx).kept (hon4.block b hblt (HR.out.m_ne_b hbm))
        have d0' : w4.cell? ⟨b, 0, none⟩ = some (.int .i64 x.tx) := hn4.cell 0
        have HS4 := Lib.hid hset4
        have HR4 := Lib.hid hrow4
        have HO4 := Lib.hid hon4
        have HC4 := Lib.hid hcell4
        have HC04 := Lib.hid hcell04
        clear hset4 hcell4 hcell04 hrow4 hon4 hg4 hn4 hown1 hgrow hkept hcell3 e3 f3 m1 d0 d3 e1 hk4
        rw [← hw4]
        clear hw4
        go_wp2
        go_still_tail 8, (by kernel_rfl)
        change wpList _ _ _ _ _ w4.drew
        refine wpList_set_del rfl (.tmp 48) (.tmp 52) 60 rfl Try.underlying3 Try.underlying4 Try.underlying60 x.tx rfl rfl (show SetAt Try.prog 3 4 w4.drew mb (S.waits.drop k) from HS4.out) (HW.out x (List.mem_of_getElem? hx)) HIn.out ?_
        intro w5 hs5 ht5
        have hon5 : Only w w5 (fun b => b = mb) := (HO4.out.drew).turned ht5 (Or.inl rfl)
        have hk5 : ∀ b', b' ≠ mb → b' < w4.heap.size → w5.heap[b']? = w4.heap[b']? := fun b' h1 h2 => ht5.grown.block b' h2 (fun e => h1 (Option.some.inj e))
        have hmlt := HR.out.set.lt
        have hn5 := (HR.out.nodes k b x hb hx).kept (hon5.block b hblt (HR.out.m_ne_b hbm))
        have d3 : w5.cell? ⟨b, 3, none⟩ = some (ptrAt bs (k + 1)) := hn5.cell 3
        have hfin : Cells w5 (w.heap.size + 1) 32 #[.int .i64 S.stamp, .slice (some ⟨gg, 0, none⟩) (k + 1) cap] ∧ Row w5 (w.heap.size + 2) 3 (.slice (some ⟨gg, 0, none⟩) (k + 1) cap) (S.waits.take (k + 1)) ∧ SetAt Try.prog 3 4 w5 mb (S.waits.drop (k + 1)) ∧ Only w w5 (fun b => b = mb) ∧ Cells w5 w.heap.size 32 #[.int .i64 0, .slice none 0 0] := by
          refine ⟨HC4.out.kept (hk5 _ (by omega) HC4.out.lt), HR4.out.kept ht5.grown.size (fun b' h1 h2 => hk5 b' (by omega) h2), ?_, hon5, HC04.out.kept (hk5 _ (by omega) HC04.out.lt)⟩
          rw [HDr.out, List.erase_cons_head] at hs5
          exact hs5
        have HFin := Lib.hid hfin
        clear hfin hs5 ht5 hon5 hk5 hn5
        go_wp2
        go_roundg (f - (k + 1))
        case rel => exact ⟨k + 1, _, by omega, rfl, rfl, HFin.out⟩
        case measure => rw [HG.out]; omega
    · obtain rfl : k = f := by omega
      have hlk' : (S.waits.take k).length = k := by simp [Gr.waits]; omega
      obtain ⟨A9, c9, rfl⟩ : ∃ A c, v9 = .slice A k c := by
        rcases hrow.1.2 with ⟨e, h0⟩ | ⟨q9, cap, cur, e, _⟩
        · refine ⟨none, 0, ?_⟩
          rw [e]
          have : (k : Nat) = 0 := by rw [← hlk', h0]
          rw [this]
        · exact ⟨_, _, by rw [e, hlk']⟩
      have hsz : w.heap.size + 2 ≤ wr.heap.size := by have := hcell.lt; omega
      have hcmp := link_same (q := q) wr
      rw [HQ.out]
      have hwr : IntKind.i64.wrap (S.stamp + (k : Int)) = S.stamp + (k : Int) := IntWalk.i64_in _ (by have := HO.out.stamp; omega)
      have hg4 := HV.out.kept (hon.block g hlt (Ne.symm HR.out.g_ne_m))
      have d3 : wr.cell? ⟨g, 3, none⟩ = some (.int .i64 S.stamp) := hg4.cell 3
      have d4 : wr.cell? ⟨g, 4, none⟩ = some (ptrAt bs 0) := hg4.cell 4
      have d6 : wr.cell? ⟨g, 6, none⟩ = some (.bool S.is) := hg4.cell 6
      have d7 : wr.cell? ⟨g, 7, none⟩ = some (.int .i64 S.bf) := hg4.cell 7
      have d8 : wr.cell? ⟨g, 8, none⟩ = some v := hg4.cell 8
      have f3 := hg4.free 3
      have f4 := hg4.free 4
      have f6 := hg4.free 6
      have f7 := hg4.free 7
      have f8 := hg4.free 8
      have e0 : wr.cell? ⟨w.heap.size + 1, 0, none⟩ = some (.int .i64 S.stamp) := hcell.cell 0
      have e1 : wr.cell? ⟨w.heap.size + 1, 1, none⟩ = some (.slice A9 k c9) := hcell.cell 1
      have hgne : w.heap.size + 1 ≠ g := by omega
      have HC := Lib.hid hcell
      have HC0 := Lib.hid hcell0
      have HRow := Lib.hid hrow
      have HSet := Lib.hid hset
      have HOn := Lib.hid hon
      have HG4 := Lib.hid hg4
      clear hcell hcell0 hrow hset hon hg4 hlen
      have hfr : k = S.front := HFq.out
      have hcw := HR.out.cut HFF.out (q := q) (by rw [← hfr]; exact HQ.out) hsz HOn.out (by rw [← hfr]; exact HSet.out) (by rw [← hfr]; exact HRow.out)
      rw [← hfr] at hcw
      obtain ⟨r1, r2, r3⟩ := hcw
      have hOk := Gr.cutted_ok HO.out (Gr.due_ne HD.out).1
      have hlen' : S.cutted.txs.length = k := by
        show (S.waits.take S.front).length = k
        rw [← hfr]; exact hlk'
      have hop := open_any r1 hOk
      rw [hlen', r3] at hop
      unfold cutW at hop
      have HOpen : Hid (Calls Try.prog 25 #[.pointer (some ⟨g, 0, none⟩)] ((((((wr.setCell ⟨g, 4, none⟩ (.pointer q)).setCell ⟨g, 3, none⟩ (.int .i64 (S.stamp + k))).setCell ⟨g, 6, none⟩ (.bool true)).setCell ⟨g, 7, none⟩ (.int .i64 S.stamp)).setCell ⟨g, 8, none⟩ (.slice A9 k c9)).drew)
        fun e w' => ∃ A c, e = .returned (.tuple #[.agg #[.int .i64 S.stamp, .slice A k c], .bool true]) ∧ Row w' wr.heap.size 3 (.slice A k c) S.cutted.txs ∧ Below wr.heap.size ((((((wr.setCell ⟨g, 4, none⟩ (.pointer q)).setCell ⟨g, 3, none⟩ (.int .i64 (S.stamp + k))).setCell ⟨g, 6, none⟩ (.bool true)).setCell ⟨g, 7, none⟩ (.int .i64 S.stamp)).setCell ⟨g, 8, none⟩ (.slice A9 k c9)).drew) w') := Lib.hid hop
      have HR1 := Lib.hid r1
      have HR2 := Lib.hid r2
      have HR3 := Lib.hid r3
      have HSz := Lib.hid hsz
      clear r1 r2 r3 hop hlen' hlk' hfr hOk
      go_wp2
      go_region
      go_wp2_with (go_at_call 25; refine HOpen.out.mono ?_; rintro e w7 ⟨A, c, rfl, hr, hb⟩; have hb' : Below wr.heap.size (cutW wr g q S.stamp (S.stamp + k) (.slice A9 k c9)) w7 := hb; have hc7 : Cells w7 w.heap.size 32 #[.int .i64 0, .slice none 0 0] := (HC0.out.kept (HR2.out _ (by omega))).kept (hb'.block _ (by omega)); have z0 : w7.cell? ⟨w.heap.size, 0, none⟩ = some (.int .i64 0) := hc7.cell 0; have z1 : w7.cell? ⟨w.heap.size, 1, none⟩ = some (.slice none 0 0) := hc7.cell 1; have y0 := hc7.free 0; have y1 := hc7.free 1)
      refine bodyPost_ret (v := .tuple #[.agg #[.int .i64 S.stamp, .slice A k c], .bool true]) (by simp [results, Try.results11, go_sem, z0, z1, World.cell?_setCell_far]) rfl ⟨A, c, wr.heap.size, rfl, by have := HSz.out; omega, by rw [setCell_size, setCell_size]; have := hb'.size; rw [HR3.out] at this; exact this, ?_, ?_, ?_⟩
      · exact ((hr.setCell (p := ⟨w.heap.size, 0, none⟩) (by show w.heap.size < _; omega) _).setCell (p := ⟨w.heap.size, 1, none⟩) (by show w.heap.size < _; omega) _)
      · refine ⟨bs.drop k, ?_⟩
        have h7 := HR1.out.kept (w' := w7) hb'.size (fun b' h1 h2 => hb'.block b' (by rw [HR3.out] at h2; exact h2))
        have hne : ∀ b', (F b' ∨ (w.heap.size + 2 ≤ b' ∧ b' < wr.heap.size)) → b' ≠ w.heap.size := fun b' h => by
          rcases h with h | h
          · have := HFF.out b' h; omega
          · omega
        have h8 := h7.kept (w' := (w7.setCell ⟨w.heap.size, 0, none⟩ (.int .i64 S.stamp)).setCell ⟨w.heap.size, 1, none⟩ (.slice A k c)) (by rw [setCell_size, setCell_size]; exact Nat.le_refl _) (fun b' h1 h2 => by rw [Below.heap_setCell _ _ _ _ (hne b' h1), Below.heap_setCell _ _ _ _ (hne b' h1)])
        refine h8.mono fun b' h => ?_
        rcases h with h | h
        · exact .inl h
        · exact .inr ⟨by omega, h.2⟩
      · have ho7 : Only w w7 F := by
          refine ⟨hb'.os.trans HOn.out.os, hb'.tape.trans HOn.out.tape, hb'.output.trans HOn.out.output, by have := hb'.size; rw [HR3.out] at this; omega, fun b' hb1 hb2 => ?_⟩
          have hbg : b' ≠ g := fun e => hb2 (by rw [e]; exact HR.out.fg)
          have hbm : b' ≠ mb := fun e => hb2 (by rw [e]; exact HR.out.fm)
          rw [hb'.block b' (by omega), HR2.out b' hbg, HOn.out.block b' hb1 hbm]
        exact (ho7.setCell (p := ⟨w.heap.size, 0, none⟩) (Or.inr (Nat.le_refl _)) _).setCell (p := ⟨w.heap.size, 1, none⟩) (Or.inr (Nat.le_refl _)) _
end Go.Proofs.Ytoecffmhnpnaaaa
