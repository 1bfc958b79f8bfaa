/- The walk of Cut. -/
import Derived.Test.YtoecffmhnpnaaaaWalkH
import Derived.Deep.RegionLaw
import Derived.Deep.AppendLies
import Derived.BigRegion
namespace Go.Proofs.Ytoecffmhnpnaaaa
open Go.RowKit

theorem below_drewN {B : Nat} {w w1 : World} (h : Below B w w1) (n : Nat) : Below B w (w1.drewN n) := ⟨h.os, h.tape, h.output, h.size, h.block⟩
set_option maxHeartbeats 600000 in
theorem cut_no {w : World} {F : Nat → Prop} {g mb : Nat} {bs : List Nat} {S : Gr} (tick : Int) (hR : Rep w F g mb bs S) (hO : S.Ok) (hF : ∀ b, F b → b < w.heap.size) (hd : S.due tick = false) :
    Calls Try.prog 11 #[.pointer (some ⟨g, 0, none⟩), .int .i64 tick] w fun e w' => e = .returned (.tuple #[.agg #[.int .i64 0, .slice none 0 0], .bool false]) ∧ Below w.heap.size w w' := by
  have hR1 : Rep (w.alloc (.cells #[.int .i64 0, .slice none 0 0] 32)) F g mb bs S := hR.only ((Only.refl w (fun _ => False)).alloc _) (fun _ _ h => h)
  have HDue := Lib.hid (due_any tick hR1 hO)
  have HD := Lib.hid hd
  clear hR hR1 hd hO
  go_enter Try.func11, Try.ntmps11
  go_wp2_with (go_at_call 13; refine HDue.out.mono ?_; rw [HD.out]; rintro e w1 ⟨rfl, n, rfl⟩)
  refine bodyPost_ret (v := .tuple #[.agg #[.int .i64 0, .slice none 0 0], .bool false]) (by simp [results, Try.results11, go_sem]) rfl ⟨rfl, ?_⟩
  have hB1 : Below w.heap.size w ((w.alloc (.cells #[.int .i64 0, .slice none 0 0] 32)).drewN n) := below_drewN ((Below.refl w.heap.size w).alloc (Nat.le_refl _) (.cells #[.int .i64 0, .slice none 0 0] 32)) n
  exact (hB1.setCell (p := ⟨w.heap.size, 0, none⟩) (Nat.le_refl _) _).setCell (p := ⟨w.heap.size, 1, none⟩) (Nat.le_refl _) _
/-- The group behind Cut. -/
def Gr.cutted (S : Gr) : Gr := { S with l := S.l.drop S.front, stamp := S.stamp + S.front, is := true, bf := S.stamp, txs := S.waits.take S.front }
theorem neq_same (a : Addr) (w : World) : (binOp .neq 61 (.pointer (some a)) (.pointer (some a))).run Try.prog w = .ok (.bool false) w := by
  have hp : Try.prog.underlying 61 = some (.pointer 69) := Try.underlying61
  obtain ⟨j, hte⟩ : ∃ j, Try.prog.info? 69 = some j := by
    have h : (Try.prog.info? 69).isSome = true := by kernel_rfl
    exact Option.isSome_iff_exists.1 h
  have h : ∀ d : Nat, (Op.equalIn (d + 1) 61 (.pointer (some a)) (.pointer (some a))).run Try.prog w = .ok true w := fun d => by
    simp [Op.equalIn, run_underlying hp, sizeOf, typeInfo, hte, run_sameAddr_same]
  simp only [binOp]
  simp [Op.equal, Op.maxDepth, h 9999]
theorem neq_other {a b : Addr} {ca cb : Array Value} {ta tb : TypeId} {w : World} (hne : a ≠ b) (ha : w.heap[a.block]? = some (.cells ca ta (0, 0))) (hb : w.heap[b.block]? = some (.cells cb tb (0, 0))) :
    (binOp .neq 61 (.pointer (some a)) (.pointer (some b))).run Try.prog w = .ok (.bool true) w := by
  have hp : Try.prog.underlying 61 = some (.pointer 69) := Try.underlying61
  have h0 : (Try.prog.info? 69).map (fun i => i.size) = some 4 := by kernel_rfl
  obtain ⟨j, hte, hj⟩ := Option.map_eq_some_iff.1 h0
  have hsz : j.size ≠ 0 := by omega
  have h : ∀ d : Nat, (Op.equalIn (d + 1) 61 (.pointer (some a)) (.pointer (some b))).run Try.prog w = .ok false w := fun d => by
    simp [Op.equalIn, run_underlying hp, sizeOf, typeInfo, hte, hsz, run_sameAddr_other w hne ha hb]
  simp only [binOp]
  simp [Op.equal, Op.maxDepth, h 9999]
/-- Two links of the chain are not the same. -/
theorem links_ne {w : World} {bs : List Nat} {S : Gr} {k f b : Nat} {q : Option Addr} (hlen : bs.length = S.l.length) (hnd : bs.Nodup) (hN : ∀ k b x, bs[k]? = some b → S.l[k]? = some x → Cells w b 69 (nodeAt bs k x)) (hkf : k < f) (hb : bs[k]? = some b) (hq : ptrAt bs f = .pointer q) :
    (binOp .neq 61 (.pointer (some ⟨b, 0, none⟩)) (.pointer q)).run Try.prog w = .ok (.bool true) w := by
  cases hf' : bs[f]? with
  | none =>
    have h1 : q = none := by
      unfold ptrAt at hq
      rw [hf'] at hq
      injection hq with hq
      exact hq.symm
    subst h1
    have := run_neq_pointer_nil (P := Try.prog) (w := w) 61 (some ⟨b, 0, none⟩) (by kernel_rfl)
    simpa using this
  | some b' =>
    have h1 : q = some ⟨b', 0, none⟩ := by
      rw [ptrAt_in hf'] at hq
      injection hq with hq
      exact hq.symm
    subst h1
    obtain ⟨i1, j1⟩ := List.getElem?_eq_some_iff.1 hb
    obtain ⟨i2, j2⟩ := List.getElem?_eq_some_iff.1 hf'
    refine neq_other ?_ (hN k b S.l[k] hb (List.getElem?_eq_getElem (by omega))) (hN f b' S.l[f] hf' (List.getElem?_eq_getElem (by omega)))
    intro e
    injection e with e
    have := (List.getElem_inj hnd).1 (j1.trans (e.trans j2.symm))
    omega
theorem link_same {q : Option Addr} (w : World) : (binOp .neq 61 (.pointer q) (.pointer q)).run Try.prog w = .ok (.bool false) w := by
  cases q with
  | none =>
    have := run_neq_pointer_nil (P := Try.prog) (w := w) 61 none (by kernel_rfl)
    simpa using this
  | some a => exact neq_same a w
theorem Rep.mono {w : World} {F G : Nat → Prop} {g mb : Nat} {bs : List Nat} {S : Gr} (h : Rep w F g mb bs S) (hFG : ∀ b, F b → G b) : Rep w G g mb bs S := by
  obtain ⟨⟨v, hv, hn⟩, h1, h2, h3, h4, h5, h6, h7⟩ := h
  exact ⟨⟨v, hv, hn.kept (Nat.le_refl _) fun b hb _ => ⟨⟨hFG b hb.1, hb.2⟩, rfl⟩⟩, h1, h2, h3, h4, hFG _ h5, hFG _ h6, fun b hb => hFG b (h7 b hb)⟩
theorem frontFrom_most (most room : Int) : ∀ (l : List Rd) (n s : Int), n ≤ most → (frontFrom most room n s l : Int) + n ≤ most
  | [], n, s, h => by simp [frontFrom]; exact h
  | x :: l, n, s, h => by
    unfold frontFrom
    split
    · rename_i h1
      have := frontFrom_most most room l (n + 1) (s + x.words) (by omega)
      simp only [Int.natCast_add, Int.natCast_one]
      omega
    · simpa using h
theorem Gr.front_most {S : Gr} (hO : S.Ok) : (S.front : Int) ≤ S.most := by
  have := frontFrom_most S.most S.room S.l 0 0 (by have := hO.most; omega)
  unfold Gr.front
  omega
theorem Gr.due_ne {S : Gr} {tick : Int} (h : S.due tick = true) : S.l ≠ [] ∧ S.is = false := by
  unfold Gr.due at h
  rcases hl : S.l with _ | ⟨x, l⟩
  · rw [hl] at h; simp at h
  · simp at h
    exact ⟨by simp, h.1⟩
/-- Where something waits, the front is not empty. -/
theorem Gr.front_pos {S : Gr} (hO : S.Ok) (h : S.l ≠ []) : 1 ≤ S.front := by
  rcases hl : S.l with _ | ⟨x, l⟩
  · exact absurd hl h
  · have hx := hO.l x (by rw [hl]; simp)
    unfold Gr.front
    rw [hl, frontFrom, if_pos ⟨by have := hO.most; omega, by omega⟩]
    omega
theorem Gr.cutted_ok {S : Gr} (hO : S.Ok) (hl : S.l ≠ []) : S.cutted.Ok := by
  have h1 := Gr.front_most hO
  have h2 := S.front_le
  have h3 := hO.most
  have h4 := hO.stamp
  have h5 := Gr.front_pos hO hl
  refine ⟨hO.most, hO.room, hO.delay, ⟨?_, ?_⟩, fun x hx => hO.l x (List.mem_of_mem_drop hx), ?_, ⟨?_, ?_⟩, ?_⟩
  · show 1 ≤ S.stamp + S.front; omega
  · show S.stamp + S.front + ((S.l.drop S.front).length : Nat) ≤ 1073741825
    rw [List.length_drop]
    omega
  · show ((S.l.drop S.front).map (·.tx)).Nodup
    rw [List.map_drop]
    exact hO.nodup.sublist (List.drop_sublist _ _)
  · show 0 ≤ S.stamp; omega
  · show S.stamp ≤ 1073741824; omega
  · show (S.waits.take S.front).length ≤ 64
    rw [List.length_take]
    omega
theorem ptrAt_drop {bs : List Nat} {k j : Nat} : ptrAt (bs.drop k) j = ptrAt bs (k + j) := by simp [ptrAt, List.getElem?_drop]
/-- The world behind the five stores of Cut. -/
def cutW (wr : World) (g : Nat) (q : Option Addr) (st st' : Int) (v : Value) : World :=
  (((((wr.setCell ⟨g, 4, none⟩ (.pointer q)).setCell ⟨g, 3, none⟩ (.int .i64 st')).setCell ⟨g, 6, none⟩ (.bool true)).setCell ⟨g, 7, none⟩ (.int .i64 st)).setCell ⟨g, 8, none⟩ v).drew
theorem five_block (wr : World) (g : Nat) (a b c d e : Value) {k : Nat} (hk : k ≠ g) : (((((wr.setCell ⟨g, 4, none⟩ a).setCell ⟨g, 3, none⟩ b).setCell ⟨g, 6, none⟩ c).setCell ⟨g, 7, none⟩ d).setCell ⟨g, 8, none⟩ e).heap[k]? = wr.heap[k]? := by
  rw [Below.heap_setCell _ _ _ _ hk, Below.heap_setCell _ _ _ _ hk, Below.heap_setCell _ _ _ _ hk, Below.heap_setCell _ _ _ _ hk, Below.heap_setCell _ _ _ _ hk]
theorem setCell_size (wr : World) (p : Addr) (a : Value) : (wr.setCell p a).heap.size = wr.heap.size := by simp [World.setCell]
theorem five_size (wr : World) (g : Nat) (a b c d e : Value) : (((((wr.setCell ⟨g, 4, none⟩ a).setCell ⟨g, 3, none⟩ b).setCell ⟨g, 6, none⟩ c).setCell ⟨g, 7, none⟩ d).setCell ⟨g, 8, none⟩ e).heap.size = wr.heap.size := by
  rw [setCell_size, setCell_size, setCell_size, setCell_size, setCell_size]
theorem drew_heap (w : World) : w.drew.heap = w.heap := rfl
theorem Cells.drew {w : World} {g : Nat} {t : TypeId} {cs : Array Value} (h : Cells w g t cs) : Cells w.drew g t cs := h
theorem Rep.cut {w wr : World} {F : Nat → Prop} {g mb : Nat} {bs : List Nat} {S : Gr} (hR : Rep w F g mb bs S) (hF : ∀ b, F b → b < w.heap.size) {q : Option Addr} (hq : ptrAt bs S.front = .pointer q) {v9 : Value}
    (hsz : w.heap.size + 2 ≤ wr.heap.size) (hon : Only w wr (fun b => b = mb)) (hset : SetAt Try.prog 3 4 wr mb (S.waits.drop S.front)) (hrow : Row wr (w.heap.size + 2) 3 v9 (S.waits.take S.front)) :
    Rep (cutW wr g q S.stamp (S.stamp + S.front) v9) (fun b => F b ∨ (w.heap.size + 2 ≤ b ∧ b < wr.heap.size)) g mb (bs.drop S.front) S.cutted ∧
      (∀ b, b ≠ g → (cutW wr g q S.stamp (S.stamp + S.front) v9).heap[b]? = wr.heap[b]?) ∧ (cutW wr g q S.stamp (S.stamp + S.front) v9).heap.size = wr.heap.size := by
  have hother : ∀ b, b ≠ g → (cutW wr g q S.stamp (S.stamp + S.front) v9).heap[b]? = wr.heap[b]? := fun b hb => by
    unfold cutW
    rw [drew_heap, five_block _ _ _ _ _ _ _ hb]
  have hsize : (cutW wr g q S.stamp (S.stamp + S.front) v9).heap.size = wr.heap.size := by
    unfold cutW
    rw [drew_heap, five_size]
  refine ⟨?_, hother, hsize⟩
  obtain ⟨v, hv, hn⟩ := hR.v
  have hg := hv.kept (hon.block g hv.lt (Ne.symm hR.g_ne_m))
  have hc := ((((hg.set 4 (.pointer q)).set 3 (.int .i64 (S.stamp + S.front))).set 6 (.bool true)).set 7 (.int .i64 S.stamp)).set 8 v9
  simp only [List.setIfInBounds_toArray, List.set_cons_zero, List.set_cons_succ] at hc
  refine ⟨⟨v9, ?_, ?_⟩, ?_, ?_, ?_, ?_, ?_, ?_, ?_⟩
  · rw [ptrAt_drop, Nat.add_zero, hq]
    unfold cutW
    exact hc.drew
  · have hnn := hrow.nums
    refine hnn.kept (by rw [hsize]; exact Nat.le_refl _) fun b ⟨h1, h2⟩ hlt => ⟨⟨.inr ⟨h1, hlt⟩, ?_, ?_, ?_⟩, hother b ?_⟩
    · have := hF g hR.fg; omega
    · have := hF mb hR.fm; omega
    · intro hb
      have := hF b (hR.fb b (List.mem_of_mem_drop hb))
      omega
    · have := hF g hR.fg; omega
  · show (bs.drop S.front).length = (S.l.drop S.front).length
    rw [List.length_drop, List.length_drop, hR.len]
  · intro k b x hb hx
    rw [List.getElem?_drop] at hb
    replace hx : (S.l.drop S.front)[k]? = some x := hx
    rw [List.getElem?_drop] at hx
    have hnode := hR.nodes _ b x hb hx
    have hbm := List.mem_of_getElem? hb
    unfold nodeAt
    rw [ptrAt_drop]
    exact hnode.kept ((hother b (hR.g_ne_b hbm)).trans (hon.block b hnode.lt (hR.m_ne_b hbm)))
  · exact hR.nodup.sublist (List.drop_sublist _ _)
  · show SetAt Try.prog 3 4 _ mb ((S.l.drop S.front).map (·.tx))
    rw [List.map_drop]
    exact hset.kept (hother mb hR.g_ne_m)
  · exact .inl hR.fg
  · exact .inl hR.fm
  · exact fun b hb => .inl (hR.fb b (List.mem_of_mem_drop hb))
end Go.Proofs.Ytoecffmhnpnaaaa
