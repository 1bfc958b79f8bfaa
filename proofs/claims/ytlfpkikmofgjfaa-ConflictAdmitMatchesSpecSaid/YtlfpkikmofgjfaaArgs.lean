/- Arguments that came in, read as lists of numbers and as histories. -/
import Derived.Test.YtlfpkikmofgjfaaMem
import Derived.OpenShut
namespace Go.Proofs.Ytlfpkikmofgjfaa
open Go.RowKit Go.ChangeShapes Go.WideShapes

theorem cells3 : Try.prog.cellsOf 3 = 1 := by kernel_rfl
theorem cells4 : Try.prog.cellsOf 4 = 1 := by kernel_rfl
theorem cells27 : Try.prog.cellsOf 27 = 1 := by kernel_rfl
theorem cells29 : Try.prog.cellsOf 29 = 6 := by kernel_rfl
section
variable {H : Type} {enc : TypeId × Value → H} {w : World} {base : Nat} {spare : Nat → Bool} {held : Bool} {n : Nat} {cs : List Value} {x : DataW H × List MemPlace}
theorem ints_of_trod (h : DataW.trod enc Try.prog w base spare held n 27 cs = some x) : ∃ v xs, cs = [v] ∧ Ints w v xs := by
  rcases open_ints Try.underlying27 Try.underlying3 cells3 h with ⟨rfl, _⟩ | ⟨a, len, cap, zs, rfl, _, hl, hm, hz, _, hcell, hw⟩
  · exact ⟨_, [], rfl, Ints.nil w⟩
  · have hlz : len ≤ zs.length := by rw [hz]; split <;> omega
    have hlen : (zs.take len).length = len := by simp; omega
    refine ⟨_, zs.take len, rfl, fun y hy => hw y (List.mem_of_mem_take hy), some a, cap, by rw [hlen], by simp only [maxLen] at hm; omega, by omega, fun j hj => ?_⟩
    rw [hlen] at hj
    obtain ⟨b, off, rfl, hc⟩ := ints_at hcell (by omega)
    have h1 := hc j (by omega)
    refine ⟨b, off, rfl, World.block_lt_of_cell? w _ h1, ?_⟩
    rw [h1]
    simp [List.getD, hj]
theorem int_of_trod (h : DataW.trod enc Try.prog w base spare held n 3 cs = some x) : ∃ y, cs = [.int .i64 y] ∧ W64 y := by
  obtain ⟨y, rfl, _, hw⟩ := DataW.trod_int Try.underlying3 h
  exact ⟨y, rfl, hw⟩
theorem bool_of_trod (h : DataW.trod enc Try.prog w base spare held n 4 cs = some x) : ∃ y, cs = [.bool y] := by
  obtain ⟨y, rfl, _⟩ := DataW.trod_bool Try.underlying4 h
  exact ⟨y, rfl⟩
/-- The six cells of a transaction. -/
theorem acc_of_trod (h : DataW.trod enc Try.prog w base spare held n 29 cs = some x) : ∃ (y : Acc) (vr vw : Value), cs = (accCells y vr vw).toList ∧ Reads w y vr vw := by
  obtain ⟨xs, m, rfl, _, hl, hx, hf⟩ := DataW.trod_struct Try.underlying29 h
  rw [cells29] at hl
  match cs, hl with
  | [c0, c1, c2, c3, c4, c5], _ =>
  have get : ∀ i, i < xs.length → ∃ y, xs[i]? = some y := fun i hi => ⟨_, List.getElem?_eq_getElem hi⟩
  obtain ⟨y0, e0⟩ := get 0 (by rw [hx]; decide)
  obtain ⟨y1, e1⟩ := get 1 (by rw [hx]; decide)
  obtain ⟨y2, e2⟩ := get 2 (by rw [hx]; decide)
  obtain ⟨y3, e3⟩ := get 3 (by rw [hx]; decide)
  obtain ⟨y4, e4⟩ := get 4 (by rw [hx]; decide)
  obtain ⟨y5, e5⟩ := get 5 (by rw [hx]; decide)
  have f0 : DataW.trod enc Try.prog w base spare held m 3 (List.take (Try.prog.cellsOf 3) (List.drop 0 [c0, c1, c2, c3, c4, c5])) = xs[0]? := hf 0 _ rfl
  have f1 : DataW.trod enc Try.prog w base spare held m 3 (List.take (Try.prog.cellsOf 3) (List.drop 1 [c0, c1, c2, c3, c4, c5])) = xs[1]? := hf 1 _ rfl
  have f2 : DataW.trod enc Try.prog w base spare held m 4 (List.take (Try.prog.cellsOf 4) (List.drop 2 [c0, c1, c2, c3, c4, c5])) = xs[2]? := hf 2 _ rfl
  have f3 : DataW.trod enc Try.prog w base spare held m 3 (List.take (Try.prog.cellsOf 3) (List.drop 3 [c0, c1, c2, c3, c4, c5])) = xs[3]? := hf 3 _ rfl
  have f4 : DataW.trod enc Try.prog w base spare held m 27 (List.take (Try.prog.cellsOf 27) (List.drop 4 [c0, c1, c2, c3, c4, c5])) = xs[4]? := hf 4 _ rfl
  have f5 : DataW.trod enc Try.prog w base spare held m 27 (List.take (Try.prog.cellsOf 27) (List.drop 5 [c0, c1, c2, c3, c4, c5])) = xs[5]? := hf 5 _ rfl
  rw [e0] at f0
  rw [e1] at f1
  rw [e2] at f2
  rw [e3] at f3
  rw [e4] at f4
  rw [e5] at f5
  simp only [cells3, cells4, cells27, List.drop_zero, List.drop_succ_cons, List.take_succ_cons, List.take_zero] at f0 f1 f2 f3 f4 f5
  obtain ⟨a0, q0, w0⟩ := int_of_trod f0
  obtain ⟨a1, q1, w1⟩ := int_of_trod f1
  obtain ⟨a2, q2⟩ := bool_of_trod f2
  obtain ⟨a3, q3, w3⟩ := int_of_trod f3
  obtain ⟨a4, xs4, q4, w4⟩ := ints_of_trod f4
  obtain ⟨a5, xs5, q5, w5⟩ := ints_of_trod f5
  simp only [List.cons.injEq, and_true] at q0 q1 q2 q3 q4 q5
  subst q0 q1 q2 q3 q4 q5
  exact ⟨⟨a0, a1, a2, a3, xs4, xs5⟩, c4, c5, rfl, w4, w5, w0, w1, w3⟩
theorem hist_of_trod (h : DataW.trod enc Try.prog w base spare held n 24 cs = some x) : ∃ v hs, cs = [v] ∧ Hist w v hs := by
  rcases DataW.trod_slice Try.underlying24 h with ⟨rfl, _⟩ | ⟨a, len, cap, elems, rest, m, _, rfl, _, hb, hl, hm, hlen, hel, _, _⟩
  · exact ⟨_, [], rfl, none, 0, rfl, by simp, by simp, fun j hj => by simp at hj⟩
  · have each : ∀ i, i < len → ∃ (y : Acc) (vr vw : Value), Reads w y vr vw ∧ ∀ j, j < 6 → w.cell? ((a.add (i * 6)).add j) = (accCells y vr vw)[j]? := by
      intro i hi
      have h1 := hel i hi
      rw [cells29, List.getElem?_eq_getElem (by omega), Option.bind_eq_some_iff] at h1
      obtain ⟨cs', hcs, hy⟩ := h1
      obtain ⟨y, vr, vw, rfl, hr⟩ := acc_of_trod hy
      exact ⟨y, vr, vw, hr, fun j hj => by rw [(World.cells?_some hcs).2.2 j hj]; simp⟩
    let f : Nat → Acc := fun i => if hi : i < len then (each i hi).choose else acc0
    have hf : ∀ i, i < len → ∃ vr vw : Value, Reads w (f i) vr vw ∧ ∀ j, j < 6 → w.cell? ((a.add (i * 6)).add j) = (accCells (f i) vr vw)[j]? := by
      intro i hi
      have : f i = (each i hi).choose := dif_pos hi
      rw [this]
      exact (each i hi).choose_spec
    have htx : ∀ i, i < len → tx ((List.range len).map f) i = f i := by
      intro i hi
      simp [tx, List.getD, hi]
    have hlf : ((List.range len).map f).length = len := by simp
    refine ⟨_, (List.range len).map f, rfl, some a, cap, by rw [hlf], by simp only [maxLen] at hm; omega, by omega, fun i hi => ?_⟩
    rw [hlf] at hi
    obtain ⟨vr, vw, hr, hc⟩ := hf i hi
    have hsp : a.spot = none := by
      obtain ⟨_, _, _, hc0⟩ := hf 0 (by omega)
      have := World.cell?_spot (hc0 0 (by omega))
      simpa [Addr.add] using this
    obtain ⟨b, off, spot⟩ := a
    simp only at hsp
    subst hsp
    rw [htx i hi]
    have e : ∀ j, (((⟨b, off, none⟩ : Addr).add (i * 6)).add j) = ⟨b, off + i * 6 + j, none⟩ := fun j => by rw [Go.WideShapes.add_plain, Go.WideShapes.add_plain]
    have c0 := hc 0 (by omega)
    have c1 := hc 1 (by omega)
    have c2 := hc 2 (by omega)
    have c3 := hc 3 (by omega)
    have c4 := hc 4 (by omega)
    have c5 := hc 5 (by omega)
    rw [e] at c0 c1 c2 c3 c4 c5
    exact ⟨b, off, vr, vw, rfl, World.block_lt_of_cell? w _ c0, hr, c0, c1, c2, c3, c4, c5⟩
end
end Go.Proofs.Ytlfpkikmofgjfaa
