/- A loop over a map from int to int, in words about the map as a function; a store at a key that is there, a deletion. Over whatever program. -/
import Derived.Test.YtlfpkikmofgjfaaRangeStore
namespace Go.Proofs.Ytlfpkikmofgjfaa
open Go.RowKit
open Go.Maps (Keyed)

section
variable {P : Program} {k e t : TypeId} {w : World} {b r : Nat} {n cnt : Nat} {f : Int → Option Int} {left : Int → Bool}
/-- f without x. -/
def cut (f : Int → Option Int) (x : Int) : Int → Option Int := fun z => if z = x then none else f z
/-- A loop over the map f at block b is under way; the keys for which left is true are still to come. -/
def RangeAt (P : Program) (k e : TypeId) (w : World) (b r n : Nat) (f : Int → Option Int) (left : Int → Bool) (cnt : Nat) : Prop :=
  ∃ (D : DataW Unit) (L : Lit → Bool), w.ranges P k (plainElem P e) b r n D L cnt ∧ Maps.size D = n ∧
    (∀ x : Int, (Lit.int .i64 x).wf = true → D.atKey (.int .i64 x) (.lit (.int .i64 0)) = .lit (.int .i64 ((f x).getD 0)) ∧ Maps.has D (.int .i64 x) = (f x).isSome) ∧
    ∀ x : Int, (Lit.int .i64 x).wf = true → L (.int .i64 x) = left x
theorem RangeAt.map (h : RangeAt P k e w b r n f left cnt) : MapAt P k e w b n f := by
  obtain ⟨D, L, h1, h2, h3, _⟩ := h
  exact ⟨D, h1.owns, h2, h3⟩
theorem RangeAt.left_eq (h : RangeAt P k e w b r n f left cnt) : w.rangeLeft b r = cnt := by
  obtain ⟨D, L, h1, _⟩ := h
  exact h1.left_eq
theorem RangeAt.lt (h : RangeAt P k e w b r n f left cnt) : r < w.heap.size := by
  obtain ⟨D, L, h1, _⟩ := h
  exact h1.lt
theorem RangeAt.congr {f' : Int → Option Int} {left' : Int → Bool} (h : RangeAt P k e w b r n f left cnt) (hf : ∀ x : Int, (Lit.int .i64 x).wf = true → f' x = f x) (hl : ∀ x : Int, (Lit.int .i64 x).wf = true → left' x = left x) : RangeAt P k e w b r n f' left' cnt := by
  obtain ⟨D, L, h1, h2, h3, h4⟩ := h
  exact ⟨D, L, h1, h2, fun x hx => by rw [hf x hx]; exact h3 x hx, fun x hx => by rw [hl x hx]; exact h4 x hx⟩
theorem MapAt.congr {f' : Int → Option Int} (h : MapAt P k e w b n f) (hf : ∀ x : Int, (Lit.int .i64 x).wf = true → f' x = f x) : MapAt P k e w b n f' := by
  obtain ⟨D, h1, h2, h3⟩ := h
  exact ⟨D, h1, h2, fun x hx => by rw [hf x hx]; exact h3 x hx⟩
theorem RangeAt.kept {w' : World} (h : RangeAt P k e w b r n f left cnt) (hb : w'.heap[b]? = w.heap[b]?) (hr : w'.heap[r]? = w.heap[r]?) : RangeAt P k e w' b r n f left cnt := by
  obtain ⟨D, L, ⟨es, clock, since, seen, c0, h1, F, hs, hD, h2, rest⟩, h⟩ := h
  exact ⟨D, L, ⟨es, clock, since, seen, c0, hb.trans h1, F, hs, hD, hr.trans h2, rest⟩, h⟩
theorem MapAt.range (h : MapAt P k e w b n f) (hk : P.underlying k = some (.int .i64)) (ht : P.underlying t = some (.map k e)) :
    ∃ w', (Instr.range t (.map (some b))).run P w = .ok (.pointer (some ⟨w.heap.size, 0, none⟩)) w' ∧ RangeAt P k e w' b w.heap.size n f (fun x => (f x).isSome) n ∧ w.grownBy w' none ∧ w'.heap.size = w.heap.size + 1 := by
  obtain ⟨D, ho, hs, hD⟩ := h
  obtain ⟨w', h1, h2, h3, h4⟩ := ho.range (Maps.int_keyed hk) ht
  exact ⟨w', h1, ⟨D, _, by rw [hs] at h2; exact h2, hs, hD, fun x hx => (hD x hx).2⟩, h3, h4⟩
theorem MapAt.del (h : MapAt P k e w b n f) (hk : P.underlying k = some (.int .i64)) (ht : P.underlying t = some (.map k e)) {x : Int} (hx : (Lit.int .i64 x).wf = true) (hin : (f x).isSome = true) (ty : TypeId) :
    ∃ w', (Builtin.delete_ #[t, k] ty #[.map (some b), .int .i64 x]).run P w = .ok (.tuple #[]) w' ∧ MapAt P k e w' b (n - 1) (cut f x) ∧ w.mapTurned w' b := by
  obtain ⟨D, ho, hs, hD⟩ := h
  obtain ⟨w', hrun, ho', hturn⟩ := ho.drop (Maps.int_keyed hk) ht (Maps.keyOf_int_mk hk hx) ty
  obtain ⟨es, clock, hb, F, h1, hDD⟩ := ho'
  have hsz := Maps.size_del (k := .int .i64 x) (ho.tidy (Maps.int_keyed hk))
  rw [(hD x hx).2, hs, hin] at hsz
  simp only [if_true] at hsz
  refine ⟨w', hrun, ⟨D.del (.int .i64 x), ⟨es, clock, hb, F, ?_, hDD⟩, by omega, fun z hz => ?_⟩, hturn⟩
  · have : Maps.size (D.del (.int .i64 x)) = es.size := by rw [hDD]; simp [Maps.size, length_sorted]
    omega
  · unfold cut
    by_cases e' : z = x
    · subst e'
      rw [Maps.atKey_del_same, Maps.has_del_same]
      simp
    · have hne : (Lit.int .i64 z) ≠ .int .i64 x := fun h => e' (by injection h)
      rw [Maps.atKey_del_other hne, Maps.has_del_other hne, (hD z hz).1, (hD z hz).2]
      simp [e']
theorem RangeAt.put (h : RangeAt P k e w b r n f left cnt) (hk : P.underlying k = some (.int .i64)) (he : P.underlying e = some (.int .i64)) (ht : P.underlying t = some (.map k e)) (hn : n < maxLen) {x y : Int} (hx : (Lit.int .i64 x).wf = true) (hy : (Lit.int .i64 y).wf = true)
    (hin : (f x).isSome = true) :
    ∃ w', (Instr.mapUpdate t (.map (some b)) (.int .i64 x) (.int .i64 y)).run P w = .ok () w' ∧ RangeAt P k e w' b r n (upd f x y) left cnt ∧ w.mapTurned w' b := by
  obtain ⟨D, L, hr, hs, hD, hL⟩ := h
  obtain ⟨w', hrun, hr', hturn⟩ := ranges_store hr (Maps.int_keyed hk) ht (Maps.keyOf_int_mk hk hx) (plainElem_int he hy) hn (by rw [(hD x hx).2]; exact hin)
  have hsz := Maps.size_put (k := .int .i64 x) (d := .lit (.int .i64 y)) (hr.owns.tidy (Maps.int_keyed hk))
  rw [(hD x hx).2, hs, hin] at hsz
  refine ⟨w', hrun, ⟨_, L, hr', by simpa using hsz, fun z hz => ?_, hL⟩, hturn⟩
  unfold upd
  by_cases e' : z = x
  · subst e'
    rw [Maps.atKey_put_same hr.owns.isMap (isKey_int' _), Maps.has_put_same hr.owns.isMap (isKey_int' _)]
    simp
  · have hne : (Lit.int .i64 z) ≠ .int .i64 x := fun h => e' (by injection h)
    rw [Maps.atKey_put_other hne, Maps.has_put_other hne, (hD z hz).1, (hD z hz).2]
    simp [e']
/-! ### at the operation, for the walk -/
variable {ops : Array Oper} {rest : List Oper} {o : Oper} {a : Act} {Q : Exit → Act → World → Prop}
theorem wpList_map_range (hg : o.guard = none) (m : Operand) (t : TypeId) (hop : o.op = Op.range t m) (hk : P.underlying k = some (.int .i64)) (ht : P.underlying t = some (.map k e))
    (hm : a.eval m = .map (some b)) (h : MapAt P k e w b n f)
    (hK : ∀ w', RangeAt P k e w' b w.heap.size n f (fun x => (f x).isSome) n → w.grownBy w' none → w'.heap.size = w.heap.size + 1 → wpList P ops Q rest (a.put o.dst (.pointer (some ⟨w.heap.size, 0, none⟩))) w') :
    wpList P ops Q (o :: rest) a w := by
  refine wpList_plain hg fun K' hK' => ?_
  obtain ⟨w', hrun, r1, r2, r3⟩ := h.range hk ht
  unfold Oper.wp
  simp [execOp, hop, hm, hrun, Result.andThen]
  exact hK' _ _ (hK w' r1 r2 r3)
theorem wpList_map_next (hg : o.guard = none) (it : Operand) (hop : o.op = Op.next it false) (hk : P.underlying k = some (.int .i64)) (he : P.underlying e = some (.int .i64))
    (hit : a.eval it = .pointer (some ⟨r, 0, none⟩)) (h : RangeAt P k e w b r n f left cnt)
    (hDone : cnt = 0 → (∀ x, (Lit.int .i64 x).wf = true → left x = false) → wpList P ops Q rest (a.put o.dst (.tuple #[.bool false])) w)
    (hMore : ∀ (x c : Int) (w' : World) (cnt' : Nat), (Lit.int .i64 x).wf = true → (Lit.int .i64 c).wf = true → left x = true → f x = some c → RangeAt P k e w' b r n f (fun z => left z && !decide (z = x)) cnt' → cnt' < cnt →
      w.grownBy w' (some r) → w'.heap.size = w.heap.size → (Instr.entry (.pointer (some ⟨r, 0, none⟩))).run P w' = .ok (.tuple #[.int .i64 x, .int .i64 c]) w' → wpList P ops Q rest (a.put o.dst (.tuple #[.bool true, .int .i64 x, .int .i64 c])) w') :
    wpList P ops Q (o :: rest) a w := by
  obtain ⟨D, L, hr, hs, hD, hL⟩ := h
  refine wpList_next_ranges_ii w hg it hop k e .i64 .i64 (Maps.int_keyed hk) hk he b r n D L cnt hit hr (fun h0 hl => hDone h0 fun x hx => by rw [← hL x hx]; exact hl _) ?_
  intro x c w' cnt' hx hc hlx hat hr' hlt hgr hsz hen
  refine hMore x c w' cnt' hx hc (by rw [← hL x hx]; exact hlx) ?_ ⟨D, _, hr', hs, hD, fun z hz => ?_⟩ hlt hgr hsz hen
  · have h1 := (hD x hx).1
    rw [hat] at h1
    have h2 := lit_int_inj h1
    have h3 := (hD x hx).2
    rw [Maps.has_true_of_atKey hat] at h3
    cases hf : f x with
    | none => rw [hf] at h3; cases h3
    | some y => rw [hf] at h2; rw [h2]; rfl
  · rw [hL z hz]
    congr 2
    by_cases e' : z = x
    · subst e'
      rw [WideAt.sameKey_self (isKey_int' _)]
      simp
    · rw [Maps.sameKey_ne (fun h => e' (by injection h))]
      simp [e']
theorem wpList_map_del (hg : o.guard = none) (m x : Operand) (t k : TypeId) (hop : o.op = Op.call { callee := Callee.builtin Builtin.delete, args := #[m, x], argTypes := #[t, k] }) (hk : P.underlying k = some (.int .i64)) (ht : P.underlying t = some (.map k e)) (i : Int)
    (hm : a.eval m = .map (some b)) (hx : a.eval x = .int .i64 i) (h : MapAt P k e w b n f) (hw : (Lit.int .i64 i).wf = true) (hin : (f i).isSome = true)
    (hK : ∀ w', MapAt P k e w' b (n - 1) (cut f i) → w.mapTurned w' b → wpList P ops Q rest (a.put o.dst (.tuple #[])) w') : wpList P ops Q (o :: rest) a w := by
  refine wpList_plain hg fun K' hK' => ?_
  obtain ⟨w', hrun, r1, r2⟩ := h.del hk ht hw hin o.type
  unfold Oper.wp
  simp [execOp, hop, resolve, invoke, builtin, hm, hx, hrun, Result.andThen]
  exact hK' _ _ (hK w' r1 r2)
theorem wpList_range_put (hg : o.guard = none) (m x v : Operand) (t : TypeId) (hop : o.op = Op.mapUpdate t m x v) (hk : P.underlying k = some (.int .i64)) (he : P.underlying e = some (.int .i64)) (ht : P.underlying t = some (.map k e)) (i j : Int)
    (hm : a.eval m = .map (some b)) (hx : a.eval x = .int .i64 i) (hv : a.eval v = .int .i64 j) (h : RangeAt P k e w b r n f left cnt) (hl : n < maxLen) (hw : (Lit.int .i64 i).wf = true) (hw' : (Lit.int .i64 j).wf = true) (hin : (f i).isSome = true)
    (hK : ∀ w', RangeAt P k e w' b r n (upd f i j) left cnt → w.mapTurned w' b → wpList P ops Q rest (a.put o.dst undef) w') : wpList P ops Q (o :: rest) a w := by
  refine wpList_plain hg fun K' hK' => ?_
  obtain ⟨w', hrun, r1, r2⟩ := h.put hk he ht hl hw hw' hin
  unfold Oper.wp
  simp [execOp, hop, hm, hx, hv, hrun, Result.andThen]
  exact hK' _ _ (hK w' r1 r2)
end
end Go.Proofs.Ytlfpkikmofgjfaa
