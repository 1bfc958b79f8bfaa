/- A map from int to bool that the call itself has made, all of whose elements are true: a set. What its look-ups, stores, deletes and its length come to, over whatever program. -/
import Derived.Maps.OwnSet
import Derived.WalkKit
namespace Go.Proofs.Ytlfpkikmofgjfaa
open Go.RowKit
open Go.Maps (Keyed)

section
variable {P : Program} {k e t : TypeId} {w : World} {b : Nat} {ks : List Int}

theorem isKey_int (x : Int) : WideAt.IsKeyLit (.int .i64 x) := by
  unfold WideAt.IsKeyLit
  trivial
/-- Block b is the set of the numbers ks. -/
def SetAt (P : Program) (k e : TypeId) (w : World) (b : Nat) (ks : List Int) : Prop :=
  ks.Nodup ∧ ∃ D : DataW Unit, w.ownsMap P k (plainElem P e) b ks.length D ∧ Maps.size D = ks.length ∧
    (∀ x : Int, (Lit.int .i64 x).wf = true → D.atKey (.int .i64 x) (.lit (.bool false)) = .lit (.bool (decide (x ∈ ks))) ∧ Maps.has D (.int .i64 x) = decide (x ∈ ks))
theorem lit_bool_inj {H : Type} {x y : Bool} (h : (DataW.lit (.bool x) : DataW H) = .lit (.bool y)) : x = y := by injection h with h; injection h
theorem plainElem_bool_inv {H : Type} (he : P.underlying e = some .bool) {v : Value} {z : DataW H × List MemPlace} (h : plainElem P e v = some z) : ∃ x, v = .bool x ∧ z = (.lit (.bool x), []) := by
  unfold plainElem at h
  rw [he] at h
  cases v <;> simp at h
  exact ⟨_, rfl, h.symm⟩
theorem SetAt.made (w : World) (P : Program) (k e : TypeId) : SetAt P k e (w.alloc (.map #[] 0)) w.heap.size [] :=
  ⟨List.nodup_nil, .map [], World.ownsMap_made w P k _, rfl, fun x _ => by
    refine ⟨?_, rfl⟩
    simp [DataW.atKey]⟩
theorem SetAt.kept {w' : World} (h : SetAt P k e w b ks) (hb : w'.heap[b]? = w.heap[b]?) : SetAt P k e w' b ks := by
  obtain ⟨hn, D, ⟨es, clock, hblk, r⟩, hs, hx⟩ := h
  exact ⟨hn, D, ⟨es, clock, hb.trans hblk, r⟩, hs, hx⟩
theorem SetAt.lt (h : SetAt P k e w b ks) : b < w.heap.size := by
  obtain ⟨_, D, ho, _⟩ := h
  exact ho.lt
theorem SetAt.look (h : SetAt P k e w b ks) (hk : P.underlying k = some (.int .i64)) (he : P.underlying e = some .bool) (ht : P.underlying t = some (.map k e)) (hz : (zeroValue e).run P w = .ok (.bool false) w) {x : Int} (hx : (Lit.int .i64 x).wf = true) :
    (Instr.lookup t (.map (some b)) (.int .i64 x) false).run P w = .ok (.bool (decide (x ∈ ks))) w := by
  obtain ⟨_, D, ho, _, hD⟩ := h
  obtain ⟨v, ps, hrun, hv⟩ := ho.lookup (Maps.int_keyed hk) ht hz (plainElem_bool he false) (Maps.keyOf_int_mk hk hx)
  obtain ⟨y, rfl, hy⟩ := plainElem_bool_inv he hv
  have h2 : D.atKey (.int .i64 x) (.lit (.bool false)) = .lit (.bool y) := congrArg Prod.fst hy
  rw [(hD x hx).1] at h2
  rw [lit_bool_inj h2]
  exact hrun
theorem SetAt.len (h : SetAt P k e w b ks) (ht : P.underlying t = some (.map k e)) (ty : TypeId) : (Builtin.len_ #[t] ty #[.map (some b)]).run P w = .ok (.int .i64 ks.length) w := by
  obtain ⟨_, D, ho, hs, _⟩ := h
  have := ho.len ht ty
  rw [hs] at this
  exact this
theorem SetAt.put (h : SetAt P k e w b ks) (hk : P.underlying k = some (.int .i64)) (he : P.underlying e = some .bool) (ht : P.underlying t = some (.map k e)) (hn : ks.length < maxLen) {x : Int} (hx : (Lit.int .i64 x).wf = true) (hnew : x ∉ ks) :
    ∃ w', (Instr.mapUpdate t (.map (some b)) (.int .i64 x) (.bool true)).run P w = .ok () w' ∧ SetAt P k e w' b (ks ++ [x]) ∧ w.mapTurned w' b := by
  obtain ⟨hnd, D, ho, hs, hD⟩ := h
  obtain ⟨w', hrun, ho', hturn⟩ := ho.store (Maps.int_keyed hk) ht hn (Maps.keyOf_int_mk hk hx) (plainElem_bool he true)
  refine ⟨w', hrun, ⟨?_, D.put (.int .i64 x) (.lit (.bool true)), by simpa using ho', ?_, fun y hy => ?_⟩, hturn⟩
  · rw [List.nodup_append]
    exact ⟨hnd, by simp, fun a ha c hc => by simp at hc; subst hc; exact fun e => hnew (e ▸ ha)⟩
  · rw [Maps.size_put (ho.tidy (Maps.int_keyed hk)), (hD x hx).2]
    simp [hnew, hs]
  · by_cases e' : y = x
    · subst e'
      rw [Maps.atKey_put_same ho.isMap (isKey_int _), Maps.has_put_same ho.isMap (isKey_int _)]
      simp
    · have hne : (Lit.int .i64 y) ≠ .int .i64 x := fun h => e' (by injection h)
      rw [Maps.atKey_put_other hne, Maps.has_put_other hne, (hD y hy).1, (hD y hy).2]
      simp [e']
theorem SetAt.del (h : SetAt P k e w b ks) (hk : P.underlying k = some (.int .i64)) (_he : P.underlying e = some .bool) (ht : P.underlying t = some (.map k e)) {x : Int} (hx : (Lit.int .i64 x).wf = true) (ty : TypeId) (hin : x ∈ ks) :
    ∃ w', (Builtin.delete_ #[t, k] ty #[.map (some b), .int .i64 x]).run P w = .ok (.tuple #[]) w' ∧ SetAt P k e w' b (ks.erase x) ∧ w.mapTurned w' b := by
  obtain ⟨hnd, D, ho, hs, hD⟩ := h
  obtain ⟨w', hrun, ho', hturn⟩ := ho.drop (Maps.int_keyed hk) ht (Maps.keyOf_int_mk hk hx) ty
  have hsz := Maps.size_del (k := .int .i64 x) (ho.tidy (Maps.int_keyed hk))
  rw [(hD x hx).2, hs] at hsz
  have hl := List.length_erase_of_mem hin
  have hpos : 0 < ks.length := List.length_pos_of_mem hin
  simp only [hin, decide_true, if_true] at hsz
  have hsz' : Maps.size (D.del (.int .i64 x)) = (ks.erase x).length := by omega
  refine ⟨w', hrun, ⟨hnd.erase x, D.del (.int .i64 x), ?_, hsz', fun y hy => ?_⟩, hturn⟩
  · obtain ⟨es, clock, hb, F, _, hDD⟩ := ho'
    refine ⟨es, clock, hb, F, ?_, hDD⟩
    rw [← hsz', hDD]
    simp [Maps.size, length_sorted]
  · by_cases e' : y = x
    · subst e'
      rw [Maps.atKey_del_same, Maps.has_del_same]
      simp [hnd.mem_erase_iff]
    · have hne : (Lit.int .i64 y) ≠ .int .i64 x := fun h => e' (by injection h)
      rw [Maps.atKey_del_other hne, Maps.has_del_other hne, (hD y hy).1, (hD y hy).2]
      simp [hnd.mem_erase_iff, e']
/-! ### at the operation, for the walk -/
variable {ops : Array Oper} {rest : List Oper} {o : Oper} {a : Act} {Q : Exit → Act → World → Prop}
theorem wpList_set_put (hg : o.guard = none) (m x v : Operand) (t : TypeId) (hop : o.op = Op.mapUpdate t m x v) (hk : P.underlying k = some (.int .i64)) (he : P.underlying e = some .bool) (ht : P.underlying t = some (.map k e)) (n : Int)
    (hm : a.eval m = .map (some b)) (hx : a.eval x = .int .i64 n) (hv : a.eval v = .bool true) (h : SetAt P k e w b ks) (hl : ks.length < maxLen) (hw : (Lit.int .i64 n).wf = true) (hnew : n ∉ ks)
    (hK : ∀ w', SetAt P k e w' b (ks ++ [n]) → w.mapTurned w' b → wpList P ops Q rest (a.put o.dst undef) w') : wpList P ops Q (o :: rest) a w := by
  refine wpList_plain hg fun K' hK' => ?_
  obtain ⟨w', hrun, r1, r2⟩ := h.put hk he ht hl hw hnew
  unfold Oper.wp
  simp [execOp, hop, hm, hx, hv, hrun, Result.andThen]
  exact hK' _ _ (hK w' r1 r2)
theorem wpList_set_del (hg : o.guard = none) (m x : Operand) (t : TypeId) (hop : o.op = Op.call { callee := Callee.builtin Builtin.delete, args := #[m, x], argTypes := #[t, k] }) (hk : P.underlying k = some (.int .i64)) (he : P.underlying e = some .bool) (ht : P.underlying t = some (.map k e)) (n : Int)
    (hm : a.eval m = .map (some b)) (hx : a.eval x = .int .i64 n) (h : SetAt P k e w b ks) (hw : (Lit.int .i64 n).wf = true) (hin : n ∈ ks)
    (hK : ∀ w', SetAt P k e w' b (ks.erase n) → w.mapTurned w' b → wpList P ops Q rest (a.put o.dst (.tuple #[])) w') : wpList P ops Q (o :: rest) a w := by
  refine wpList_plain hg fun K' hK' => ?_
  obtain ⟨w', hrun, r1, r2⟩ := h.del hk he ht hw o.type hin
  unfold Oper.wp
  simp [execOp, hop, resolve, invoke, builtin, hm, hx, hrun, Result.andThen]
  exact hK' _ _ (hK w' r1 r2)
end
end Go.Proofs.Ytlfpkikmofgjfaa
