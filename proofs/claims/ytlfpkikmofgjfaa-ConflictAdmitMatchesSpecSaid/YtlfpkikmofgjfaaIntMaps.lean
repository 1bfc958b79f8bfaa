/- A map from int to int that the call itself has made: what its look-ups, stores and its length come to, over whatever program. -/
import Derived.Maps.OwnSet
import Derived.WalkKit
namespace Go.Proofs.Ytlfpkikmofgjfaa
open Go.RowKit
open Go.Maps (Keyed)

section
variable {P : Program} {k e t : TypeId} {w : World} {b : Nat} {n : Nat} {f : Int → Option Int}

theorem isKey_int' (x : Int) : WideAt.IsKeyLit (.int .i64 x) := by
  unfold WideAt.IsKeyLit
  trivial
/-- f, with y at x. -/
def upd (f : Int → Option Int) (x y : Int) : Int → Option Int := fun z => if z = x then some y else f z
/-- Block b is the map f, of n elements. -/
def MapAt (P : Program) (k e : TypeId) (w : World) (b n : Nat) (f : Int → Option Int) : Prop :=
  ∃ D : DataW Unit, w.ownsMap P k (plainElem P e) b n D ∧ Maps.size D = n ∧
    (∀ x : Int, (Lit.int .i64 x).wf = true → D.atKey (.int .i64 x) (.lit (.int .i64 0)) = .lit (.int .i64 ((f x).getD 0)) ∧ Maps.has D (.int .i64 x) = (f x).isSome)
theorem lit_int_inj {H : Type} {x y : Int} (h : (DataW.lit (.int .i64 x) : DataW H) = .lit (.int .i64 y)) : x = y := by injection h with h; injection h
theorem MapAt.made (w : World) (P : Program) (k e : TypeId) : MapAt P k e (w.alloc (.map #[] 0)) w.heap.size 0 (fun _ => none) :=
  ⟨.map [], World.ownsMap_made w P k _, rfl, fun x _ => by
    refine ⟨?_, rfl⟩
    simp [DataW.atKey]⟩
theorem MapAt.kept {w' : World} (h : MapAt P k e w b n f) (hb : w'.heap[b]? = w.heap[b]?) : MapAt P k e w' b n f := by
  obtain ⟨D, ⟨es, clock, hblk, r⟩, hs, hx⟩ := h
  exact ⟨D, ⟨es, clock, hb.trans hblk, r⟩, hs, hx⟩
theorem MapAt.lt (h : MapAt P k e w b n f) : b < w.heap.size := by
  obtain ⟨D, ho, _⟩ := h
  exact ho.lt
theorem MapAt.look (h : MapAt P k e w b n f) (hk : P.underlying k = some (.int .i64)) (he : P.underlying e = some (.int .i64)) (ht : P.underlying t = some (.map k e)) (hz : (zeroValue e).run P w = .ok (.int .i64 0) w) {x : Int} (hx : (Lit.int .i64 x).wf = true) :
    (Instr.lookup t (.map (some b)) (.int .i64 x) false).run P w = .ok (.int .i64 ((f x).getD 0)) w := by
  obtain ⟨D, ho, _, hD⟩ := h
  obtain ⟨v, ps, hrun, hv⟩ := ho.lookup (Maps.int_keyed hk) ht hz (plainElem_int he (by decide)) (Maps.keyOf_int_mk hk hx)
  obtain ⟨y, rfl, hy, _⟩ := plainElem_int_inv he hv
  have h2 : D.atKey (.int .i64 x) (.lit (.int .i64 0)) = .lit (.int .i64 y) := congrArg Prod.fst hy
  rw [(hD x hx).1] at h2
  rw [lit_int_inj h2]
  exact hrun
theorem MapAt.len (h : MapAt P k e w b n f) (ht : P.underlying t = some (.map k e)) (ty : TypeId) : (Builtin.len_ #[t] ty #[.map (some b)]).run P w = .ok (.int .i64 n) w := by
  obtain ⟨D, ho, hs, _⟩ := h
  have := ho.len ht ty
  rw [hs] at this
  exact this
theorem MapAt.put (h : MapAt P k e w b n f) (hk : P.underlying k = some (.int .i64)) (he : P.underlying e = some (.int .i64)) (ht : P.underlying t = some (.map k e)) (hn : n < maxLen) {x y : Int} (hx : (Lit.int .i64 x).wf = true) (hy : (Lit.int .i64 y).wf = true) :
    ∃ w' n', (Instr.mapUpdate t (.map (some b)) (.int .i64 x) (.int .i64 y)).run P w = .ok () w' ∧ MapAt P k e w' b n' (upd f x y) ∧ n' = (if (f x).isSome then n else n + 1) ∧ w.mapTurned w' b := by
  obtain ⟨D, ho, hs, hD⟩ := h
  obtain ⟨w', hrun, ho', hturn⟩ := ho.store (Maps.int_keyed hk) ht hn (Maps.keyOf_int_mk hk hx) (plainElem_int he hy)
  obtain ⟨es, clock, hb, F, h1, hDD⟩ := ho'
  have hsz := Maps.size_put (k := .int .i64 x) (d := .lit (.int .i64 y)) (ho.tidy (Maps.int_keyed hk))
  rw [(hD x hx).2, hs] at hsz
  refine ⟨w', if (f x).isSome then n else n + 1, hrun, ⟨D.put (.int .i64 x) (.lit (.int .i64 y)), ⟨es, clock, hb, F, ?_, hDD⟩, hsz, fun z hz => ?_⟩, rfl, hturn⟩
  · rw [← hsz, hDD]
    simp [Maps.size, length_sorted]
  · unfold upd
    by_cases e' : z = x
    · subst e'
      rw [Maps.atKey_put_same ho.isMap (isKey_int' _), Maps.has_put_same ho.isMap (isKey_int' _)]
      simp
    · have hne : (Lit.int .i64 z) ≠ .int .i64 x := fun h => e' (by injection h)
      rw [Maps.atKey_put_other hne, Maps.has_put_other hne, (hD z hz).1, (hD z hz).2]
      simp [e']
/-! ### at the operation, for the walk -/
variable {ops : Array Oper} {rest : List Oper} {o : Oper} {a : Act} {Q : Exit → Act → World → Prop}
theorem wpList_map_put (hg : o.guard = none) (m x v : Operand) (t : TypeId) (hop : o.op = Op.mapUpdate t m x v) (hk : P.underlying k = some (.int .i64)) (he : P.underlying e = some (.int .i64)) (ht : P.underlying t = some (.map k e)) (i j : Int)
    (hm : a.eval m = .map (some b)) (hx : a.eval x = .int .i64 i) (hv : a.eval v = .int .i64 j) (h : MapAt P k e w b n f) (hl : n < maxLen) (hw : (Lit.int .i64 i).wf = true) (hw' : (Lit.int .i64 j).wf = true)
    (hK : ∀ w' n', MapAt P k e w' b n' (upd f i j) → n' = (if (f i).isSome then n else n + 1) → w.mapTurned w' b → wpList P ops Q rest (a.put o.dst undef) w') : wpList P ops Q (o :: rest) a w := by
  refine wpList_plain hg fun K' hK' => ?_
  obtain ⟨w', n', hrun, r1, r2, r3⟩ := h.put hk he ht hl hw hw'
  unfold Oper.wp
  simp [execOp, hop, hm, hx, hv, hrun, Result.andThen]
  exact hK' _ _ (hK w' n' r1 r2 r3)
end
end Go.Proofs.Ytlfpkikmofgjfaa
