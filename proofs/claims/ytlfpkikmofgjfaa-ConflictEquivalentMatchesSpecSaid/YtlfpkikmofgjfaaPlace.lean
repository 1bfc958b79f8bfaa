/- Where the members of an order stand; and that edges lead forward. Plain words. -/
import Derived.Test.YtlfpkikmofgjfaaEqv
namespace Go.Proofs.Ytlfpkikmofgjfaa

/-- The place of x that is noted when the first k members have been gone through; 0 if there is none. -/
def plc (t : List Nat) : Nat → Nat → Nat
  | 0, _ => 0
  | k + 1, x => if x = t.getD k 0 then k else plc t k x
theorem plc_le (t : List Nat) (x : Nat) : ∀ k, plc t k x ≤ k
  | 0 => Nat.le_refl _
  | k + 1 => by
    unfold plc
    split
    · omega
    · have := plc_le t x k; omega
theorem plc_at {t : List Nat} (hn : t.Nodup) {p : Nat} : ∀ {k : Nat}, p < k → k ≤ t.length → plc t k (t.getD p 0) = p
  | 0, h, _ => by omega
  | k + 1, h, hk => by
    unfold plc
    by_cases e : p = k
    · rw [if_pos (by rw [e]), e]
    · rw [if_neg, plc_at hn (by omega) (by omega)]
      intro h2
      have h3 : t[p]'(by omega) = t[k]'(by omega) := by simpa [List.getD, List.getElem?_eq_getElem (show p < t.length by omega), List.getElem?_eq_getElem (show k < t.length by omega)] using h2
      exact List.pairwise_iff_getElem.1 hn p k (by omega) (by omega) (by omega) h3
theorem plc_lt {h : List Acc} {t : List Nat} (ho : Once h t) (hf : Fwd h t) {a b : Nat} (he : edgeB h a b = true) : plc t t.length a < plc t t.length b := by
  have e := edge_iff.1 he
  have hb : b ∈ t := (ho.mem b).2 e.dj
  obtain ⟨p, hp, hpb⟩ := List.mem_iff_getElem.1 hb
  have hsp : t = t.take p ++ b :: t.drop (p + 1) := by rw [← hpb, ← List.drop_eq_getElem_cons hp]; exact (List.take_append_drop p t).symm
  have ha := hf _ _ _ hsp a e
  obtain ⟨q, hq, hqa⟩ := List.mem_iff_getElem.1 ha
  have hqp : q < p := by simp at hq; omega
  have hqt : t[q]'(by omega) = a := by rw [← hqa]; simp
  have e1 : t.getD q 0 = a := by simp [List.getD, List.getElem?_eq_getElem (show q < t.length by omega), hqt]
  have e2 : t.getD p 0 = b := by simp [List.getD, List.getElem?_eq_getElem hp, hpb]
  rw [← e1, ← e2, plc_at ho.nodup (by omega) (Nat.le_refl _), plc_at ho.nodup hp (Nat.le_refl _)]
  exact hqp
theorem once_of_serial {h : List Acc} {t : List Nat} (e : serialL h = some t) : Once h t := by
  obtain ⟨_, ht, hl⟩ := serialL_taken e
  exact ⟨ht.nodup, fun i => ⟨ht.done i, fun hi => ht.all hl hi⟩⟩
theorem fwd_of_serial {h : List Acc} {t : List Nat} (e : serialL h = some t) : Fwd h t := by
  obtain ⟨_, ht, _⟩ := serialL_taken e
  exact fun a k b e i hi => ht.pred a k b e i (edge_iff.2 hi)
def natV (q : List Nat) : List Int := q.map fun i : Nat => (i : Int)
theorem natV_nat (q : List Nat) : (natV q).map Int.toNat = q := by
  unfold natV
  rw [List.map_map]
  conv => rhs; rw [← List.map_id q]
  exact List.map_congr_left fun x _ => by simp
theorem natV_nodup {q : List Nat} (h : q.Nodup) : (natV q).Nodup := by
  unfold natV
  induction q with
  | nil => simp
  | cons a l ih =>
    rw [List.nodup_cons] at h
    rw [List.map_cons, List.nodup_cons]
    refine ⟨fun hm => ?_, ih h.2⟩
    obtain ⟨y, hy, e⟩ := List.mem_map.1 hm
    have : a = y := by omega
    exact h.1 (this ▸ hy)
theorem equivL_of {h : List Acc} {t : List Nat} (hv : checkL h = 0) (ho : Once h t) (he : Equiv h t) : equivL h (natV t) = true := by
  have hf : Fine h (natV t) := ⟨fun x hx => by
    obtain ⟨y, hy, rfl⟩ := List.mem_map.1 hx
    have hd := (ho.mem y).1 hy
    have := tx_lt hd
    exact ⟨by omega, by omega, by simpa using hd⟩, natV_nodup ho.nodup⟩
  unfold equivL
  rw [decide_eq_true hv, once_of hf (fun i hi hd => List.mem_map.2 ⟨i, (ho.mem i).2 hd, rfl⟩), natV_nat, equivB_iff.2 he]
  rfl
theorem equivL_serial {h : List Acc} {t : List Nat} (e : serialL h = some t) : equivL h (natV t) = true := by
  have hv := (serialL_taken e).1
  exact equivL_of (checkL_zero.2 hv) (once_of_serial e) (equiv_of_fwd hv (once_of_serial e) (fwd_of_serial e))
/-- An equivalent order is one of places. -/
theorem equivL_back {h : List Acc} {o : List Int} (e : equivL h o = true) : ∃ t, o = natV t ∧ Valid h ∧ Once h t ∧ Equiv h t := by
  unfold equivL at e
  simp only [Bool.and_eq_true, decide_eq_true_eq] at e
  obtain ⟨⟨h1, h2⟩, h3⟩ := e
  obtain ⟨f, hall⟩ := fine_of_once h2
  refine ⟨o.map Int.toNat, ?_, checkL_zero.1 h1, ⟨f.nats, fun i => ⟨fun hi => ?_, fun hi => ?_⟩⟩, equivB_iff.1 h3⟩
  · unfold natV
    rw [List.map_map]
    conv => lhs; rw [← List.map_id o]
    exact List.map_congr_left fun x hx => by have := (f.ok x hx).1; simp; omega
  · obtain ⟨y, hy, rfl⟩ := List.mem_map.1 hi
    exact (f.ok y hy).2.2
  · exact List.mem_map.2 ⟨i, hall i hi, by simp⟩
end Go.Proofs.Ytlfpkikmofgjfaa
