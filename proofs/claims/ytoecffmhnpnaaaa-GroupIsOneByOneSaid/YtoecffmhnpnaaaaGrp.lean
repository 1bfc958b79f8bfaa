/- A group commit: what it holds, as plain data, and how it lies in memory. -/
import Derived.Test.YtoecffmhnpnaaaaProg
import Derived.Test.YtoecffmhnpnaaaaHeap
import Derived.Test.YtoecffmhnpnaaaaSets
namespace Go.Proofs.Ytoecffmhnpnaaaa
open Go.RowKit

/-- A waiting transaction: its number, its words, its tick. -/
structure Rd where
  tx : Int
  words : Int
  tick : Int
/-- A group: its limits, the next stamp, what waits, and the open batch. -/
structure Gr where
  most : Int
  room : Int
  delay : Int
  stamp : Int
  l : List Rd
  is : Bool
  bf : Int
  txs : List Int
/-- The length of the front, from n transactions and s words on. -/
def frontFrom (most room : Int) : Int → Int → List Rd → Nat
  | _, _, [] => 0
  | n, s, x :: l => if n < most ∧ s + x.words ≤ room then frontFrom most room (n + 1) (s + x.words) l + 1 else 0
def Gr.front (S : Gr) : Nat := frontFrom S.most S.room 0 0 S.l
theorem frontFrom_le (most room : Int) : ∀ (l : List Rd) (n s : Int), frontFrom most room n s l ≤ l.length
  | [], _, _ => by simp [frontFrom]
  | x :: l, n, s => by
    unfold frontFrom
    split
    · simp; exact frontFrom_le most room l _ _
    · omega
theorem Gr.front_le (S : Gr) : S.front ≤ S.l.length := frontFrom_le _ _ _ _ _
/-- What the numbers of a group keep to. -/
structure Gr.Ok (S : Gr) : Prop where
  most : 1 ≤ S.most ∧ S.most ≤ 64
  room : 1 ≤ S.room ∧ S.room ≤ 1048576
  delay : 0 ≤ S.delay ∧ S.delay ≤ 1048576
  stamp : 1 ≤ S.stamp ∧ S.stamp + S.l.length ≤ 1073741825
  l : ∀ x ∈ S.l, 1 ≤ x.words ∧ x.words ≤ S.room ∧ 0 ≤ x.tick ∧ x.tick ≤ 1099511627776 ∧ (Lit.int .i64 x.tx).wf = true
  nodup : (S.l.map (·.tx)).Nodup
  bf : 0 ≤ S.bf ∧ S.bf ≤ 1073741824
  txs : S.txs.length ≤ 64

/-- The pointer to node k of a chain of blocks; nil behind the last. -/
def ptrAt (bs : List Nat) (k : Nat) : Value := .pointer ((bs[k]?).map fun b => ⟨b, 0, none⟩)
theorem ptrAt_in {bs : List Nat} {k b : Nat} (h : bs[k]? = some b) : ptrAt bs k = .pointer (some ⟨b, 0, none⟩) := by simp [ptrAt, h]
theorem ptrAt_out {bs : List Nat} {k : Nat} (h : bs.length ≤ k) : ptrAt bs k = .pointer none := by simp [ptrAt, h]
/-- Node k of the chain. -/
def nodeAt (bs : List Nat) (k : Nat) (x : Rd) : Array Value := #[.int .i64 x.tx, .int .i64 x.words, .int .i64 x.tick, ptrAt bs (k + 1)]
/-- A group in memory: its struct in block g, its set of waiting numbers in mb, its chain in bs; all of it in F. -/
structure Rep (w : World) (F : Nat → Prop) (g mb : Nat) (bs : List Nat) (S : Gr) : Prop where
  v : ∃ v, Cells w g 63 #[.int .i64 S.most, .int .i64 S.room, .int .i64 S.delay, .int .i64 S.stamp, ptrAt bs 0, .map (some mb), .bool S.is, .int .i64 S.bf, v] ∧ Nums w v S.txs (fun b => F b ∧ b ≠ g ∧ b ≠ mb ∧ b ∉ bs)
  len : bs.length = S.l.length
  nodes : ∀ k b x, bs[k]? = some b → S.l[k]? = some x → Cells w b 69 (nodeAt bs k x)
  nodup : bs.Nodup
  set : SetAt Try.prog 3 4 w mb (S.l.map (·.tx))
  fg : F g
  fm : F mb
  fb : ∀ b ∈ bs, F b
theorem Rep.kept {w w' : World} {F : Nat → Prop} {g mb : Nat} {bs : List Nat} {S : Gr} (h : Rep w F g mb bs S) (hs : w.heap.size ≤ w'.heap.size) (hk : ∀ b, F b → b < w.heap.size → w'.heap[b]? = w.heap[b]?) : Rep w' F g mb bs S := by
  obtain ⟨⟨v, hv, hn⟩, h1, h2, h3, h4, h5, h6, h7⟩ := h
  refine ⟨⟨v, hv.kept (hk g h5 hv.lt), hn.kept hs fun b hb hlt => ⟨hb, hk b hb.1 hlt⟩⟩, h1, fun k b x hb hx => ?_, h3, h4.kept (hk mb h6 h4.lt), h5, h6, h7⟩
  have hc := h2 k b x hb hx
  exact hc.kept (hk b (h7 b (List.mem_of_getElem? hb)) hc.lt)
theorem Rep.drewN {w : World} {F : Nat → Prop} {g mb : Nat} {bs : List Nat} {S : Gr} (h : Rep w F g mb bs S) (n : Nat) : Rep (w.drewN n) F g mb bs S := h.kept (Nat.le_refl _) fun _ _ _ => rfl
theorem Rep.only {w w' : World} {F G : Nat → Prop} {g mb : Nat} {bs : List Nat} {S : Gr} (h : Rep w F g mb bs S) (ho : Only w w' G) (hd : ∀ b, F b → ¬ G b) : Rep w' F g mb bs S := h.kept ho.size fun b hb hlt => ho.block b hlt (hd b hb)
theorem SetAt.blk {P : Program} {k e : TypeId} {w : World} {b : Nat} {ks : List Int} (h : SetAt P k e w b ks) : ∃ es c, w.heap[b]? = some (.map es c) := by
  obtain ⟨_, D, ⟨es, c, hb, _⟩, _⟩ := h
  exact ⟨es, c, hb⟩
theorem Rep.g_ne_m {w : World} {F : Nat → Prop} {g mb : Nat} {bs : List Nat} {S : Gr} (h : Rep w F g mb bs S) : mb ≠ g := by
  rintro rfl
  obtain ⟨v, hv, _⟩ := h.v
  obtain ⟨es, c, hb⟩ := h.set.blk
  have := (show w.heap[mb]? = _ from hv).symm.trans hb
  simp at this
theorem Rep.g_ne_b {w : World} {F : Nat → Prop} {g mb : Nat} {bs : List Nat} {S : Gr} (h : Rep w F g mb bs S) {b : Nat} (hb : b ∈ bs) : b ≠ g := by
  obtain ⟨v, hv, _⟩ := h.v
  obtain ⟨k, hk, rfl⟩ := List.mem_iff_getElem.1 hb
  have hx : k < S.l.length := by rw [← h.len]; exact hk
  exact (h.nodes k bs[k] S.l[k] (List.getElem?_eq_getElem hk) (List.getElem?_eq_getElem hx)).other hv (by decide)
theorem Rep.m_ne_b {w : World} {F : Nat → Prop} {g mb : Nat} {bs : List Nat} {S : Gr} (h : Rep w F g mb bs S) {b : Nat} (hb : b ∈ bs) : b ≠ mb := by
  obtain ⟨k, hk, rfl⟩ := List.mem_iff_getElem.1 hb
  have hx : k < S.l.length := by rw [← h.len]; exact hk
  have hc := h.nodes k bs[k] S.l[k] (List.getElem?_eq_getElem hk) (List.getElem?_eq_getElem hx)
  obtain ⟨es, c, hm⟩ := h.set.blk
  intro e
  rw [← e] at hm
  have := (show w.heap[bs[k]]? = _ from hc).symm.trans hm
  simp at this
/-- The struct alone has turned. -/
theorem Rep.regroup {w w' : World} {F : Nat → Prop} {g mb : Nat} {bs : List Nat} {S S' : Gr} (h : Rep w F g mb bs S) (hk : ∀ b, b ≠ g → b < w.heap.size → w'.heap[b]? = w.heap[b]?) (hl : S'.l = S.l) {v' : Value}
    (hc : Cells w' g 63 #[.int .i64 S'.most, .int .i64 S'.room, .int .i64 S'.delay, .int .i64 S'.stamp, ptrAt bs 0, .map (some mb), .bool S'.is, .int .i64 S'.bf, v']) (hn : Nums w' v' S'.txs (fun b => F b ∧ b ≠ g ∧ b ≠ mb ∧ b ∉ bs)) : Rep w' F g mb bs S' := by
  refine ⟨⟨v', hc, hn⟩, by rw [hl]; exact h.len, fun k b x hb hx => ?_, h.nodup, by rw [hl]; exact h.set.kept (hk mb h.g_ne_m h.set.lt), h.fg, h.fm, h.fb⟩
  rw [hl] at hx
  have := h.nodes k b x hb hx
  exact this.kept (hk b (h.g_ne_b (List.mem_of_getElem? hb)) this.lt)
end Go.Proofs.Ytoecffmhnpnaaaa
