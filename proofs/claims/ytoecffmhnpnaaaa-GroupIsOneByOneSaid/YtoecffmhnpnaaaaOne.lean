/- The walk of GroupIsOneByOne. -/
import Derived.Test.YtoecffmhnpnaaaaArgs
import Derived.Outline
namespace Go.Proofs.Ytoecffmhnpnaaaa
open Go.RowKit

theorem Reps.keptAt {w w' : World} {base : Nat} {v : Value} {rs : List (Int × Int)} (h : Reps w base v rs) (hk : ∀ b, v.ownBlock = some b → w'.heap[b]? = w.heap[b]?) : Reps w' base v rs := by
  obtain ⟨⟨hl, h⟩, hn⟩ := h
  refine ⟨⟨hl, ?_⟩, hn⟩
  rcases h with h | ⟨g, cap, cur, h1, h2, h3, h4⟩
  · exact .inl h
  · exact .inr ⟨g, cap, cur, h1, h2, (hk g (by rw [h1]; rfl)).trans h3, h4⟩
/-- Two groups and two lists of reports beside each other, made since w0. -/
structure Duo (w0 wr : World) (F G : Nat → Prop) (g h : Nat) (S T : Gr) (va vb : Value) (ra rb : List (Int × Int)) : Prop where
  two : Two w0 wr F G g h S T
  a : Reps wr w0.heap.size va ra
  b : Reps wr w0.heap.size vb rb
  aa : ∀ q, va.ownBlock = some q → Away wr F G q
  ab : ∀ q, vb.ownBlock = some q → Away wr F G q
  ne : ∀ q, va.ownBlock = some q → vb.ownBlock ≠ some q
section
variable {w0 wr w1 : World} {F F' G G' : Nat → Prop} {g h : Nat} {S S' T T' : Gr} {va vb : Value} {ra rb : List (Int × Int)}
theorem Duo.turnG (t : Duo w0 wr F G g h S T va vb ra rb) (k : Turn wr w1 F F') (hg : Grp w1 F' g S') : Duo w0 w1 F' G g h S' T va vb ra rb :=
  ⟨t.two.turnG k hg, t.a.keptAt fun q hq => ((t.aa q hq).turnG k).2, t.b.keptAt fun q hq => ((t.ab q hq).turnG k).2, fun q hq => ((t.aa q hq).turnG k).1, fun q hq => ((t.ab q hq).turnG k).1, t.ne⟩
theorem Duo.turnH (t : Duo w0 wr F G g h S T va vb ra rb) (k : Turn wr w1 G G') (hh : Grp w1 G' h T') : Duo w0 w1 F G' g h S T' va vb ra rb :=
  ⟨t.two.turnH k hh, t.a.keptAt fun q hq => ((t.aa q hq).turnH k).2, t.b.keptAt fun q hq => ((t.ab q hq).turnH k).2, fun q hq => ((t.aa q hq).turnH k).1, fun q hq => ((t.ab q hq).turnH k).1, t.ne⟩
theorem Duo.drewN (t : Duo w0 wr F G g h S T va vb ra rb) (n : Nat) : Duo w0 (wr.drewN n) F G g h S T va vb ra rb := t.turnG ((Turn.refl wr F).drewN n) (t.two.gg.drewN n)
theorem Duo.alloc (t : Duo w0 wr F G g h S T va vb ra rb) (o : Obj) : Duo w0 (wr.alloc o) F G g h S T va vb ra rb := t.turnG ((Turn.refl wr F).alloc o) (t.two.gg.kept ((Only.refl wr (fun _ => False)).alloc o) (fun _ _ h => h))
theorem Duo.swap (t : Duo w0 wr F G g h S T va vb ra rb) : Duo w0 wr G F h g T S vb va rb ra :=
  ⟨⟨t.two.below, t.two.hh, t.two.gg, t.two.gl, t.two.fl, fun b h1 h2 => t.two.dis b h2 h1⟩, t.b, t.a, fun q hq => ⟨(t.ab q hq).g, (t.ab q hq).f, (t.ab q hq).lt⟩, fun q hq => ⟨(t.aa q hq).g, (t.aa q hq).f, (t.aa q hq).lt⟩, fun q h1 h2 => t.ne q h2 h1⟩
theorem Two.other (t : Two w0 wr F G g h S T) {P : Nat → Prop} (k : Only wr w1 P) (h1 : ∀ b, P b → ¬ F b) (h2 : ∀ b, P b → ¬ G b) (h3 : ∀ b, P b → w0.heap.size ≤ b) : Two w0 w1 F G g h S T :=
  ⟨t.below.trans (k.below h3 t.below.size), t.gg.kept k (fun b hb hp => h1 b hp hb), t.hh.kept k (fun b hb hp => h2 b hp hb), t.fl, t.gl, t.dis⟩
/-- The list of reports has grown. -/
theorem Duo.grow (t : Duo w0 wr F G g h S T va vb ra rb) {v1 : Value} {ra' : List (Int × Int)} (k : wr.grownBy w1 va.ownBlock) (ha : Reps w1 w0.heap.size v1 ra') (hv : v1.ownBlock = va.ownBlock ∨ v1.ownBlock = some wr.heap.size) (hlt : ∀ q, v1.ownBlock = some q → q < w1.heap.size) :
    Duo w0 w1 F G g h S T v1 vb ra' rb := by
  have ho : Only wr w1 (fun b => va.ownBlock = some b) := (Only.refl wr _).grown k (fun q hq => .inl hq)
  have hs := ho.size
  refine ⟨t.two.other ho (fun q hq => (t.aa q hq).f) (fun q hq => (t.aa q hq).g) (fun q hq => ?_), ha, t.b.keptAt fun q hq => ho.block q (t.ab q hq).lt (fun e => t.ne q e hq), fun q hq => ?_, fun q hq => ⟨(t.ab q hq).f, (t.ab q hq).g, by have := (t.ab q hq).lt; omega⟩, fun q hq => ?_⟩
  · exact (t.a.1.lt q hq).1
  · rcases hv with e | e
    · rw [e] at hq
      exact ⟨(t.aa q hq).f, (t.aa q hq).g, by have := (t.aa q hq).lt; omega⟩
    · rw [e] at hq
      obtain rfl := Option.some.inj hq
      exact ⟨fun h => by have := t.two.gg.lt _ h; omega, fun h => by have := t.two.hh.lt _ h; omega, hlt _ e⟩
  · rcases hv with e | e
    · rw [e] at hq
      exact t.ne q hq
    · rw [e] at hq
      obtain rfl := Option.some.inj hq
      intro e'
      have := (t.ab _ e').lt
      omega
end
section
variable {P : Program} {ops : Array Oper} {rest : List Oper} {o : Oper} {a : Act} {Q : Exit → Act → World → Prop}
/-- 'append(v, l...)', l a list of reports that Done has returned. -/
theorem wpList_app_reps (W : World) (base base' : Nat) (hgd : o.guard = none) (s x : Operand) (ho : o.op = .call { callee := .builtin .append, args := #[s, x], argTypes := #[28, 28] })
    (v u : Value) (rs news : List (Int × Int)) (hs : a.eval s = v) (hx : a.eval x = u) (hv : Reps W base v rs) (hu : Reps W base' u news) (hpos : 0 < news.length) (hn : rs.length + news.length ≤ 1000000) (hbase : base ≤ W.heap.size)
    (hK : ∀ v1 w1, Reps w1 base v1 (rs ++ news) → W.grownBy w1 v.ownBlock → (v1.ownBlock = v.ownBlock ∨ v1.ownBlock = some W.heap.size) → wpList Try.prog ops Q rest (a.put o.dst v1) w1) :
    wpList Try.prog ops Q (o :: rest) a W := by
  obtain ⟨i0, hi, hz0, hz1, hz2⟩ := info_parts info65
  obtain ⟨⟨hl, hu'⟩, _⟩ := hu
  rcases hu' with ⟨_, h0⟩ | ⟨q, cap, cur, rfl, h2, h3, h4, h5, h6, h7⟩
  · omega
  · refine wpList_append_own_at W hgd s x 28 ho base 65 i0 (.agg #[.int .i64 0, .int .i64 0]) 2 16 Try.underlying28 hi hz0 hz1 hz2 rfl (by omega) v rs.length _ hs hv.1 ⟨q, 0, none⟩ news.length cap _ hx hl (fun j y hj => ?_) ?_ (by simp only [maxLen]; omega) (by omega) hbase (fun v1 w1 g1 g2 g3 g4 => hK v1 w1 ⟨by simpa [List.flatMap_append] using g1, fun e => ?_⟩ g2 g4)
    · have hjl : j < news.length * 2 := by rw [← hl]; exact (List.getElem?_eq_some_iff.1 hj).1
      have ha : (⟨q, 0, none⟩ : Addr).add j = ⟨q, j, none⟩ := by unfold Addr.add; split <;> simp_all
      rw [ha]
      rw [← h7, List.getElem?_take, if_pos hjl] at hj
      simpa [World.cell?, h3] using hj
    · intro y hy
      simp only [List.mem_flatMap] at hy
      obtain ⟨r, _, hy⟩ := hy
      simp at hy
      rcases hy with rfl | rfl <;> rfl
    · rw [List.append_eq_nil_iff] at e
      rw [e.2] at hpos
      simp at hpos
end
/-- The numbers from n to k. -/
def nums (n k : Nat) : List Int := (List.range' n (k - n)).map fun (i : Nat) => (i : Int)
theorem nums_length (n k : Nat) : (nums n k).length = k - n := by simp [nums]
theorem nums_take {n k m : Nat} (h : n + m ≤ k) : (nums n k).take m = nums n (n + m) := by
  apply List.ext_getElem
  · simp [nums]; omega
  · intro i h1 h2
    simp [nums]
theorem nums_drop {n k m : Nat} : (nums n k).drop m = nums (n + m) k := by
  apply List.ext_getElem
  · simp [nums]; omega
  · intro i h1 h2
    simp [nums]
    omega
theorem nums_snoc {n k : Nat} (h : n ≤ k) : nums n k ++ [(k : Int)] = nums n (k + 1) := by
  unfold nums
  rw [show k + 1 - n = (k - n) + 1 by omega, List.range'_concat, List.map_append]
  simp
  omega
theorem nums_nil (n : Nat) : nums n n = [] := by simp [nums]
/-- The reports of the transactions 0, 1, .., with the stamps 1, 2, ... -/
def reports (n : Nat) : List (Int × Int) := (List.range n).map fun (i : Nat) => ((i : Int), (i : Int) + 1)
theorem reports_more (n m : Nat) : reports n ++ repsOf (1 + n) (nums n (n + m)) = reports (n + m) := by
  induction m with
  | zero => simp [nums_nil, repsOf]
  | succ m ih =>
    rw [show n + (m + 1) = (n + m) + 1 by omega, ← nums_snoc (by omega)]
    unfold repsOf at ih ⊢
    rw [List.zipIdx_append, List.map_append, ← List.append_assoc, ih, nums_length]
    unfold reports
    rw [List.range_succ, List.map_append]
    simp
    omega
/-- A group whose transactions 0 to n have been reported, and n to k wait. -/
structure Seq (S : Gr) (n k : Nat) : Prop where
  is : S.is = false
  txs : S.txs = []
  stamp : S.stamp = 1 + n
  waits : S.waits = nums n k
  le : n ≤ k
  tick : ∀ x, x ∈ S.l → x.tick ≤ 60
  delay : S.delay ≤ 31
theorem Seq.len {S : Gr} {n k : Nat} (s : Seq S n k) : S.l.length = k - n := by
  have := congrArg List.length s.waits
  rw [nums_length] at this
  simpa [Gr.waits] using this
theorem Seq.code {S : Gr} {n k : Nat} (s : Seq S n k) {words : Int} (hk : k ≤ 60) (h1 : 1 ≤ words) (h2 : words ≤ S.room) : S.askCode k words k = 0 := by
  have hl := s.len
  have hst := s.stamp
  have hle := s.le
  unfold Gr.askCode
  rw [if_neg (by omega), if_neg, if_neg (by omega)]
  rintro (h | h)
  · rw [s.waits] at h
    simp only [nums, List.mem_map, List.mem_range'] at h
    obtain ⟨x, ⟨i, hi, rfl⟩, e⟩ := h
    omega
  · rw [s.txs] at h; cases h
theorem Seq.asked {S : Gr} {n k : Nat} (s : Seq S n k) {words : Int} (hk : k ≤ 60) (h1 : 1 ≤ words) (h2 : words ≤ S.room) : Seq (S.askNext k words k) n (k + 1) ∧ (S.askNext k words k).room = S.room ∧ (S.askNext k words k).most = S.most ∧ (S.askNext k words k).delay = S.delay := by
  unfold Gr.askNext
  rw [if_pos (s.code hk h1 h2)]
  refine ⟨⟨s.is, s.txs, s.stamp, ?_, by have := s.le; omega, fun x hx => ?_, s.delay⟩, rfl, rfl, rfl⟩
  · show (S.l ++ [_]).map _ = _
    rw [List.map_append, ← nums_snoc s.le, ← s.waits]
    rfl
  · rcases List.mem_append.1 (show x ∈ S.l ++ [(⟨k, words, k⟩ : Rd)] from hx) with h | h
    · exact s.tick x h
    · simp at h; subst h; simp; omega
/-- What a cut and Done come to. -/
theorem Seq.cut {S : Gr} {n k : Nat} {t : Int} (s : Seq S n k) (hO : S.Ok) (hd : S.due t = true) : ∃ m, 0 < m ∧ n + m ≤ k ∧ Seq (S.cutNext t).closed (n + m) k ∧ (S.cutNext t).bf = 1 + n ∧ (S.cutNext t).txs = nums n (n + m) ∧ (S.cutNext t).closed.room = S.room ∧ (S.cutNext t).closed.most = S.most ∧ (S.cutNext t).closed.delay = S.delay ∧ m = S.front := by
  have hne := (Gr.due_ne hd).1
  have hp := Gr.front_pos hO hne
  have hle := S.front_le
  have hl := s.len
  have hsl := s.le
  unfold Gr.cutNext
  rw [if_pos hd]
  refine ⟨S.front, by omega, by omega, ⟨rfl, rfl, ?_, ?_, by omega, fun x hx => s.tick x (List.mem_of_mem_drop hx), s.delay⟩, ?_, ?_, rfl, rfl, rfl, rfl⟩
  · show S.stamp + S.front = _
    rw [s.stamp]; omega
  · show (S.l.drop S.front).map _ = _
    rw [List.map_drop, ← nums_drop, ← s.waits]
    rfl
  · show S.stamp = _
    exact s.stamp
  · show S.waits.take S.front = _
    rw [s.waits, nums_take (by omega)]
theorem Seq.end {S : Gr} {n k : Nat} (s : Seq S n k) (hd : S.due 1000 = false) : n = k := by
  have hl := s.len
  have hsl := s.le
  apply Classical.byContradiction
  intro hne
  unfold Gr.due at hd
  rw [s.is] at hd
  have ht := s.tick
  have hdl := s.delay
  cases hx : S.l with
  | nil => rw [hx] at hl; simp at hl; omega
  | cons y l =>
    rw [hx] at hd ht
    simp only [Bool.not_false, Bool.true_and, decide_eq_false_iff_not] at hd
    have := ht y List.mem_cons_self
    omega
end Go.Proofs.Ytoecffmhnpnaaaa
