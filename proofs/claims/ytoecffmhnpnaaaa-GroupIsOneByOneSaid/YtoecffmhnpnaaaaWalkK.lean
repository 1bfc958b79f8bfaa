/- The group's methods, each with one word for what it leaves: the group as data, its footprint, what else may have changed. -/
import Derived.Test.YtoecffmhnpnaaaaWalkJ
namespace Go.Proofs.Ytoecffmhnpnaaaa
open Go.RowKit

/-- The group at g is S; its blocks are those of F. -/
structure Grp (w : World) (F : Nat → Prop) (g : Nat) (S : Gr) : Prop where
  rep : ∃ mb bs, Rep w F g mb bs S
  ok : S.Ok
  lt : ∀ b, F b → b < w.heap.size
/-- Only F's blocks and new ones have changed; the new footprint holds old blocks of F and new ones. -/
structure Turn (w w' : World) (F F' : Nat → Prop) : Prop where
  only : Only w w' F
  foot : ∀ b, F' b → F b ∨ w.heap.size ≤ b
section
variable {w w' w'' : World} {F F' F'' G : Nat → Prop} {g : Nat} {S : Gr}
theorem Turn.refl (w : World) (F : Nat → Prop) : Turn w w F F := ⟨Only.refl w F, fun _ h => .inl h⟩
theorem Turn.below (h : Below w.heap.size w w') (F : Nat → Prop) : Turn w w' F F := ⟨Only.of_below h F, fun _ h => .inl h⟩
theorem Turn.trans (h : Turn w w' F F') (k : Turn w' w'' F' F'') : Turn w w'' F F'' :=
  ⟨h.only.trans k.only fun b hb hF => by rcases h.foot b hF with h | h; exact h; omega, fun b hb => by
    rcases k.foot b hb with hb | hb
    · exact h.foot b hb
    · have := h.only.size; exact .inr (by omega)⟩
theorem Turn.apart (h : Turn w w' F F') (hG : ∀ b, G b → b < w.heap.size) (hd : ∀ b, F b → ¬ G b) : ∀ b, F' b → ¬ G b := fun b hb hg => by
  rcases h.foot b hb with hb | hb
  · exact hd b hb hg
  · have := hG b hg; omega
theorem Grp.kept (h : Grp w F g S) (ho : Only w w' G) (hd : ∀ b, F b → ¬ G b) : Grp w' F g S := by
  obtain ⟨⟨mb, bs, hr⟩, h1, h2⟩ := h
  exact ⟨⟨mb, bs, hr.only ho hd⟩, h1, fun b hb => Nat.lt_of_lt_of_le (h2 b hb) ho.size⟩
theorem Grp.below (h : Grp w F g S) (hb : Below w.heap.size w w') : Grp w' F g S := h.kept (Only.of_below hb (fun _ => False)) (fun _ _ h => h)
theorem Grp.drewN (h : Grp w F g S) (n : Nat) : Grp (w.drewN n) F g S := h.kept (Only.of_drewN w n (fun _ => False)) (fun _ _ h => h)
theorem Grp.lt_g (h : Grp w F g S) : g < w.heap.size := by
  obtain ⟨mb, bs, hr⟩ := h.rep
  exact h.lt g hr.fg
theorem Grp.fg (h : Grp w F g S) : F g := by
  obtain ⟨mb, bs, hr⟩ := h.rep
  exact hr.fg

theorem g_new (most room delay next : Int) (w : World) (h : okNew most room delay next) :
    Calls Try.prog 8 #[.int .i64 most, .int .i64 room, .int .i64 delay, .int .i64 next] w fun e w' => ∃ g, e = .returned (.pointer (some ⟨g, 0, none⟩)) ∧ (∃ F, Grp w' F g (newGr most room delay next) ∧ ∀ b, F b → w.heap.size ≤ b) ∧ Below w.heap.size w w' := by
  refine (new_yes most room delay next w h).mono ?_
  rintro e w1 ⟨rfl, hr, hb⟩
  exact ⟨_, rfl, ⟨_, ⟨⟨_, _, hr⟩, newGr_ok h, fun b hb => hb.2⟩, fun b hb => hb.1⟩, hb⟩
theorem asked_ok {tx words tick : Int} (hO : S.Ok) (hx : (Lit.int .i64 tx).wf = true) (h : S.askCode tx words tick = 0) : (S.asked tx words tick).Ok := by
  have hA : ¬ (words < 1 ∨ tick < 0 ∨ 1099511627776 < tick) ∧ tx ∉ S.waits ∧ tx ∉ S.txs ∧ ¬ S.room < words ∧ ¬ 1073741824 < S.stamp + S.l.length := by
    unfold Gr.askCode at h
    split at h
    · omega
    · split at h
      · omega
      · split at h
        · omega
        · rename_i h1 h2 h3
          exact ⟨h1, fun k => h2 (.inl k), fun k => h2 (.inr k), fun k => h3 (.inl k), fun k => h3 (.inr k)⟩
  obtain ⟨h1, h2, h3, h4, h5⟩ := hA
  have hs := hO.stamp
  refine ⟨hO.most, hO.room, hO.delay, ⟨hs.1, ?_⟩, ?_, ?_, hO.bf, hO.txs⟩
  · show S.stamp + ((S.l ++ [_]).length : Nat) ≤ _
    simp
    omega
  · intro x hx'
    rcases List.mem_append.1 hx' with h | h
    · exact hO.l x h
    · simp at h
      subst h
      exact ⟨by show 1 ≤ words; omega, by show words ≤ S.room; omega, by show 0 ≤ tick; omega, by show tick ≤ _; omega, hx⟩
  · show ((S.l ++ [(⟨tx, words, tick⟩ : Rd)]).map (fun x : Rd => x.tx)).Nodup
    rw [List.map_append, List.nodup_append]
    refine ⟨hO.nodup, by simp, fun a ha c hc => ?_⟩
    simp at hc
    subst hc
    rintro rfl
    exact h2 ha
/-- The group behind Ask. -/
def Gr.askNext (S : Gr) (tx words tick : Int) : Gr := if S.askCode tx words tick = 0 then S.asked tx words tick else S
theorem g_ask (tx words tick : Int) (h : Grp w F g S) (hx : (Lit.int .i64 tx).wf = true) :
    Calls Try.prog 10 #[.pointer (some ⟨g, 0, none⟩), .int .i64 tx, .int .i64 words, .int .i64 tick] w fun e w' => e = .returned (.int .i64 (S.askCode tx words tick)) ∧ ∃ F', Grp w' F' g (S.askNext tx words tick) ∧ Turn w w' F F' := by
  obtain ⟨⟨mb, bs, hr⟩, h1, h2⟩ := h
  by_cases hc : S.askCode tx words tick = 0
  · refine (ask_yes tx words tick hr h1 hx hc).mono ?_
    rintro e w1 ⟨rfl, r1, r2⟩
    refine ⟨by rw [hc], (fun b => F b ∨ (w.heap.size ≤ b ∧ b < w1.heap.size)), ⟨⟨_, _, by rw [Gr.askNext, if_pos hc]; exact r1⟩, by rw [Gr.askNext, if_pos hc]; exact asked_ok h1 hx hc, fun b hb => ?_⟩, r2, fun b hb => Or.imp id (fun h => h.1) hb⟩
    rcases hb with hb | hb
    · have := h2 b hb; have := r2.size; omega
    · exact hb.2
  · refine (ask_no tx words tick hr h1 hx hc).mono ?_
    rintro e w1 ⟨rfl, n, rfl⟩
    refine ⟨rfl, F, ⟨⟨mb, bs, by rw [Gr.askNext, if_neg hc]; exact hr.drewN n⟩, by rw [Gr.askNext, if_neg hc]; exact h1, h2⟩, Only.of_drewN w n F, fun b hb => .inl hb⟩
theorem dropped_ok {tx : Int} (hO : S.Ok) : (S.dropped tx).Ok := by
  have hl : (S.l.filter (fun y => decide (y.tx ≠ tx))).length ≤ S.l.length := List.length_filter_le _ _
  refine ⟨hO.most, hO.room, hO.delay, ⟨hO.stamp.1, ?_⟩, fun x hx => hO.l x (List.mem_filter.1 hx).1, ?_, hO.bf, hO.txs⟩
  · show S.stamp + ((S.l.filter _).length : Nat) ≤ _
    have := hO.stamp
    omega
  · exact hO.nodup.sublist (List.Sublist.map _ List.filter_sublist)
theorem g_drop (tx : Int) (h : Grp w F g S) (hx : (Lit.int .i64 tx).wf = true) :
    Calls Try.prog 22 #[.pointer (some ⟨g, 0, none⟩), .int .i64 tx] w fun e w' => e = .returned (.bool (decide (tx ∈ S.waits))) ∧ Grp w' F g (S.dropped tx) ∧ Only w w' F := by
  obtain ⟨⟨mb, bs, hr⟩, h1, h2⟩ := h
  refine (drop_any tx hr h1 hx).mono ?_
  rintro e w1 ⟨rfl, bs', r1, r2⟩
  exact ⟨rfl, ⟨⟨mb, bs', r1⟩, dropped_ok h1, fun b hb => Nat.lt_of_lt_of_le (h2 b hb) r2.size⟩, r2⟩
theorem g_due (tick : Int) (h : Grp w F g S) : Calls Try.prog 13 #[.pointer (some ⟨g, 0, none⟩), .int .i64 tick] w fun e w' => e = .returned (.bool (S.due tick)) ∧ ∃ n, w' = w.drewN n := by
  obtain ⟨⟨mb, bs, hr⟩, h1, h2⟩ := h
  exact due_any tick hr h1
/-- The group behind Cut. -/
def Gr.cutNext (S : Gr) (tick : Int) : Gr := if S.due tick = true then S.cutted else S
def Gr.cutTxs (S : Gr) (tick : Int) : List Int := if S.due tick = true then S.cutted.txs else []
def Gr.cutBf (S : Gr) (tick : Int) : Int := if S.due tick = true then S.stamp else 0
theorem g_cut (tick : Int) (h : Grp w F g S) :
    Calls Try.prog 11 #[.pointer (some ⟨g, 0, none⟩), .int .i64 tick] w fun e w' => ∃ A c, e = .returned (.tuple #[.agg #[.int .i64 (S.cutBf tick), .slice A (S.cutTxs tick).length c], .bool (S.due tick)]) ∧ ∃ m, w.heap.size ≤ m ∧ Row w' m 3 (.slice A (S.cutTxs tick).length c) (S.cutTxs tick) ∧
      ∃ F', Grp w' F' g (S.cutNext tick) ∧ Turn w w' F F' ∧ ∀ b, F' b → b < m := by
  obtain ⟨⟨mb, bs, hr⟩, h1, h2⟩ := h
  by_cases hd : S.due tick = true
  · have hne := (Gr.due_ne hd).1
    have hlen : S.cutted.txs.length = S.front := by
      show (S.waits.take S.front).length = _
      have := S.front_le
      simp [Gr.waits]
      omega
    refine (cut_yes tick hr h1 h2 (fun x hx => (h1.l x hx).2.2.2.2) hd).mono ?_
    rintro e w1 ⟨A, c, m, rfl, m1, m2, r1, ⟨bs', r2⟩, r3⟩
    unfold Gr.cutBf Gr.cutTxs Gr.cutNext
    simp only [if_pos hd]
    rw [hlen, hd]
    have hlt : ∀ b, (F b ∨ (w.heap.size ≤ b ∧ b < m)) → b < m := fun b hb => by
      rcases hb with hb | hb
      · have := h2 b hb; omega
      · exact hb.2
    exact ⟨A, c, rfl, m, m1, r1, (fun b => F b ∨ (w.heap.size ≤ b ∧ b < m)), ⟨⟨mb, bs', r2⟩, Gr.cutted_ok h1 hne, fun b hb => Nat.lt_of_lt_of_le (hlt b hb) m2⟩, ⟨r3, fun b hb => Or.imp id (fun h => h.1) hb⟩, hlt⟩
  · have hd' : S.due tick = false := by simpa using hd
    refine (cut_no tick hr h1 h2 hd').mono ?_
    rintro e w1 ⟨rfl, hb⟩
    unfold Gr.cutBf Gr.cutTxs Gr.cutNext
    simp only [if_neg hd]
    rw [hd']
    exact ⟨none, 0, rfl, w.heap.size, Nat.le_refl _, Row.nil _ _ _, F, Grp.below ⟨⟨mb, bs, hr⟩, h1, h2⟩ hb, Turn.below hb F, h2⟩
theorem closed_ok (hO : S.Ok) : S.closed.Ok := ⟨hO.most, hO.room, hO.delay, hO.stamp, hO.l, hO.nodup, by simp [Gr.closed], by simp [Gr.closed]⟩
theorem g_done (h : Grp w F g S) :
    Calls Try.prog 12 #[.pointer (some ⟨g, 0, none⟩)] w fun e w' => ∃ A c, e = .returned (.slice A S.txs.length c) ∧ Reps w' w.heap.size (.slice A S.txs.length c) (repsOf S.bf S.txs) ∧ Grp w' F g S.closed ∧ Only w w' (fun b => b = g) := by
  obtain ⟨⟨mb, bs, hr⟩, h1, h2⟩ := h
  refine (done_any hr h1).mono ?_
  rintro e w1 ⟨A, c, rfl, r1, r2, r3⟩
  exact ⟨A, c, rfl, r1, ⟨⟨mb, bs, r2⟩, closed_ok h1, fun b hb => Nat.lt_of_lt_of_le (h2 b hb) r3.size⟩, r3⟩
theorem g_open (h : Grp w F g S) :
    Calls Try.prog 25 #[.pointer (some ⟨g, 0, none⟩)] w fun e w' => ∃ A c, e = .returned (.tuple #[.agg #[.int .i64 S.bf, .slice A S.txs.length c], .bool S.is]) ∧ Row w' w.heap.size 3 (.slice A S.txs.length c) S.txs ∧ Below w.heap.size w w' := by
  obtain ⟨⟨mb, bs, hr⟩, h1, h2⟩ := h
  exact open_any hr h1
theorem g_waiting (h : Grp w F g S) (hl : S.l.length ≤ 1000000) :
    Calls Try.prog 16 #[.pointer (some ⟨g, 0, none⟩)] w fun e w' => ∃ A c, e = .returned (.slice A S.waits.length c) ∧ Row w' w.heap.size 3 (.slice A S.waits.length c) S.waits ∧ Below w.heap.size w w' := by
  obtain ⟨⟨mb, bs, hr⟩, h1, h2⟩ := h
  exact waiting_any hr hl
end
end Go.Proofs.Ytoecffmhnpnaaaa
