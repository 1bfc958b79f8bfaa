/- The walks of the group's functions that only read: front, Due. -/
import Derived.Test.YtoecffmhnpnaaaaGrp
import Derived.Deep.QuietTactic
import Derived.BigQuiet
import Derived.Lib.Hide
import Derived.LaidEql
import Derived.LaidEqlPtr
namespace Go.Proofs.Ytoecffmhnpnaaaa
open Go.RowKit

theorem ret_pair {a b a' b' : Value} (h1 : a = a') (h2 : b = b') : Ending.returned (.tuple #[a, b]) = .returned (.tuple #[a', b']) := by rw [h1, h2]
theorem ret_int {k : IntKind} {a b : Int} (h : a = b) : Ending.returned (.int k a) = .returned (.int k b) := by rw [h]
theorem ret_bool {a b : Bool} (h : a = b) : Ending.returned (.bool a) = .returned (.bool b) := by rw [h]
theorem frontFrom_go {most room : Int} {l : List Rd} {k : Nat} {n s : Int} {x : Rd} (hx : l[k]? = some x) (h : n < most ∧ s + x.words ≤ room) : frontFrom most room n s (l.drop k) = frontFrom most room (n + 1) (s + x.words) (l.drop (k + 1)) + 1 := by
  obtain ⟨hk, rfl⟩ := List.getElem?_eq_some_iff.1 hx
  rw [List.drop_eq_getElem_cons hk, frontFrom, if_pos h]
theorem frontFrom_stop {most room : Int} {l : List Rd} {k : Nat} {n s : Int} {x : Rd} (hx : l[k]? = some x) (h : ¬ (n < most ∧ s + x.words ≤ room)) : frontFrom most room n s (l.drop k) = 0 := by
  obtain ⟨hk, rfl⟩ := List.getElem?_eq_some_iff.1 hx
  rw [List.drop_eq_getElem_cons hk, frontFrom, if_neg h]
theorem frontFrom_end {most room : Int} {l : List Rd} {k : Nat} {n s : Int} (h : l.length ≤ k) : frontFrom most room n s (l.drop k) = 0 := by
  rw [List.drop_eq_nil_of_le h]; rfl

set_option maxHeartbeats 2000000 in
theorem front_any {w : World} {F : Nat → Prop} {g mb : Nat} {bs : List Nat} {S : Gr} (hR : Rep w F g mb bs S) (hO : S.Ok) :
    Calls Try.prog 32 #[.pointer (some ⟨g, 0, none⟩)] w fun e w' => e = .returned (.tuple #[.int .i64 S.front, ptrAt bs S.front]) ∧ ∃ n, w' = w.drewN n := by
  obtain ⟨v, hv, hn⟩ := hR.v
  have c0 : w.cell? ⟨g, 0, none⟩ = some (.int .i64 S.most) := hv.cell 0
  have c1 : w.cell? ⟨g, 1, none⟩ = some (.int .i64 S.room) := hv.cell 1
  have c4 : w.cell? ⟨g, 4, none⟩ = some (ptrAt bs 0) := hv.cell 4
  obtain ⟨m0, m1⟩ := hO.most
  obtain ⟨r0, r1⟩ := hO.room
  have hlen := hR.len
  have HN := Lib.hid hR.nodes
  have HL := Lib.hid hO.l
  have HLen := Lib.hid hlen
  have HF := Lib.hid (show S.front = frontFrom S.most S.room 0 0 (S.l.drop 0) from rfl)
  clear hv hn hR hO hlen
  obtain ⟨f, hf⟩ : ∃ f, f = S.front := ⟨_, rfl⟩
  rw [← hf] at HF ⊢
  clear hf
  go_enter Try.func32, Try.ntmps32
  go_wp2
  go_quiet (fail)
  go_wp2
  go_loopw [4, 5, 6] (fun n s r wr => ∃ (k : Nat) (t : Int), k ≤ S.l.length ∧ n = .int .i64 k ∧ s = .int .i64 t ∧ r = ptrAt bs k ∧ 0 ≤ t ∧ t ≤ S.room ∧ (k : Int) ≤ S.most ∧ f = frontFrom S.most S.room k t (S.l.drop k) + k ∧ ∃ j, wr = w.drewN j)
    (fun n _ _ _ => S.l.length - (intOf n).toNat)
  case atStart => exact ⟨0, 0, by omega, rfl, rfl, rfl, by omega, by omega, by omega, by rw [HF.out]; rfl, _, rfl⟩
  case round =>
    obtain ⟨k, t, hk, rfl, rfl, hr, t0, t1, km, hf, j, rfl⟩ := hrel
    have HFf := Lib.hid hf
    clear hf
    by_cases hlt : k < S.l.length
    · obtain ⟨x, hx⟩ : ∃ x, S.l[k]? = some x := ⟨_, List.getElem?_eq_getElem hlt⟩
      obtain ⟨b, hb⟩ : ∃ b, bs[k]? = some b := ⟨_, List.getElem?_eq_getElem (by rw [HLen.out]; exact hlt)⟩
      have hnode := HN.out k b x hb hx
      have d1 : w.cell? ⟨b, 1, none⟩ = some (.int .i64 x.words) := hnode.cell 1
      have d3 : w.cell? ⟨b, 3, none⟩ = some (ptrAt bs (k + 1)) := hnode.cell 3
      obtain ⟨w0, w1, _, _, _⟩ := HL.out x (List.mem_of_getElem? hx)
      have HPB := Lib.hid (ptrAt_in hb)
      rw [ptrAt_in hb] at hr
      have HX := Lib.hid hx
      clear hx hb hnode
      subst hr
      by_cases h1 : (k : Int) < S.most
      · by_cases h2 : t + x.words ≤ S.room
        · have h2b : decide (t + x.words ≤ S.room) = true := decide_eq_true h2
          go_wp2
          go_quiet (fail)
          go_wp2
          go_roundw
          case rel => exact ⟨k + 1, t + x.words, by omega, by go_num, rfl, rfl, by omega, h2, by omega, by rw [HFf.out, frontFrom_go HX.out ⟨h1, h2⟩]; simp only [Int.natCast_add, Int.natCast_one]; omega, _, rfl⟩
          case measure => simp [intOf]; omega
        · have h2b : decide (t + x.words ≤ S.room) = false := decide_eq_false h2
          have hfin : f = k := by rw [HFf.out, frontFrom_stop HX.out (fun h => h2 h.2)]; omega
          have HFin := Lib.hid hfin
          clear hfin
          go_wp2
          go_quiet (fail)
          go_wp2
          go_ret2
          exact ⟨ret_pair (show Value.int .i64 (k : Int) = .int .i64 f by rw [HFin.out]) (show Value.pointer (some ⟨b, 0, none⟩) = ptrAt bs f by rw [HFin.out, HPB.out]), _, World.drewN_drewN _ _ _⟩
      · have h1b : decide ((k : Int) < S.most) = false := decide_eq_false h1
        have hfin : f = k := by rw [HFf.out, frontFrom_stop HX.out (fun h => h1 h.1)]; omega
        have HFin := Lib.hid hfin
        clear hfin
        go_wp2
        go_quiet (fail)
        go_wp2
        go_ret2
        exact ⟨ret_pair (show Value.int .i64 (k : Int) = .int .i64 f by rw [HFin.out]) (show Value.pointer (some ⟨b, 0, none⟩) = ptrAt bs f by rw [HFin.out, HPB.out]), _, World.drewN_drewN _ _ _⟩
    · have hfin : f = k := by rw [HFf.out, frontFrom_end (by omega)]; omega
      have HFin := Lib.hid hfin
      have hpb : ptrAt bs k = .pointer none := ptrAt_out (by rw [HLen.out]; omega)
      have HPB := Lib.hid hpb
      rw [hpb] at hr
      clear hfin hpb
      subst hr
      go_wp2
      go_quiet (fail)
      go_wp2
      go_ret2
      exact ⟨ret_pair (show Value.int .i64 (k : Int) = .int .i64 f by rw [HFin.out]) (show Value.pointer none = ptrAt bs f by rw [HFin.out, HPB.out]), _, World.drewN_drewN _ _ _⟩
/-- Is a batch due? -/
def Gr.due (S : Gr) (tick : Int) : Bool := !S.is && (match S.l with | [] => false | x :: _ => decide ((S.front : Int) = S.most ∨ S.front < S.l.length ∨ x.tick + S.delay ≤ tick))
set_option maxHeartbeats 2000000 in
theorem due_any {w : World} {F : Nat → Prop} {g mb : Nat} {bs : List Nat} {S : Gr} (tick : Int) (hR : Rep w F g mb bs S) (hO : S.Ok) :
    Calls Try.prog 13 #[.pointer (some ⟨g, 0, none⟩), .int .i64 tick] w fun e w' => e = .returned (.bool (S.due tick)) ∧ ∃ n, w' = w.drewN n := by
  have hfr := front_any hR hO
  have HFr := Lib.hid hfr
  obtain ⟨v, hv, hn⟩ := hR.v
  have c0 : w.cell? ⟨g, 0, none⟩ = some (.int .i64 S.most) := hv.cell 0
  have c2 : w.cell? ⟨g, 2, none⟩ = some (.int .i64 S.delay) := hv.cell 2
  have c4 : w.cell? ⟨g, 4, none⟩ = some (ptrAt bs 0) := hv.cell 4
  have c6 : w.cell? ⟨g, 6, none⟩ = some (.bool S.is) := hv.cell 6
  obtain ⟨d0, d1⟩ := hO.delay
  have hlen := hR.len
  clear hv hn hfr
  by_cases his : S.is = true
  · have HD := Lib.hid (show S.due tick = false by simp [Gr.due, his])
    rw [his] at c6
    clear his hR hO
    go_enter Try.func13, Try.ntmps13
    go_wp2
    go_ret
    exact ⟨ret_bool HD.out.symm, 0, rfl⟩
  have his' : S.is = false := by simpa using his
  rw [his'] at c6
  match hl : S.l with
  | [] =>
    have HD := Lib.hid (show S.due tick = false by simp [Gr.due, hl])
    rw [hl] at hlen
    rw [ptrAt_out (by rw [hlen]; simp)] at c4
    clear his hR hO hlen hl his'
    go_enter Try.func13, Try.ntmps13
    go_wp2
    go_ret
    exact ⟨ret_bool HD.out.symm, 0, rfl⟩
  | x :: l =>
    obtain ⟨b, hb⟩ : ∃ b, bs[0]? = some b := ⟨_, List.getElem?_eq_getElem (by rw [hlen, hl]; simp)⟩
    have hnode := hR.nodes 0 b x hb (by rw [hl]; rfl)
    have e2 : w.cell? ⟨b, 2, none⟩ = some (.int .i64 x.tick) := hnode.cell 2
    obtain ⟨_, _, t0, t1, _⟩ := hO.l x (by rw [hl]; exact List.mem_cons_self)
    have hfl := S.front_le
    rw [ptrAt_in hb] at c4
    have HD := Lib.hid (show S.due tick = decide ((S.front : Int) = S.most ∨ S.front < S.l.length ∨ x.tick + S.delay ≤ tick) by simp [Gr.due, his', hl])
    have hpf : S.front < S.l.length → ∃ b, ptrAt bs S.front = .pointer (some ⟨b, 0, none⟩) := fun h => ⟨_, ptrAt_in (List.getElem?_eq_getElem (by rw [hlen]; exact h))⟩
    have hpe : S.front = S.l.length → ptrAt bs S.front = .pointer none := fun h => ptrAt_out (by rw [hlen]; omega)
    have HPF := Lib.hid hpf
    have HPE := Lib.hid hpe
    clear his hR hO hnode hb hl his' hpf hpe
    generalize hfv : S.front = f at *
    clear hfv
    go_enter Try.func13, Try.ntmps13
    go_wp2_with (go_at_call 32; refine HFr.out.mono ?_; rintro e w' ⟨rfl, n, rfl⟩)
    by_cases q1 : (f : Int) = S.most
    · have q1b : ((f : Int) == S.most) = true := by simp [q1]
      have HD2 := Lib.hid (HD.out.trans (decide_eq_true (.inl q1)))
      clear q1
      go_wp2
      go_quiet (fail)
      go_wp2
      go_ret
      exact ⟨ret_bool HD2.out.symm, _, World.drewN_drewN _ _ _⟩
    have q1b : ((f : Int) == S.most) = false := by simp [q1]
    by_cases q2 : f < S.l.length
    · have HD2 := Lib.hid (HD.out.trans (decide_eq_true (.inr (.inl q2))))
      obtain ⟨b2, hb2⟩ := HPF.out q2
      rw [hb2]
      go_wp2
      go_quiet (fail)
      go_wp2
      go_ret
      exact ⟨ret_bool HD2.out.symm, _, World.drewN_drewN _ _ _⟩
    · have hb2 := HPE.out (by omega)
      rw [hb2]
      have HD2 := Lib.hid (HD.out.trans (show decide ((f : Int) = S.most ∨ f < S.l.length ∨ x.tick + S.delay ≤ tick) = decide (x.tick + S.delay ≤ tick) by rw [decide_eq_decide]; omega))
      go_wp2
      go_quiet (fail)
      go_wp2
      go_ret
      exact ⟨ret_bool HD2.out.symm, _, World.drewN_drewN _ _ _⟩
end Go.Proofs.Ytoecffmhnpnaaaa
