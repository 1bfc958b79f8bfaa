/- The walk of sanity. -/
import Derived.Test.YtlfpkikmofgjfaaWalkT
namespace Go.Proofs.Ytlfpkikmofgjfaa
open Go.RowKit

theorem skew_at (w : World) : Calls Try.prog 42 #[] w fun e w' => e = .returned (.slice (some ⟨w.heap.size + 4, 0, none⟩) 2 2) ∧ Sk w' w.heap.size 1 true 2 ∧ Below w.heap.size w w' := by
  refine (skew_any w).mono ?_
  rintro e w1 ⟨rfl, rfl⟩
  exact ⟨rfl, Sk.made w, (((((Below.refl _ _).alloc (Nat.le_refl _) _).alloc (by (try simp only [World.size_alloc]); omega) _).alloc (by (try simp only [World.size_alloc]); omega) _).alloc (by (try simp only [World.size_alloc]); omega) _).alloc (by (try simp only [World.size_alloc]); omega) _⟩
theorem Sk.setTo {w : World} {k : Nat} {m m' : Int} {d d' : Bool} {s s' : Int} (h : Sk w k m d s) (i : Nat) (u : Value) (hc : (skC k m d s).setIfInBounds i u = skC k m' d' s') : Sk (w.setCell ⟨k + 4, i, none⟩ u) k m' d' s' :=
  ⟨by have := h.cells.set i u; rw [hc] at this; exact this, h.l0.kept (Below.heap_setCell _ _ _ _ (by show k ≠ k + 4; omega)), h.l1.kept (Below.heap_setCell _ _ _ _ (by show k + 1 ≠ k + 4; omega)), h.l2.kept (Below.heap_setCell _ _ _ _ (by show k + 2 ≠ k + 4; omega)), h.l3.kept (Below.heap_setCell _ _ _ _ (by show k + 3 ≠ k + 4; omega))⟩
/-- What sanity has laid: the example, the pairs, the structure; a second example. -/
structure Toy (w W : World) (pb db : Nat) : Prop where
  below : Below w.heap.size w W
  sk : Sk W w.heap.size 1 true 2
  pairs : Cells W pb 55 #[.int .i64 0, .int .i64 1, .int .i64 1, .int .i64 0]
  struct : Cells W db 47 #[.int .i64 0, .int .i64 1, .int .i64 0]
theorem Toy.keep {w W W' : World} {pb db : Nat} (t : Toy w W pb db) (hb : Below W.heap.size W W') : Toy w W' pb db :=
  ⟨t.below.trans (hb.mono t.below.size), t.sk.keep hb, t.pairs.kept (hb.block _ t.pairs.lt), t.struct.kept (hb.block _ t.struct.lt)⟩
theorem Toy.set {w W : World} {pb db : Nat} (t : Toy w W pb db) {p : Addr} (h0 : w.heap.size ≤ p.block) (h1 : p.block ≠ pb) (h2 : p.block ≠ db) (h3 : w.heap.size + 4 < p.block) (u : Value) : Toy w (W.setCell p u) pb db :=
  ⟨t.below.setCell h0 u, ⟨t.sk.cells.kept (Below.heap_setCell _ _ _ _ (by omega)), t.sk.l0.kept (Below.heap_setCell _ _ _ _ (by omega)), t.sk.l1.kept (Below.heap_setCell _ _ _ _ (by omega)), t.sk.l2.kept (Below.heap_setCell _ _ _ _ (by omega)), t.sk.l3.kept (Below.heap_setCell _ _ _ _ (by omega))⟩, t.pairs.kept (Below.heap_setCell _ _ _ _ (fun e => h1 e.symm)), t.struct.kept (Below.heap_setCell _ _ _ _ (fun e => h2 e.symm))⟩
theorem PNums.both {W : World} {pb : Nat} (h : Cells W pb 55 #[.int .i64 0, .int .i64 1, .int .i64 1, .int .i64 0]) : PNums W (.slice (some ⟨pb, 0, none⟩) 2 2) [(0, 1), (1, 0)] :=
  ⟨_, 2, rfl, by simp, fun j hj => ⟨pb, rfl, h.lt, by
    have : j = 0 ∨ j = 1 := by simp at hj; omega
    rcases this with rfl | rfl
    · exact ⟨h.cell 0, h.cell 1⟩
    · exact ⟨h.cell 2, h.cell 3⟩⟩⟩
theorem Ints.two {w : World} {b : Nat} {x y : Int} (h : Cells w b 3 #[.int .i64 x, .int .i64 y]) (hx : W64 x) (hy : W64 y) : Ints w (.slice (some ⟨b, 0, none⟩) 2 2) [x, y] :=
  ⟨fun z hz => by
    simp only [List.mem_cons, List.not_mem_nil, or_false] at hz
    rcases hz with rfl | rfl
    · exact hx
    · exact hy, _, 2, rfl, by simp, by simp, fun j hj => ⟨b, 0, rfl, h.lt, by
    have : j = 0 ∨ j = 1 := by simp at hj; omega
    rcases this with rfl | rfl
    · exact h.cell 0
    · exact h.cell 1⟩⟩
theorem W64.small2 {xs : List Int} (h : ∀ x, x ∈ xs → -100 ≤ x ∧ x ≤ 100) : ∀ x, x ∈ xs → W64 x := fun x hx => wfI (by have := h x hx; omega) (by have := h x hx; omega)
theorem eq47 (w : World) (d : Nat) (a b c x y z : Int) : (Op.equalIn (d + 2) 47 (.agg #[.int .i64 a, .int .i64 b, .int .i64 c]) (.agg #[.int .i64 x, .int .i64 y, .int .i64 z])).run Try.prog w = .ok (a == x && (b == y && c == z)) w := by
  have p0 : ∀ (x y z : Int) (w : World), (part 3 #[.int .i64 x, .int .i64 y, .int .i64 z] 0).run Try.prog w = .ok (.int .i64 x) w := fun x y z w => run_part_plain w plain3 rfl
  have p1 : ∀ (x y z : Int) (w : World), (part 3 #[.int .i64 x, .int .i64 y, .int .i64 z] 1).run Try.prog w = .ok (.int .i64 y) w := fun x y z w => run_part_plain w plain3 rfl
  have p2 : ∀ (x y z : Int) (w : World), (part 3 #[.int .i64 x, .int .i64 y, .int .i64 z] 2).run Try.prog w = .ok (.int .i64 z) w := fun x y z w => run_part_plain w plain3 rfl
  unfold Op.equalIn
  simp [run_underlying Try.underlying47, List.range', p0, p1, p2, run_equalIn_int _ _ _ _ _ _ _ Try.underlying3]
  by_cases h1 : a = x
  · by_cases h2 : b = y
    · by_cases h3 : c = z
      · simp [h1, h2, h3]
      · simp [h1, h2, h3]
    · simp [h1, h2]
  · simp [h1]
theorem eqD (w : World) : (Op.equalIn 10000 47 (.agg #[.int .i64 0, .int .i64 1, .int .i64 0]) (.agg #[.int .i64 0, .int .i64 1, .int .i64 0])).run Try.prog w = .ok true w := by rw [eq47 w 9998]; rfl
theorem eql47 (w : World) (a b c x y z : Int) : (binOp .eql 47 (.agg #[.int .i64 a, .int .i64 b, .int .i64 c]) (.agg #[.int .i64 x, .int .i64 y, .int .i64 z])).run Try.prog w = .ok (.bool (a == x && (b == y && c == z))) w := by
  rw [run_eql_struct, eq47 w 9998]
  rfl
set_option maxRecDepth 100000 in
set_option maxHeartbeats 4000000 in
theorem sanity_any (w : World) : Calls Try.prog 16 #[] w fun e w' => e = .returned (.bool true) ∧ Below w.heap.size w w' := by
  go_enter Try.func16, Try.ntmps16
  go_wp2_with fail
  refine (skew_at w).mono ?_
  rintro e w1 ⟨rfl, hk, hb⟩
  have HK1 := Lib.hid hk
  have HB1 := Lib.hid hb
  have HP1 := Lib.hid (Cells.made w1 55 #[.int .i64 0, .int .i64 1, .int .i64 1, .int .i64 0])
  have HK2 := Lib.hid (hk.keep ((Below.refl w1.heap.size w1).alloc (Nat.le_refl _) (.cells #[.int .i64 0, .int .i64 1, .int .i64 1, .int .i64 0] 55)))
  have hs1 := hb.size
  have hk1 := hk.cells.lt
  clear hk hb
  go_wp2_with fail
  have HD := Lib.hid (dangerousF_any (HK2.out.hist rfl rfl))
  rw [sk_danger] at HD
  refine HD.out.mono ?_
  rintro e w2 ⟨rfl, hb⟩
  have HK3 := Lib.hid (HK2.out.keep hb)
  have HP3 := Lib.hid (HP1.out.kept (hb.block _ (by simp)))
  have HB3 := Lib.hid ((HB1.out.alloc hs1 _).trans (hb.mono (by simp; omega)))
  clear hb HD
  unfold tripleV
  go_wp2_with fail
  have hs3 := HB3.out.size
  have HT : Hid (Toy w (w2.alloc (.cells #[.int .i64 0, .int .i64 1, .int .i64 0] 47)) w1.heap.size w2.heap.size) := Lib.hid ⟨HB3.out.alloc hs3 _, HK3.out.keep ((Below.refl _ _).alloc (Nat.le_refl _) _), HP3.out.kept (Below.heap_alloc _ _ _ HP3.out.lt), Cells.made w2 47 _⟩
  clear HK1 HB1 HP1 HK2 HK3 HP3 HB3
  refine (serial_any (HT.out.sk.hist rfl rfl)).mono ?_
  rw [sk_serial]
  rintro e w3 ⟨he, hb⟩
  obtain rfl : e = _ := he
  have HT3 := Lib.hid (HT.out.keep hb)
  clear hb HT
  go_wp2_with fail
  refine (skew_at w3).mono ?_
  rintro e w4 ⟨rfl, hk4, hb⟩
  have HT4 := Lib.hid (HT3.out.keep hb)
  have hs4 := hb.size
  have HS4 := Lib.hid hk4
  have o2 : w4.cell? ⟨w3.heap.size + 4, 8, none⟩ = some (.bool true) := hk4.cells.cell 8
  have o3 : w4.cell? ⟨w3.heap.size + 4, 9, none⟩ = some (.int .i64 2) := hk4.cells.cell 9
  have ff2 : w4.frozen? ⟨w3.heap.size + 4, 8, none⟩ = false := frozen_of_row _ _ _ _ _ hk4.cells
  have ff3 : w4.frozen? ⟨w3.heap.size + 4, 9, none⟩ = false := frozen_of_row _ _ _ _ _ hk4.cells
  have hpb := HT3.out.pairs.lt
  have hdb := HT3.out.struct.lt
  have hkb := HT3.out.sk.cells.lt
  clear hb HT3 hk4
  go_wp2_with fail
  have HS5 := Lib.hid ((HS4.out.setTo 8 (.bool false) (m' := 1) (d' := false) (s' := 2) rfl).setTo 9 (.int .i64 0) (m' := 1) (d' := false) (s' := 0) rfl)
  have HT5 := Lib.hid ((HT4.out.set (p := ⟨w3.heap.size + 4, 8, none⟩) (by simp; omega) (by simp; omega) (by simp; omega) (by simp; omega) (.bool false)).set (p := ⟨w3.heap.size + 4, 9, none⟩) (by simp; omega) (by simp; omega) (by simp; omega) (by simp; omega) (.int .i64 0))
  clear HS4 HT4 o2 o3 ff2 ff3
  refine (admit_any (i := 1) (HS5.out.hist rfl rfl) rfl).mono ?_
  rw [sk_admit]
  rintro e w5 ⟨rfl, hb⟩
  have HT6 := Lib.hid (HT5.out.keep hb)
  have HS6 := Lib.hid (HS5.out.keep hb)
  have o6 : w5.cell? ⟨w3.heap.size + 4, 6, none⟩ = some (.int .i64 1) := HS6.out.cells.cell 6
  have ff6 : w5.frozen? ⟨w3.heap.size + 4, 6, none⟩ = false := frozen_of_row _ _ _ _ _ HS6.out.cells
  clear hb HT5 HS5
  go_wp2_with fail
  have HS7 := Lib.hid (HS6.out.setTo 6 (.int .i64 0) (m' := 0) (d' := false) (s' := 0) rfl)
  have HT7 := Lib.hid (HT6.out.set (p := ⟨w3.heap.size + 4, 6, none⟩) (by simp; omega) (by simp; omega) (by simp; omega) (by simp; omega) (.int .i64 0))
  clear HS6 HT6 o6 ff6
  refine (admit_any (i := 1) (HS7.out.hist rfl rfl) rfl).mono ?_
  rw [sk_admit0]
  rintro e w6 ⟨rfl, hb⟩
  have HT8 := Lib.hid (HT7.out.keep hb)
  clear hb HT7 HS7
  go_wp2_with fail
  refine (safe_any (s := 0) (HT8.out.sk.hist rfl rfl) rfl).mono ?_
  rw [sk_safe0]
  rintro e w7 ⟨rfl, hb⟩
  have HT9 := Lib.hid (HT8.out.keep hb)
  clear hb HT8
  go_wp2_with fail
  refine (safe_any (s := 1) (HT9.out.sk.hist rfl rfl) rfl).mono ?_
  rw [sk_safe1]
  rintro e w8 ⟨rfl, hb⟩
  have HTa := Lib.hid (HT9.out.keep hb)
  clear hb HT9
  go_wp2_with fail
  refine (safe_any (s := 2) (HTa.out.sk.hist rfl rfl) rfl).mono ?_
  rw [sk_safe2]
  rintro e w9 ⟨rfl, hb⟩
  have HTb := Lib.hid (HTa.out.keep hb)
  clear hb HTa
  go_wp2_with fail
  refine (serial_any HTb.out.sk.one).mono ?_
  rw [sk_one]
  rintro e wa ⟨⟨ov, rfl, hrow⟩, hb⟩
  have HTc := Lib.hid (HTb.out.keep hb)
  have HOv := Lib.hid (Ints.of_row hrow (fun x hx => by simp only [List.map_cons, List.map_nil, List.mem_singleton] at hx; rw [hx]; rfl))
  clear hb HTb hrow
  go_wp2_with fail
  have HC := Lib.hid (check_any (HTc.out.sk.hist rfl rfl))
  rw [sk_check] at HC
  refine HC.out.mono ?_
  rintro e wb ⟨rfl, hb⟩
  have HTd := Lib.hid (HTc.out.keep hb)
  have HOd := Lib.hid (HOv.out.below hb)
  clear hb HTc HOv HC
  go_wp2_with fail
  have HA := Lib.hid (anti_any (HTd.out.sk.hist rfl rfl))
  rw [sk_anti] at HA
  refine HA.out.mono ?_
  rintro e wc ⟨⟨pv, rfl, hp⟩, hb⟩
  have HTe := Lib.hid (HTd.out.keep hb)
  have HOe := Lib.hid (HOd.out.below hb)
  have HPv := Lib.hid hp.read
  clear hb HTd HOd HA hp
  go_wp2_with fail
  refine (same_any HPv.out (PNums.both HTe.out.pairs)).mono ?_
  rw [decide_eq_true rfl]
  rintro e wd ⟨rfl, hb⟩
  have HTf := Lib.hid (HTe.out.keep hb)
  have HOf := Lib.hid (HOe.out.below hb)
  clear hb HTe HOe HPv
  go_wp2_with fail
  have HA := Lib.hid (depends_any (HTf.out.sk.hist rfl rfl))
  rw [sk_depends] at HA
  refine HA.out.mono ?_
  rintro e we ⟨⟨pv, rfl, hp⟩, hb⟩
  have HTg := Lib.hid (HTf.out.keep hb)
  have HOg := Lib.hid (HOf.out.below hb)
  have HPv := Lib.hid hp.read
  clear hb HTf HOf HA hp
  go_wp2_with fail
  refine (same_any HPv.out (PNums.both HTg.out.pairs)).mono ?_
  rw [decide_eq_true rfl]
  rintro e wf ⟨rfl, hb⟩
  have HTh := Lib.hid (HTg.out.keep hb)
  have HOh := Lib.hid (HOg.out.below hb)
  have hq := eqD
  have d0 : wf.cell? ⟨w2.heap.size, 0, none⟩ = some (.int .i64 0) := HTh.out.struct.cell 0
  have d1 : wf.cell? ⟨w2.heap.size, 1, none⟩ = some (.int .i64 1) := HTh.out.struct.cell 1
  have d2 : wf.cell? ⟨w2.heap.size, 2, none⟩ = some (.int .i64 0) := HTh.out.struct.cell 2
  clear hb HTg HOg HPv
  go_wp2_with fail
  clear hq d0 d1 d2
  have HC := Lib.hid (cycle_any (HTh.out.sk.hist rfl rfl))
  rw [sk_cycle] at HC
  refine HC.out.mono ?_
  rintro e wg ⟨⟨nv, rfl, hrow⟩, hb⟩
  have HTi := Lib.hid (HTh.out.keep hb)
  have HOi := Lib.hid (HOh.out.below hb)
  have HNi := Lib.hid (Ints.of_row hrow (W64.small2 (by decide)))
  have HMi := Lib.hid (Cells.made wg 3 #[.int .i64 0, .int .i64 1])
  clear hb HTh HOh HC hrow
  go_wp2_with fail
  refine (sameInts_any (HNi.out.alloc _) (Ints.two HMi.out rfl rfl)).mono ?_
  rw [decide_eq_true (show natsV [0, 1] = [0, 1] from rfl)]
  rintro e wh ⟨rfl, hb⟩
  have HA2 := Lib.hid (((Below.refl wg.heap.size wg).alloc (Nat.le_refl _) (.cells #[.int .i64 0, .int .i64 1] 3)).trans (hb.mono (by simp)))
  have HTj := Lib.hid (HTi.out.keep HA2.out)
  have HOj := Lib.hid (HOi.out.below HA2.out)
  clear hb HTi HOi HNi HMi HA2
  have HMj := Lib.hid (Cells.made wh 3 #[.int .i64 0])
  go_wp2_with fail
  refine (sameInts_any (HOj.out.alloc _) (Ints.one HMj.out rfl)).mono ?_
  rw [decide_eq_true (show List.map (fun i : Nat => (i : Int)) [0] = [0] from rfl)]
  rintro e wi ⟨rfl, hb⟩
  have HA2 := Lib.hid (((Below.refl wh.heap.size wh).alloc (Nat.le_refl _) (.cells #[.int .i64 0] 3)).trans (hb.mono (by simp)))
  have HTk := Lib.hid (HTj.out.keep HA2.out)
  have HOk := Lib.hid (HOj.out.below HA2.out)
  clear hb HTj HOj HMj HA2
  go_wp2_with fail
  have HE := Lib.hid (equiv_any HTk.out.sk.one HOk.out)
  rw [show List.map (fun i : Nat => (i : Int)) [0] = [0] from rfl, sk_equiv] at HE
  refine HE.out.mono ?_
  rintro e wj ⟨rfl, hb⟩
  have HTl := Lib.hid (HTk.out.keep hb)
  clear hb HTk HOk HE
  go_wp2_with fail
  go_ret
  exact ⟨rfl, HTl.out.below⟩
end Go.Proofs.Ytlfpkikmofgjfaa
