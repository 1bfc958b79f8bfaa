/- The walks of the library's functions on slices of whole numbers (Index, Contains, Clone), and of Waiting, Next, Open. -/
import Derived.Test.YtoecffmhnpnaaaaWalkA
namespace Go.Proofs.Ytoecffmhnpnaaaa
open Go.RowKit

theorem info3 : (Try.prog.info? 3).map (fun i => (i.zero, i.size, i.bytes)) = some (some (.int .i64 0), 1, 8) := by kernel_rfl
/-- Some number that is not negative comes back. -/
def SomeNat (w : World) (e : Ending) (w' : World) : Prop := ∃ r : Nat, r ≤ 9223372036854775807 ∧ e = .returned (.int .i64 r) ∧ w = w'
theorem getD_mem {xs : List Int} {k : Nat} (h : k < xs.length) : xs.getD k 0 ∈ xs := by
  have : xs.getD k 0 = xs[k] := by simp [List.getD, h]
  rw [this]; exact List.getElem_mem h
set_option maxHeartbeats 1000000 in
theorem index_no {w : World} {v : Value} {xs : List Int} {F : Nat → Prop} (x : Int) (hN : Nums w v xs F) (hx : x ∉ xs) :
    Calls Try.prog 36 #[v, .int .i64 x] w fun e w' => e = .returned (.int .i64 (-1)) ∧ w = w' := by
  rcases hN with ⟨rfl, rfl⟩ | ⟨g, c, rfl, hp, hm, _, _, hcell⟩
  · clear hx
    go_enter Try.func36, Try.ntmps36
    go_wp2
    go_loop [8] (fun i => i = .int .i64 0) (fun _ => 0)
    case atStart => rfl
    case round =>
      subst hrel
      go_wp2
      go_ret
      exact ⟨rfl, rfl⟩
  · have HC := Lib.hid hcell
    have HX := Lib.hid hx
    clear hcell hx
    generalize hn : xs.length = n at *
    have HNn := Lib.hid hn
    clear hn
    go_enter Try.func36, Try.ntmps36
    go_wp2
    go_loop [8] (fun i => ∃ k : Nat, k ≤ n ∧ i = .int .i64 k) (fun i => n - (intOf i).toNat)
    case atStart => exact ⟨0, by omega, rfl⟩
    case round =>
      obtain ⟨k, hk, rfl⟩ := hrel
      by_cases hlt : k < n
      · have hc := HC.out k hlt
        obtain ⟨y, hy⟩ : ∃ y, y = xs.getD k 0 := ⟨_, rfl⟩
        rw [← hy] at hc
        have hne : (x == y) = false := by
          have := getD_mem (xs := xs) (k := k) (by rw [HNn.out]; exact hlt)
          rw [← hy] at this
          simp
          rintro rfl
          exact HX.out this
        clear hy
        go_wp2
        go_round
        case rel => exact ⟨k + 1, by omega, by go_num⟩
        case measure => simp [intOf]; omega
      · go_wp2
        go_ret
        exact ⟨rfl, rfl⟩
set_option maxHeartbeats 1000000 in
theorem index_yes {w : World} {v : Value} {xs : List Int} {F : Nat → Prop} (x : Int) (hN : Nums w v xs F) (hx : x ∈ xs) :
    Calls Try.prog 36 #[v, .int .i64 x] w (SomeNat w) := by
  rcases hN with ⟨rfl, rfl⟩ | ⟨g, c, rfl, hp, hm, _, _, hcell⟩
  · simp at hx
  · have HC := Lib.hid hcell
    have hx' : ∃ i : Nat, i < xs.length ∧ xs.getD i 0 = x := by
      obtain ⟨i, hi, e⟩ := List.mem_iff_getElem.1 hx
      exact ⟨i, hi, by rw [← e]; simp [List.getD, hi]⟩
    have HX := Lib.hid hx'
    clear hcell hx hx'
    generalize hn : xs.length = n at *
    have HNn := Lib.hid hn
    clear hn
    go_enter Try.func36, Try.ntmps36
    go_wp2
    go_loop [8] (fun i => ∃ k : Nat, k ≤ n ∧ i = .int .i64 k ∧ Hid (∀ j, j < k → xs.getD j 0 ≠ x)) (fun i => n - (intOf i).toNat)
    case atStart => exact ⟨0, by omega, rfl, fun j hj => by omega⟩
    case round =>
      obtain ⟨k, hk, rfl, hall⟩ := hrel
      by_cases hlt : k < n
      · have hc := HC.out k hlt
        obtain ⟨y, hy⟩ : ∃ y, y = xs.getD k 0 := ⟨_, rfl⟩
        rw [← hy] at hc
        have HY := Lib.hid hy
        clear hy
        by_cases he : x = y
        · have hb : (x == y) = true := by simp [he]
          clear he
          go_wp2
          go_ret
          exact ⟨k, by omega, rfl, rfl⟩
        · have hb : (x == y) = false := by simp [he]
          have hne := Lib.hid he
          clear he
          go_wp2
          go_round
          case rel => exact ⟨k + 1, by omega, by go_num, fun j hj => by
            by_cases e : j = k
            · subst e; rw [← HY.out]; exact fun h => hne.out h.symm
            · exact hall.out j (by omega)⟩
          case measure => simp [intOf]; omega
      · exfalso
        obtain ⟨i, hi, e⟩ := HX.out
        exact hall.out i (by omega) e
theorem contains_any {w : World} {v : Value} {xs : List Int} {F : Nat → Prop} (x : Int) (hN : Nums w v xs F) :
    Calls Try.prog 31 #[v, .int .i64 x] w fun e w' => e = .returned (.bool (decide (x ∈ xs))) ∧ w = w' := by
  by_cases hx : x ∈ xs
  · have h1 := Lib.hid (index_yes x hN hx)
    have h2 := Lib.hid (decide_eq_true hx)
    clear hx hN
    go_enter Try.func31, Try.ntmps31
    go_wp2_with (go_at_call 36; refine h1.out.mono ?_; rintro e w1 ⟨r, hr, rfl, rfl⟩)
    go_ret
    exact ⟨ret_bool h2.out.symm, rfl⟩
  · have h1 := Lib.hid (index_no x hN hx)
    have h2 := Lib.hid (decide_eq_false hx)
    clear hx hN
    go_enter Try.func31, Try.ntmps31
    go_wp2_with (go_at_call 36; refine h1.out.mono ?_; rintro e w1 ⟨rfl, rfl⟩)
    go_ret
    exact ⟨ret_bool h2.out.symm, rfl⟩
theorem next_any {w : World} {F : Nat → Prop} {g mb : Nat} {bs : List Nat} {S : Gr} (hR : Rep w F g mb bs S) :
    Calls Try.prog 28 #[.pointer (some ⟨g, 0, none⟩)] w fun e w' => e = .returned (.int .i64 S.stamp) ∧ w = w' := by
  obtain ⟨v, hv, hn⟩ := hR.v
  have c3 : w.cell? ⟨g, 3, none⟩ = some (.int .i64 S.stamp) := hv.cell 3
  clear hv hn hR
  go_enter Try.func28, Try.ntmps28
  go_wp2
  go_ret
  exact ⟨rfl, rfl⟩
set_option maxHeartbeats 1000000 in
theorem clone_any {w : World} {v : Value} {xs : List Int} {F : Nat → Prop} (hN : Nums w v xs F) (hb : xs.length ≤ 1000000) :
    Calls Try.prog 35 #[v] w fun e w' => ∃ A c, e = .returned (.slice A xs.length c) ∧ Row w' w.heap.size 3 (.slice A xs.length c) xs ∧ Below w.heap.size w w' := by
  have qT : ∀ (w : World) (a : Option Addr) (n c n' c' : Nat), (binOp .eql 22 (.slice a n c) (.slice none n' c')).run Try.prog w = .ok (.bool a.isNone) w := fun w a n c n' c' => Lib.run_eql_slice_nil w _ _ a n c n' c' Try.underlying22
  rcases hN with ⟨rfl, rfl⟩ | ⟨g, c, rfl, hp, hm, _, hlt, hcell⟩
  · go_enter Try.func35, Try.ntmps35
    go_wp2
    go_ret
    exact ⟨none, 0, rfl, Row.nil _ _ _, Below.refl _ _⟩
  · have HC := Lib.hid hcell
    clear hcell
    obtain ⟨i0, hi, hzz⟩ := Option.map_eq_some_iff.1 info3
    simp only [Prod.mk.injEq] at hzz
    obtain ⟨hz0, hz1, hz2⟩ := hzz
    have hown : (w.alloc (.cells #[] 3)).ownsRow w.heap.size 3 1 (.slice (some ⟨w.heap.size, 0, none⟩) 0 0) 0 [] := ⟨rfl, .inr ⟨w.heap.size, 0, #[], rfl, Nat.le_refl _, (MapKept.heap_alloc w _).1, Nat.le_refl _, by simp [maxLen], rfl, rfl⟩⟩
    have hnews : ∀ j u, (xs.map fun x => Value.int .i64 x)[j]? = some u → (w.alloc (.cells #[] 3)).cell? ((⟨g, 0, none⟩ : Addr).add j) = some u := fun j u hj => by
      have ha : (⟨g, 0, none⟩ : Addr).add j = ⟨g, j, none⟩ := by unfold Addr.add; split <;> simp_all
      rw [ha, World.cell?_alloc_lt _ _ _ hlt]
      simp at hj
      obtain ⟨y, hy, rfl⟩ := hj
      have hjl := (List.getElem?_eq_some_iff.1 hy).1
      rw [HC.out j hjl]
      simp [List.getD, hy]
    have HW := Lib.hid hnews
    have HI := Lib.hid (And.intro hi (And.intro hz0 (And.intro hz1 hz2)))
    have HO := Lib.hid hown
    clear hnews hi hz0 hz1 hz2 hown
    go_enter Try.func35, Try.ntmps35
    go_wp2_with (at_builtin; refine wpList_append_own_at _ rfl _ _ 22 rfl w.heap.size 3 i0 (.int .i64 0) 1 8 Try.underlying22 HI.out.1 HI.out.2.1 HI.out.2.2.1 HI.out.2.2.2 rfl (by decide) _ _ _ rfl HO.out ⟨g, 0, none⟩ xs.length c (xs.map fun x => Value.int .i64 x) rfl (by simp) HW.out (by simp [Value.oneCell']) (by simp only [maxLen]; omega) (by omega) (by simp) ?_; intro v' w1 h1 h2 h3 h4)
    go_ret
    rw [Nat.zero_add] at h1
    obtain ⟨A, c', e1⟩ : ∃ A c', v' = .slice A xs.length c' := by
      rcases h1.2 with ⟨_, h0⟩ | ⟨q, cap, cur, e, _⟩
      · omega
      · exact ⟨_, _, e⟩
    rw [e1] at h1 ⊢
    refine ⟨A, c', rfl, ⟨by simpa using h1, fun h => by subst h; simp at hp⟩, ?_⟩
    exact ((Below.refl _ _).alloc (Nat.le_refl _) _).grown h2 (by simp) (fun k hk => by have e : some w.heap.size = some k := hk; injection e with e; omega)
end Go.Proofs.Ytoecffmhnpnaaaa
