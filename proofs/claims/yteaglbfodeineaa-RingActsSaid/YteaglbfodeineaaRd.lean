/-
  The ring's Take and New: the walks; and the ring's methods said of the list that it holds.
-/
import Derived.Test.YteaglbfodeineaaRc
namespace Go.Proofs.Yteaglbfodeineaa
open Go.RowKit

theorem owns_shape {w : World} {base e size : Nat} {v : Value} {n : Nat} {xs : List Value} (h : w.ownsRow base e size v n xs) : ∃ a cap, v = .slice a n cap ∧ n ≤ cap ∧ cap ≤ maxLen ∧ (a = none → n = 0 ∧ cap = 0) ∧ ∀ b, a = some b → ∃ g, b = ⟨g, 0, none⟩ := by
  rcases h.2 with ⟨rfl, rfl⟩ | ⟨g, cap, cur, rfl, _, _, h1, h2, _⟩
  · exact ⟨none, 0, rfl, Nat.le_refl _, Nat.zero_le _, fun _ => ⟨rfl, rfl⟩, fun b h => by simp at h⟩
  · exact ⟨some ⟨g, 0, none⟩, cap, rfl, h1, h2, fun h => by simp at h, fun b h => ⟨g, (Option.some.inj h).symm⟩⟩

set_option maxHeartbeats 400000 in
theorem take_ring {w : World} {R G m f n : Nat} {cur : Array Value} (hring : RingAt w R G m f n cur) (x : Int) (l : List Int) (hl : l.length = n) (hb : Bears cur m f l) :
    Calls Try.prog 13 #[.pointer (some ⟨R, 0, none⟩), .int .i64 x] w fun e w' =>
      ∃ v, e = .returned v ∧ w'.ownsRow w.heap.size 5 1 v (l.take x.toNat).length ((l.take x.toNat).map (Value.int .u8)) ∧ Turned [R, G] w w' ∧
        RingAt w' R G m ((f + (l.take x.toNat).length) % m) (n - (l.take x.toNat).length) cur := by
  have hm := hring.hm
  have hn := hring.hn
  have hf := hring.hf
  have lR := lt_of_heap hring.hR
  have hq1 : (l.take x.toNat).length ≤ n := by rw [List.length_take]; omega
  have hpk := peek_ring hring x l hl hb
  generalize l.take x.toNat = l1 at hpk hq1 ⊢
  obtain ⟨q, hq⟩ : ∃ q, q = l1.length := ⟨_, rfl⟩
  rw [← hq] at hpk hq1 ⊢
  clear hq
  have HP := Lib.hid hpk
  clear hpk hl
  go_enter Try.func13, Try.ntmps13
  go_wp2_with fail
  refine HP.out.mono ?_
  rintro e w1 ⟨v, rfl, ho, ht⟩
  have hr := hring.kept ht (by simp) (by simp)
  obtain ⟨a, cap, rfl, hcap, -, hnil, -⟩ := owns_shape ho
  have c0 := hr.c0
  have c1 := hr.c1
  have c2 := hr.c2
  have z1 := hr.z 1
  have z2 := hr.z 2
  have HO := Lib.hid ho
  have HT := Lib.hid ht
  have HR := Lib.hid hr
  clear HP ho ht hnil hr
  by_cases hz : 0 < q
  · go_wp2
    go_region
    go_wp2
    go_ret
    have A1 : ((f : Int) + q) % m = ((f + q) % m : Nat) := by simp
    have A2 : (n : Int) - q = (n - q : Nat) := by omega
    rw [A1, A2]
    refine ⟨_, rfl, ?_, ?_, ?_⟩
    · refine Turned.owns (S := [R]) (w := w1) (((Turned.refl _ _).setCell (.inl (by simp)) _).setCell (.inl (by simp)) _).drew HO.out (fun k hk => ?_)
      have := (HO.out.lt k hk).1
      simp
      omega
    · exact (((HT.out.mono (by simp)).setCell (.inl (by simp)) _).setCell (.inl (by simp)) _).drew
    · exact ((HR.out.first _ (Nat.mod_lt _ (by omega))).count _ (by omega)).drew
  · go_wp2
    go_ret
    have hq0 : q = 0 := by omega
    subst hq0
    exact ⟨_, rfl, HO.out, HT.out.mono (by simp), by rw [Nat.add_zero, Nat.mod_eq_of_lt hf]; exact HR.out⟩

set_option maxRecDepth 100000 in
set_option maxHeartbeats 400000 in
theorem new_ring (m : Nat) (w : World) (h1 : 1 ≤ m) (h2 : m ≤ 4096) : Calls Try.prog 11 #[.int .i64 m] w fun e w' =>
    ∃ R G cur, e = .returned (.pointer (some ⟨R, 0, none⟩)) ∧ RingAt w' R G m 0 0 cur ∧ w.heap.size ≤ R ∧ w.heap.size ≤ G ∧ Turned [] w w' := by
  obtain ⟨i0, hi, hz0, hz1, hz2⟩ := info_parts Try.info5
  go_enter Try.func11, Try.ntmps11
  have q1 : i0.bytes * m ≤ 281474976710656 := by rw [hz2]; omega
  have q2 : m ≤ maxLen := by unfold maxLen; omega
  have Q1 := Lib.hid q1
  have Q2 := Lib.hid q2
  clear q1 q2
  go_wp2_with (at_make; refine wpList_make_full _ rfl _ _ 26 rfl w.heap.size 5 i0 (.int .u8 0) 1 Try.underlying26 hi hz0 hz1 .i64 .i64 _ _ m rfl rfl rfl rfl Q1.out Q2.out (Nat.le_refl _) ?_; intro w1 hown1 hgrow1)
  go_ret
  rcases hown1.2 with ⟨h0, _⟩ | ⟨g, cap, cur, hv, hg, hh, _, _, hs, _⟩
  · simp at h0
  · simp only [Value.slice.injEq, Option.some.injEq, Addr.mk.injEq, and_true, true_and] at hv
    obtain ⟨rfl, rfl⟩ := hv
    have hsz := hgrow1.size
    refine ⟨w1.heap.size, w.heap.size, cur, rfl, ⟨heap_alloc_new w1 _, ?_, by omega, ⟨h1, h2⟩, by omega, by omega⟩, hsz, Nat.le_refl _, ((Turned.refl _ _).grown hgrow1 (fun k hk => by cases hk)).alloc _⟩
    rw [Below.heap_alloc _ _ _ (lt_of_heap hh)]
    exact hh

/-- With nothing handed in, or no ring, nothing is put. -/
theorem put_empty {w : World} {R G m f n : Nat} {cur : Array Value} (hring : RingAt w R G m f n cur) (a : Option Addr) (cap : Nat) :
    Calls Try.prog 12 #[.pointer (some ⟨R, 0, none⟩), .slice a 0 cap] w fun e w' => e = .returned (.int .i64 0) ∧ ∃ k, w' = w.drewN k := by
  have hm := hring.hm
  have hn := hring.hn
  by_cases hr : n < m
  all_goals
    go_enter Try.func12, Try.ntmps12
    go_wp2_with (go_at_call 20; refine (room_ring hring).mono ?_; rintro e w' ⟨rfl, kk, rfl⟩)
    refine wp_loop_rounds 1 ?_
    rw [rounds_succ]
    go_wp2
    go_ret
    exact ⟨ret_int (by omega), _, rfl⟩

theorem put_nil (w : World) (a : Option Addr) (len cap : Nat) (hl : len ≤ maxLen) :
    Calls Try.prog 12 #[.pointer none, .slice a len cap] w fun e w' => e = .returned (.int .i64 0) ∧ w' = w := by
  unfold maxLen at hl
  by_cases hr : 0 < len
  all_goals
    go_enter Try.func12, Try.ntmps12
    go_wp2_with (go_at_call 20; refine (room_nil _).mono ?_; rintro e w' ⟨rfl, rfl⟩)
    refine wp_loop_rounds 1 ?_
    rw [rounds_succ]
    go_wp2
    go_ret
    exact ⟨ret_int (by omega), rfl⟩

theorem take_nil (w : World) (x : Int) : Calls Try.prog 13 #[.pointer none, .int .i64 x] w fun e w' => e = .returned (.slice none 0 0) ∧ w' = w := by
  go_enter Try.func13, Try.ntmps13
  go_wp2_with (go_at_call 14; refine (peek_nil _ _ (by omega)).mono ?_; rintro e w' ⟨rfl, rfl⟩)
  go_ret
  exact ⟨rfl, rfl⟩

end Go.Proofs.Yteaglbfodeineaa
