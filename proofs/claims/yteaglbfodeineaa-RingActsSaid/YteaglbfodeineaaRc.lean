/-
  The ring's Peek: the walk.
-/
import Derived.Test.YteaglbfodeineaaRb
import Derived.Deep.RegionHeld3
import Derived.Deep.AppendLies
namespace Go.Proofs.Yteaglbfodeineaa
open Go.RowKit

theorem Try.info5 : (Try.prog.info? 5).map (fun i => (i.zero, i.size, i.bytes)) = some (some (.int .u8 0), 1, 1) := by kernel_rfl

set_option maxRecDepth 100000 in
theorem peek_neg {w : World} {R G m f n : Nat} {cur : Array Value} (hring : RingAt w R G m f n cur) (x : Int) (hx : x < 0) :
    Calls Try.prog 14 #[.pointer (some ⟨R, 0, none⟩), .int .i64 x] w fun e w' => e = .returned (.slice none 0 0) ∧ w' = w := by
  have hm := hring.hm
  have hn := hring.hn
  go_enter Try.func14, Try.ntmps14
  go_wp2_with (go_at_call 19; refine (len_ring hring).mono ?_; rintro e w' ⟨rfl, rfl⟩)
  refine wp_loop_rounds 1 ?_
  rw [rounds_succ]
  go_wp2
  go_ret
  exact ⟨rfl, rfl⟩

theorem peek_nil (w : World) (x : Int) (hx : x < 0 ∨ x = 0 ∨ 0 < x) :
    Calls Try.prog 14 #[.pointer none, .int .i64 x] w fun e w' => e = .returned (.slice none 0 0) ∧ w' = w := by
  rcases hx with hx | rfl | hx
  all_goals
    go_enter Try.func14, Try.ntmps14
    go_wp2_with (go_at_call 19; refine (len_nil _).mono ?_; rintro e w' ⟨rfl, rfl⟩)
    refine wp_loop_rounds 1 ?_
    rw [rounds_succ]
    go_wp2
    go_ret
    exact ⟨rfl, rfl⟩

set_option maxRecDepth 100000 in
set_option maxHeartbeats 1000000 in
theorem peek_ring {w : World} {R G m f n : Nat} {cur : Array Value} (hring : RingAt w R G m f n cur) (x : Int) (l : List Int) (hl : l.length = n) (hb : Bears cur m f l) :
    Calls Try.prog 14 #[.pointer (some ⟨R, 0, none⟩), .int .i64 x] w fun e w' =>
      ∃ v, e = .returned v ∧ w'.ownsRow w.heap.size 5 1 v (l.take x.toNat).length ((l.take x.toNat).map (Value.int .u8)) ∧ Turned [] w w' := by
  have hm := hring.hm
  have hn := hring.hn
  have hf := hring.hf
  obtain ⟨i0, hi, hz0, hz1, hz2⟩ := info_parts Try.info5
  obtain ⟨q, hq⟩ : ∃ q, q = (l.take x.toNat).length := ⟨_, rfl⟩
  have hq0 : q = min x.toNat n := by rw [hq, List.length_take, hl]
  have hq1 : q ≤ n := by omega
  by_cases hx0 : x < 0
  · have e0 : x.toNat = 0 := by omega
    refine (peek_neg hring x hx0).mono ?_
    rintro e w' ⟨rfl, rfl⟩
    rw [e0]
    exact ⟨_, rfl, World.ownsRow_nil _ _ _ _, Turned.refl _ _⟩
  have hq2 : (0 ≤ x ∧ x ≤ n ∧ q ≤ x ∧ x ≤ q) ∨ n < x ∧ n ≤ q := by omega
  have hll : n ≤ l.length := by omega
  have HT : l.take q = l.take x.toNat := by
    rw [hq, List.length_take]
    rcases Nat.le_total x.toNat l.length with c | c
    · rw [Nat.min_eq_left c]
    · rw [Nat.min_eq_right c, List.take_of_length_le c, List.take_length]
  rw [← hq, ← HT]
  clear hq0 hl hq HT
  clear hx0
  rcases hq2 with ⟨hx, hx', hqx, hqx'⟩ | ⟨hx, hqx⟩
  all_goals
    go_enter Try.func14, Try.ntmps14
    go_wp2_with (go_at_call 19; refine (len_ring hring).mono ?_; rintro e w' ⟨rfl, rfl⟩)
    go_loopw [5, 12] (fun v i wr => ∃ (k : Nat), k ≤ q ∧ i = .int .i64 k ∧ Turned [] w' wr ∧ wr.ownsRow w'.heap.size 5 1 v k ((l.take k).map (Value.int .u8))) (fun _ i _ => q - (intOf i).toNat)
    case atStart => exact ⟨0, by omega, rfl, Turned.refl _ _, World.ownsRow_nil _ _ _ _⟩
    case round =>
      obtain ⟨k, hk, rfl, ht, ho⟩ := hrel
      obtain ⟨v, rfl⟩ : ∃ v, v = u5 := ⟨_, rfl⟩
      have hr := hring.kept ht (by simp) (by simp)
      have c0 := hr.c0
      have c1 := hr.c1
      have c2 := hr.c2
      by_cases hlt : k < q
      · have hi0 : 0 ≤ ((f : Int) + k) % m := Int.emod_nonneg _ (by omega)
        have hi1 : ((f : Int) + k) % m < m := Int.emod_lt_of_pos _ (by omega)
        obtain ⟨vv, cg, cv⟩ := hr.cG ((f + k) % m) (Nat.mod_lt _ (by omega))
        obtain rfl : vv = .int .u8 (l.getD k 0) := by
          have := hb k (by omega)
          rw [cv] at this
          exact Option.some.inj this
        clear cv
        obtain ⟨y, hy⟩ : ∃ y, y = l.getD k 0 := ⟨_, rfl⟩
        rw [← hy] at cg
        have HY := Lib.hid hy
        clear hy
        have lR := lt_of_heap hring.hR
        have lG := lt_of_heap hring.hG
        have lw := ht.size
        have hlt2 := ho.lt
        have aR : v.ownBlock ≠ some R := fun e => by have := (hlt2 _ e).1; omega
        have aG : v.ownBlock ≠ some G := fun e => by have := (hlt2 _ e).1; omega
        have lR' : R < wr.heap.size := by omega
        have lG' : G < wr.heap.size := by omega
        clear hlt2
        have hw1 : IntKind.i64.wrap ((f : Int) + k) = f + k := IntWalk.i64_in _ (by omega)
        have hw2 : ((f : Int) + k).tmod m = ((f : Int) + k) % m := Int.tmod_eq_emod_of_nonneg (by omega)
        have hw3 : ¬ m = 0 := by omega
        have eN : ((f : Int) + k) % m = ((f + k) % m : Nat) := by simp
        have cg' : wr.cell? ⟨G, (((f : Int) + k) % m).toNat, none⟩ = some (.int .u8 y) := by rw [eN, Int.toNat_natCast]; exact cg
        clear eN
        go_wp2
        go_region_held3 (fun w' => w'.cell? ⟨R, 0, none⟩ = some (.slice (some ⟨G, 0, none⟩) m m) ∧ w'.cell? ⟨R, 1, none⟩ = some (.int .i64 f) ∧ w'.cell? ⟨G, (((f : Int) + k) % m).toNat, none⟩ = some (.int .u8 y))
          (first | go_keep | (go_split_ands; exact ⟨keepc hgrow aR (by assumption), keepc hgrow aR (by assumption), keepc hgrow aG (by assumption)⟩))
          ((refine step_append_lies _ (by rfl) _ _ _ (by rfl) _ 5 i0 _ 1 1 Try.underlying26 hi hz0 hz1 hz2 rfl (by omega) v k _ (by rfl) ((ho.alloc _).drew)
              ⟨wr.heap.size, 0, none⟩ 1 1 [.int .u8 y] (by rfl) (by rfl) (World.news_of_block (cs := #[.int .u8 y]) (t := 5) (fr := (0, 0)) (heap_alloc_new wr _)) (by simp [Value.oneCell'])
              (by omega) (by unfold maxLen; omega) (by omega) (by simp; omega) (wr.heap.size + 1) (by simp) ?_; intro gg cap w1 hown1 hgrow hat hlt))
        have R1 : w1.ownsRow w'.heap.size 5 1 (.slice (some ⟨gg, 0, none⟩) (k + 1) cap) (k + 1) ((l.take (k + 1)).map (Value.int .u8)) := by
          rw [take_u8 l k y (by omega) HY.out]; exact hown1
        have R2 : Turned [] w' w1 := (((ht.alloc _).drew).grown hgrow (fun j hj => .inr (ho.lt j hj).1))
        clear hown1 hgrow ho ht hr
        go_wp2
        go_roundw
        case rel => exact ⟨k + 1, by omega, by go_num, R2, R1⟩
        case measure => simp [intOf]; omega
      · obtain rfl : k = q := by omega
        go_wp2
        go_ret
        exact ⟨_, rfl, ho, ht⟩

end Go.Proofs.Yteaglbfodeineaa
