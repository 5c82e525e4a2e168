/-
  The ring's Put: the walk.
-/
import Derived.Test.YteaglbfodeineaaRa
import Derived.Test.YteaglbfodeineaaTurn
import Derived.Test.YteaglbfodeineaaPlainR
import Derived.Handy
namespace Go.Proofs.Yteaglbfodeineaa
open Go.RowKit

theorem RingAt.kept {S : List Nat} {w w' : World} {R G m f n : Nat} {cur} (h : RingAt w R G m f n cur) (ht : Turned S w w') (h1 : R ∉ S) (h2 : G ∉ S) : RingAt w' R G m f n cur :=
  ⟨ht.keep h.hR h1, ht.keep h.hG h2, h.hs, h.hm, h.hf, h.hn⟩

theorem RingAt.drewN {w : World} {R G m f n : Nat} {cur} (h : RingAt w R G m f n cur) (k : Nat) : RingAt (w.drewN k) R G m f n cur := ⟨h.hR, h.hG, h.hs, h.hm, h.hf, h.hn⟩
theorem RingAt.drew {w : World} {R G m f n : Nat} {cur} (h : RingAt w R G m f n cur) : RingAt w.drew R G m f n cur := ⟨h.hR, h.hG, h.hs, h.hm, h.hf, h.hn⟩

theorem RingAt.store {w : World} {R G m f n : Nat} {cur} (h : RingAt w R G m f n cur) (j : Nat) (u : Value) : RingAt (w.setCell ⟨G, j, none⟩ u) R G m f n (cur.setIfInBounds j u) :=
  ⟨(Below.heap_setCell _ _ _ _ h.ne).trans h.hR, heap_setCell_same h.hG u, by simpa using h.hs, h.hm, h.hf, h.hn⟩

theorem RingAt.count {w : World} {R G m f n : Nat} {cur} (h : RingAt w R G m f n cur) (k : Nat) (hk : k ≤ m) : RingAt (w.setCell ⟨R, 2, none⟩ (.int .i64 k)) R G m f k cur :=
  ⟨by rw [heap_setCell_same h.hR]; rfl, (Below.heap_setCell _ _ _ _ (Ne.symm h.ne)).trans h.hG, h.hs, h.hm, h.hf, hk⟩

theorem RingAt.first {w : World} {R G m f n : Nat} {cur} (h : RingAt w R G m f n cur) (k : Nat) (hk : k < m) : RingAt (w.setCell ⟨R, 1, none⟩ (.int .i64 k)) R G m k n cur :=
  ⟨by rw [heap_setCell_same h.hR]; rfl, (Below.heap_setCell _ _ _ _ (Ne.symm h.ne)).trans h.hG, h.hs, h.hm, hk, h.hn⟩

theorem RingAt.cG {w : World} {R G m f n : Nat} {cur} (h : RingAt w R G m f n cur) (j : Nat) (hj : j < m) : ∃ v, w.cell? ⟨G, j, none⟩ = some v ∧ cur[j]? = some v := by
  have := h.hs
  exact ⟨cur[j], by simp [World.cell?, h.hG], by simp⟩
theorem RingAt.zG {w : World} {R G m f n : Nat} {cur} (h : RingAt w R G m f n cur) (j : Nat) : w.frozen? ⟨G, j, none⟩ = false := by
  simp [World.frozen?, h.hG]

theorem ret_int {k : IntKind} {a b : Int} (h : a = b) : Ending.returned (.int k a) = .returned (.int k b) := by rw [h]

theorem put_count {w : World} {R G m f n : Nat} {cur} (h : RingAt w R G m f n cur) (q : Nat) {x : Int} (hx : x = n + q) (hq : n + q ≤ m) : RingAt (w.setCell ⟨R, 2, none⟩ (.int .i64 x)) R G m f (n + q) cur := by
  subst hx
  exact h.count (n + q) hq

set_option maxHeartbeats 1000000 in
theorem put_ring {w : World} {R G m f n : Nat} {cur : Array Value} (hring : RingAt w R G m f n cur) (S o len cap q : Nat) (zs : List Int) (hSR : S ≠ R) (hSG : S ≠ G) (hl : len ≤ maxLen)
    (hc : ∀ j, j < len → w.cell? ⟨S, o + j, none⟩ = some (.int .u8 (zs.getD j 0))) (hq : q = min len (m - n)) :
    Calls Try.prog 12 #[.pointer (some ⟨R, 0, none⟩), .slice (some ⟨S, o, none⟩) len cap] w fun e w' =>
      ∃ cur', e = .returned (.int .i64 q) ∧ RingAt w' R G m f (n + q) cur' ∧ Turned [R, G] w w' ∧ PutTo cur cur' m (f + n) zs q := by
  have hm := hring.hm
  have hn := hring.hn
  have hf := hring.hf
  unfold maxLen at hl
  have hq1 : q ≤ len := by omega
  have hq2 : q + n ≤ m := by omega
  have hq3 : len ≤ q ∨ m ≤ q + n := by omega
  clear hq
  go_enter Try.func12, Try.ntmps12
  go_wp2_with (go_at_call 20; refine (room_ring hring).mono ?_; rintro e w' ⟨rfl, kk, rfl⟩)
  all_goals
    go_loopw [13] (fun i wr => ∃ (k : Nat) (cur' : Array Value), k ≤ q ∧ i = .int .i64 k ∧ RingAt wr R G m f n cur' ∧ Turned [R, G] w wr ∧ PutTo cur cur' m (f + n) zs k) (fun i _ => q - (intOf i).toNat)
    case atStart => exact ⟨0, cur, by omega, rfl, hring.drewN kk, (Turned.refl _ _).drewN kk, PutTo.start _ _ _ _⟩
    case round =>
      obtain ⟨k, cur', hk, rfl, hr, ht, hp⟩ := hrel
      have c0 := hr.c0
      have c1 := hr.c1
      have c2 := hr.c2
      have z2 := hr.z 2
      by_cases hlt : k < q
      · have cs : wr.cell? ⟨S, o + k, none⟩ = some (.int .u8 (zs.getD k 0)) := ht.cell (hc k (by omega)) (by simp [hSR, hSG])
        obtain ⟨v, cg, _⟩ := hr.cG ((f + n + k) % m) (Nat.mod_lt _ (by omega))
        have zg := hr.zG ((f + n + k) % m)
        have hi0 : 0 ≤ ((f : Int) + n + k) % m := Int.emod_nonneg _ (by omega)
        have hi1 : ((f : Int) + n + k) % m < m := Int.emod_lt_of_pos _ (by omega)
        go_wp2
        go_region
        go_wp2
        go_roundw
        case rel => exact ⟨k + 1, _, by omega, by go_num, (hr.store _ _).drew, (ht.setCell (.inl (by simp)) _).drew, hp.step (by omega) hr.hs⟩
        case measure => simp [intOf]; omega
      · obtain rfl : k = q := by omega
        by_cases hz : 0 < k
        · go_wp2
          go_ret
          exact ⟨cur', ret_int (by omega), put_count hr k (by omega) (by omega), ht.setCell (.inl (by simp)) _, hp⟩
        · have hz0 : k = 0 := by omega
          clear hc
          subst hz0
          go_wp2
          go_ret
          exact ⟨cur', ret_int (by omega), hr, ht, hp⟩

end Go.Proofs.Yteaglbfodeineaa
