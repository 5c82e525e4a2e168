/-
  Whether two lists of passed descriptors are one: slices.EqualFunc with its closure.
-/
import Derived.Test.YteaglbfodeineaaPassed
namespace Go.Proofs.Yteaglbfodeineaa
open Go.RowKit

theorem map_ne {α β : Type} {f : α → β} {l m : List α} {k : Nat} {x y : α} (hx : l[k]? = some x) (hy : m[k]? = some y) (h : f x ≠ f y) : l.map f ≠ m.map f := fun e => by
  have := congrArg (·[k]?) e
  simp [hx, hy] at this
  exact h this

set_option maxHeartbeats 4000000 in
theorem equalf_passed {w : World} {s t : Sl PassedV} (hs : RSl 5 RPassed w s) (ht : RSl 5 RPassed w t) :
    Calls Try.prog 79 #[s.v, t.v, .func (.func 80) #[] #[]] w fun e w' => e = .returned (.bool (decide (s.xs.map PassedV.key = t.xs.map PassedV.key))) ∧ Turned [] w w' := by
  obtain ⟨a, n, c, xs⟩ := s
  obtain ⟨a', n', c', ys⟩ := t
  have hl := hs.lc
  have hc := hs.cm
  have hn := hs.n
  have HAT := Lib.hid hs.at_
  have hl' := ht.lc
  have hc' := ht.cm
  have hn' := ht.n
  have HAT' := Lib.hid ht.at_
  clear hs ht
  simp only at hl hc hn hl' hc' hn'
  unfold maxLen at hc hc'
  simp only [Sl.v]
  by_cases hnn : n = n'
  · subst hnn
    go_enter Try.func79, Try.ntmps79
    go_wp2
    go_loopw [17] (fun i wr => ∃ k : Nat, k ≤ n ∧ i = .int .i64 k ∧ Turned [] w wr ∧ ∀ j, j < k → (xs.map PassedV.key)[j]? = (ys.map PassedV.key)[j]?) (fun i _ => n - (intOf i).toNat)
    case atStart => exact ⟨0, by omega, rfl, Turned.refl _ _, fun j h => by omega⟩
    case round =>
      obtain ⟨k, hk, rfl, hT, hno⟩ := hrel
      have HNO := Lib.hid hno
      have HT := Lib.hid hT
      clear hno hT
      by_cases hlt : k < n
      · obtain ⟨x, hx⟩ : ∃ x, xs[k]? = some x := ⟨xs[k], by simp⟩
        obtain ⟨y, hy⟩ : ∃ y, ys[k]? = some y := ⟨ys[k], by simp⟩
        have HX := Lib.hid hx
        have HY := Lib.hid hy
        obtain ⟨b, o, hab, e0, e1, e2, e3, e4, -, r1⟩ := passed_cells ((HAT.out k x hx).stays stays_passed HT.out)
        obtain ⟨b', o', hab', f0, f1, f2, f3, f4, -, r2⟩ := passed_cells ((HAT'.out k y hy).stays stays_passed HT.out)
        have HR : Hid (∀ w1, Turned [] wr w1 → Calls Try.prog 80 #[x.val, y.val] w1 fun e w' => e = .returned (.bool (decide (x.key = y.key))) ∧ Turned [] w1 w') := Lib.hid fun w1 h => passed_eq (r1.stays (stays_int _) h) (r2.stays (stays_int _) h)
        simp only [Sl.v] at e3 f3
        unfold PassedV.val at HR
        simp only [Sl.v] at HR
        rw [hab, hab']
        have hbl : b' < wr.heap.size := World.block_lt_of_cell? wr _ f0
        have hbn : ¬ b' = wr.heap.size := by omega
        clear hx hy r1 r2
        by_cases he : x.key = y.key
        · have HE := Lib.hid he
          rw [show decide (x.key = y.key) = true by simp [he]] at HR
          clear he
          go_wp2_with (go_at_call 80; refine (HR.out _ (((Turned.refl [] wr).alloc _).alloc _)).mono ?_; rintro e w2 ⟨rfl, ht2⟩; have HT2 := Lib.hid (HT.out.trans ((((Turned.refl [] wr).alloc _).alloc _).trans ht2)); clear ht2)
          go_roundw
          case rel => exact ⟨k + 1, by omega, by go_num, HT2.out, eq_on HNO.out (by rw [List.getElem?_map, HX.out]; rfl) (by rw [List.getElem?_map, HY.out]; rfl) HE.out⟩
          case measure => simp [intOf]; omega
        · have HE := Lib.hid he
          rw [show decide (x.key = y.key) = false by simp [he]] at HR
          clear he
          go_wp2_with (go_at_call 80; refine (HR.out _ (((Turned.refl [] wr).alloc _).alloc _)).mono ?_; rintro e w2 ⟨rfl, ht2⟩; have HT2 := Lib.hid (HT.out.trans ((((Turned.refl [] wr).alloc _).alloc _).trans ht2)); clear ht2)
          go_ret
          exact ⟨ret_b (by simp [map_ne HX.out HY.out HE.out]), HT2.out⟩
      · have hk' : k = n := by omega
        go_wp2
        go_ret
        exact ⟨ret_b (by simp [eq_all HNO.out (by simp; omega) (by simp; omega)]), HT.out⟩
  · have HNN := Lib.hid hnn
    go_enter Try.func79, Try.ntmps79
    go_wp2
    go_ret
    exact ⟨ret_b (by have : xs.map PassedV.key ≠ ys.map PassedV.key := fun e => HNN.out (by have := congrArg List.length e; simp at this; omega); simp [this]), Turned.refl _ _⟩
end Go.Proofs.Yteaglbfodeineaa
