/-
  Whether two lists are one, and whether a thing is in a list: the walks.
-/
import Derived.Test.YteaglbfodeineaaPlaces
import Derived.Handy
import Derived.Test.YteaglbfodeineaaStructs
namespace Go.Proofs.Yteaglbfodeineaa
open Go.RowKit

theorem ret_b {a b : Bool} (h : a = b) : Ending.returned (.bool a) = .returned (.bool b) := by rw [h]

/-- Two lists that agree up to k. -/
theorem eq_on {α : Type} {l m : List α} {k : Nat} {x y : α} (h : ∀ j, j < k → l[j]? = m[j]?) (hx : l[k]? = some x) (hy : m[k]? = some y) (e : x = y) : ∀ j, j < k + 1 → l[j]? = m[j]? := fun j hj => by
  by_cases e' : j = k
  · subst e'; rw [hx, hy, e]
  · exact h j (by omega)
theorem eq_all {α : Type} {l m : List α} {k : Nat} (h : ∀ j, j < k → l[j]? = m[j]?) (hl : l.length = k) (hm : m.length = k) : l = m := by
  apply List.ext_getElem?
  intro j
  by_cases hj : j < k
  · exact h j hj
  · rw [List.getElem?_eq_none (by omega), List.getElem?_eq_none (by omega)]
theorem bytes_eq {x y : ByteArray} : x.toList = y.toList ↔ x = y := by
  rw [Go.ByteArray.toList_eq, Go.ByteArray.toList_eq]
  exact ⟨fun h => ByteArray.ext (Array.toList_inj.1 h), fun h => by rw [h]⟩
theorem ne_at {α : Type} {l m : List α} {k : Nat} {x y : α} (hx : l[k]? = some x) (hy : m[k]? = some y) (e : x ≠ y) : l ≠ m := fun he => by
  subst he; rw [hx] at hy; exact e (Option.some.inj hy)

set_option maxHeartbeats 1000000 in
theorem eq_names {w : World} {s t : Sl ByteArray} (hs : RSl 1 RStr w s) (ht : RSl 1 RStr w t) :
    Calls Try.prog 34 #[s.v, t.v] w fun e w' => e = .returned (.bool (decide (s.xs = t.xs))) ∧ Turned [] w w' := by
  obtain ⟨a, n, c, xs⟩ := s
  obtain ⟨a', n', c', ys⟩ := t
  have hl := hs.lc
  have hc := hs.cm
  have hn := hs.n
  have HAT := Lib.hid hs.at_
  have hl' := ht.lc
  have hc' := ht.cm
  have hn' := ht.n
  have HAT' := Lib.hid ht.at_
  clear hs ht
  simp only at hl hc hn hl' hc' hn'
  unfold maxLen at hc hc'
  simp only [Sl.v]
  go_enter Try.func34, Try.ntmps34
  by_cases hnn : n = n'
  · subst hnn
    go_wp2
    go_loopw [5] (fun i wr => ∃ k : Nat, k ≤ n ∧ i = .int .i64 k ∧ Turned [] w wr ∧ ∀ j, j < k → xs[j]? = ys[j]?) (fun i _ => n - (intOf i).toNat)
    case atStart => exact ⟨0, by omega, rfl, Turned.refl _ _, fun j h => by omega⟩
    case round =>
      obtain ⟨k, hk, rfl, hT, hno⟩ := hrel
      have HNO := Lib.hid hno
      have HT := Lib.hid hT
      clear hno hT
      by_cases hlt : k < n
      · obtain ⟨x, hx⟩ : ∃ x, xs[k]? = some x := ⟨xs[k], by simp⟩
        obtain ⟨y, hy⟩ : ∃ y, ys[k]? = some y := ⟨ys[k], by simp⟩
        have HX := Lib.hid hx
        have HY := Lib.hid hy
        obtain ⟨b, o, rfl, e0, ws⟩ := str_cells ((HAT.out k x hx).stays stays_str HT.out)
        obtain ⟨b', o', rfl, e0', ws'⟩ := str_cells ((HAT'.out k y hy).stays stays_str HT.out)
        clear hx hy
        by_cases he : x = y
        · subst he
          have hb : (!(x.toList == x.toList)) = false := by simp
          go_wp2
          go_quiet (fail)
          go_wp2
          go_roundw
          case rel => exact ⟨k + 1, by omega, by go_num, HT.out.drewN _, eq_on HNO.out HX.out HY.out rfl⟩
          case measure => simp [intOf]; omega
        · have HE := Lib.hid he
          have hb : (!(x.toList == y.toList)) = true := by simpa [bytes_eq] using he
          clear he
          go_wp2
          go_quiet (fail)
          go_wp2
          go_ret
          exact ⟨ret_b (by simp [ne_at HX.out HY.out HE.out]), HT.out.drewN _⟩
      · have hk' : k = n := by omega
        go_wp2
        go_ret
        exact ⟨ret_b (by simp [eq_all HNO.out (by omega) (by omega)]), HT.out⟩
  · go_wp2
    go_ret
    exact ⟨ret_b (by have : xs ≠ ys := fun e => hnn (by rw [← hn, ← hn', e]); simp [this]), Turned.refl _ _⟩

set_option maxHeartbeats 1000000 in
theorem eq_nums {w : World} {s t : Sl Int} (hs : RSl 1 (RInt .i64) w s) (ht : RSl 1 (RInt .i64) w t) :
    Calls Try.prog 35 #[s.v, t.v] w fun e w' => e = .returned (.bool (decide (s.xs = t.xs))) ∧ Turned [] w w' := by
  obtain ⟨a, n, c, xs⟩ := s
  obtain ⟨a', n', c', ys⟩ := t
  have hl := hs.lc
  have hc := hs.cm
  have hn := hs.n
  have HAT := Lib.hid hs.at_
  have hl' := ht.lc
  have hc' := ht.cm
  have hn' := ht.n
  have HAT' := Lib.hid ht.at_
  clear hs ht
  simp only at hl hc hn hl' hc' hn'
  unfold maxLen at hc hc'
  simp only [Sl.v]
  go_enter Try.func35, Try.ntmps35
  by_cases hnn : n = n'
  · subst hnn
    go_wp2
    go_loopw [5] (fun i wr => ∃ k : Nat, k ≤ n ∧ i = .int .i64 k ∧ Turned [] w wr ∧ ∀ j, j < k → xs[j]? = ys[j]?) (fun i _ => n - (intOf i).toNat)
    case atStart => exact ⟨0, by omega, rfl, Turned.refl _ _, fun j h => by omega⟩
    case round =>
      obtain ⟨k, hk, rfl, hT, hno⟩ := hrel
      have HNO := Lib.hid hno
      have HT := Lib.hid hT
      clear hno hT
      by_cases hlt : k < n
      · obtain ⟨x, hx⟩ : ∃ x, xs[k]? = some x := ⟨xs[k], by simp⟩
        obtain ⟨y, hy⟩ : ∃ y, ys[k]? = some y := ⟨ys[k], by simp⟩
        have HX := Lib.hid hx
        have HY := Lib.hid hy
        obtain ⟨b, o, rfl, e0⟩ := int_cells ((HAT.out k x hx).stays (stays_int _) HT.out)
        obtain ⟨b', o', rfl, e0'⟩ := int_cells ((HAT'.out k y hy).stays (stays_int _) HT.out)
        clear hx hy
        by_cases he : x = y
        · subst he
          have hb : ((x != x)) = false := by simp
          go_wp2
          go_quiet (fail)
          go_wp2
          go_roundw
          case rel => exact ⟨k + 1, by omega, by go_num, HT.out.drewN _, eq_on HNO.out HX.out HY.out rfl⟩
          case measure => simp [intOf]; omega
        · have HE := Lib.hid he
          have hb : ((x != y)) = true := by simp [he]
          clear he
          go_wp2
          go_quiet (fail)
          go_wp2
          go_ret
          exact ⟨ret_b (by simp [ne_at HX.out HY.out HE.out]), HT.out.drewN _⟩
      · have hk' : k = n := by omega
        go_wp2
        go_ret
        exact ⟨ret_b (by simp [eq_all HNO.out (by omega) (by omega)]), HT.out⟩
  · go_wp2
    go_ret
    exact ⟨ret_b (by have : xs ≠ ys := fun e => hnn (by rw [← hn, ← hn', e]); simp [this]), Turned.refl _ _⟩

set_option maxHeartbeats 1000000 in
theorem equal_strs {w : World} {s t : Sl ByteArray} (hs : RSl 1 RStr w s) (ht : RSl 1 RStr w t) :
    Calls Try.prog 68 #[s.v, t.v] w fun e w' => e = .returned (.bool (decide (s.xs = t.xs))) ∧ Turned [] w w' := by
  obtain ⟨a, n, c, xs⟩ := s
  obtain ⟨a', n', c', ys⟩ := t
  have hl := hs.lc
  have hc := hs.cm
  have hn := hs.n
  have HAT := Lib.hid hs.at_
  have hl' := ht.lc
  have hc' := ht.cm
  have hn' := ht.n
  have HAT' := Lib.hid ht.at_
  clear hs ht
  simp only at hl hc hn hl' hc' hn'
  unfold maxLen at hc hc'
  simp only [Sl.v]
  go_enter Try.func68, Try.ntmps68
  by_cases hnn : n = n'
  · subst hnn
    go_wp2
    go_loopw [13] (fun i wr => ∃ k : Nat, k ≤ n ∧ i = .int .i64 k ∧ Turned [] w wr ∧ ∀ j, j < k → xs[j]? = ys[j]?) (fun i _ => n - (intOf i).toNat)
    case atStart => exact ⟨0, by omega, rfl, Turned.refl _ _, fun j h => by omega⟩
    case round =>
      obtain ⟨k, hk, rfl, hT, hno⟩ := hrel
      have HNO := Lib.hid hno
      have HT := Lib.hid hT
      clear hno hT
      by_cases hlt : k < n
      · obtain ⟨x, hx⟩ : ∃ x, xs[k]? = some x := ⟨xs[k], by simp⟩
        obtain ⟨y, hy⟩ : ∃ y, ys[k]? = some y := ⟨ys[k], by simp⟩
        have HX := Lib.hid hx
        have HY := Lib.hid hy
        obtain ⟨b, o, rfl, e0, ws⟩ := str_cells ((HAT.out k x hx).stays stays_str HT.out)
        obtain ⟨b', o', rfl, e0', ws'⟩ := str_cells ((HAT'.out k y hy).stays stays_str HT.out)
        clear hx hy
        by_cases he : x = y
        · subst he
          have hb : (!(x.toList == x.toList)) = false := by simp
          go_wp2
          go_quiet (fail)
          go_wp2
          go_roundw
          case rel => exact ⟨k + 1, by omega, by go_num, HT.out.drewN _, eq_on HNO.out HX.out HY.out rfl⟩
          case measure => simp [intOf]; omega
        · have HE := Lib.hid he
          have hb : (!(x.toList == y.toList)) = true := by simpa [bytes_eq] using he
          clear he
          go_wp2
          go_quiet (fail)
          go_wp2
          go_ret
          exact ⟨ret_b (by simp [ne_at HX.out HY.out HE.out]), HT.out.drewN _⟩
      · have hk' : k = n := by omega
        go_wp2
        go_ret
        exact ⟨ret_b (by simp [eq_all HNO.out (by omega) (by omega)]), HT.out⟩
  · go_wp2
    go_ret
    exact ⟨ret_b (by have : xs ≠ ys := fun e => hnn (by rw [← hn, ← hn', e]); simp [this]), Turned.refl _ _⟩

set_option maxHeartbeats 1000000 in
theorem equal_ints {w : World} {s t : Sl Int} (hs : RSl 1 (RInt .i64) w s) (ht : RSl 1 (RInt .i64) w t) :
    Calls Try.prog 69 #[s.v, t.v] w fun e w' => e = .returned (.bool (decide (s.xs = t.xs))) ∧ Turned [] w w' := by
  obtain ⟨a, n, c, xs⟩ := s
  obtain ⟨a', n', c', ys⟩ := t
  have hl := hs.lc
  have hc := hs.cm
  have hn := hs.n
  have HAT := Lib.hid hs.at_
  have hl' := ht.lc
  have hc' := ht.cm
  have hn' := ht.n
  have HAT' := Lib.hid ht.at_
  clear hs ht
  simp only at hl hc hn hl' hc' hn'
  unfold maxLen at hc hc'
  simp only [Sl.v]
  go_enter Try.func69, Try.ntmps69
  by_cases hnn : n = n'
  · subst hnn
    go_wp2
    go_loopw [13] (fun i wr => ∃ k : Nat, k ≤ n ∧ i = .int .i64 k ∧ Turned [] w wr ∧ ∀ j, j < k → xs[j]? = ys[j]?) (fun i _ => n - (intOf i).toNat)
    case atStart => exact ⟨0, by omega, rfl, Turned.refl _ _, fun j h => by omega⟩
    case round =>
      obtain ⟨k, hk, rfl, hT, hno⟩ := hrel
      have HNO := Lib.hid hno
      have HT := Lib.hid hT
      clear hno hT
      by_cases hlt : k < n
      · obtain ⟨x, hx⟩ : ∃ x, xs[k]? = some x := ⟨xs[k], by simp⟩
        obtain ⟨y, hy⟩ : ∃ y, ys[k]? = some y := ⟨ys[k], by simp⟩
        have HX := Lib.hid hx
        have HY := Lib.hid hy
        obtain ⟨b, o, rfl, e0⟩ := int_cells ((HAT.out k x hx).stays (stays_int _) HT.out)
        obtain ⟨b', o', rfl, e0'⟩ := int_cells ((HAT'.out k y hy).stays (stays_int _) HT.out)
        clear hx hy
        by_cases he : x = y
        · subst he
          have hb : ((x != x)) = false := by simp
          go_wp2
          go_quiet (fail)
          go_wp2
          go_roundw
          case rel => exact ⟨k + 1, by omega, by go_num, HT.out.drewN _, eq_on HNO.out HX.out HY.out rfl⟩
          case measure => simp [intOf]; omega
        · have HE := Lib.hid he
          have hb : ((x != y)) = true := by simp [he]
          clear he
          go_wp2
          go_quiet (fail)
          go_wp2
          go_ret
          exact ⟨ret_b (by simp [ne_at HX.out HY.out HE.out]), HT.out.drewN _⟩
      · have hk' : k = n := by omega
        go_wp2
        go_ret
        exact ⟨ret_b (by simp [eq_all HNO.out (by omega) (by omega)]), HT.out⟩
  · go_wp2
    go_ret
    exact ⟨ret_b (by have : xs ≠ ys := fun e => hnn (by rw [← hn, ← hn', e]); simp [this]), Turned.refl _ _⟩

set_option maxHeartbeats 1000000 in
theorem in_nums {w : World} {s : Sl Int} (hs : RSl 1 (RInt .i64) w s) {z : Int} :
    Calls Try.prog 93 #[s.v, .int .i64 z] w fun e w' => e = .returned (.bool (decide (z ∈ s.xs))) ∧ Turned [] w w' := by
  obtain ⟨a, n, c, xs⟩ := s
  have hl := hs.lc
  have hc := hs.cm
  have hn := hs.n
  have HAT := Lib.hid hs.at_
  clear hs
  simp only at hl hc hn
  unfold maxLen at hc
  simp only [Sl.v]
  go_enter Try.func93, Try.ntmps93
  go_wp2
  go_loopw [5] (fun i wr => ∃ k : Nat, k ≤ n ∧ i = .int .i64 k ∧ Turned [] w wr ∧ ∀ j, j < k → xs[j]? ≠ some z) (fun i _ => n - (intOf i).toNat)
  case atStart => exact ⟨0, by omega, rfl, Turned.refl _ _, fun j h => by omega⟩
  case round =>
    obtain ⟨k, hk, rfl, hT, hno⟩ := hrel
    have HNO := Lib.hid hno
    have HT := Lib.hid hT
    clear hno hT
    by_cases hlt : k < n
    · obtain ⟨x, hx⟩ : ∃ x, xs[k]? = some x := ⟨xs[k], by simp⟩
      have HX := Lib.hid hx
      obtain ⟨b, o, rfl, e0⟩ := int_cells ((HAT.out k x hx).stays (stays_int _) HT.out)
      clear hx
      by_cases he : x = z
      · have HE := Lib.hid he
        have hb : (x == z) = true := by simp [he]
        clear he
        go_wp2
        go_ret
        exact ⟨ret_b (by simp [List.mem_iff_getElem?]; exact ⟨k, by rw [HX.out, HE.out]⟩), HT.out⟩
      · have HE := Lib.hid he
        have hb : (x == z) = false := by simp [he]
        clear he
        go_wp2
        go_roundw
        case rel => exact ⟨k + 1, by omega, by go_num, HT.out, ix_on HNO.out (by rw [HX.out]; simpa using HE.out)⟩
        case measure => simp [intOf]; omega
    · have hk' : n ≤ k := by omega
      go_wp2
      go_ret
      exact ⟨ret_b (by simp; intro hm; obtain ⟨j, hj, e⟩ := List.mem_iff_getElem.1 hm; exact HNO.out j (by omega) (by rw [List.getElem?_eq_getElem hj, e])), HT.out⟩

set_option maxHeartbeats 1000000 in
theorem same_objs {w : World} {s t : Sl Ob} (hs : RSl 2 RObj w s) (ht : RSl 2 RObj w t) :
    Calls Try.prog 23 #[s.v, t.v] w fun e w' => e = .returned (.bool (decide (s.xs = t.xs))) ∧ Turned [] w w' := by
  obtain ⟨a, n, c, xs⟩ := s
  obtain ⟨a', n', c', ys⟩ := t
  have hl := hs.lc
  have hc := hs.cm
  have hn := hs.n
  have HAT := Lib.hid hs.at_
  have hl' := ht.lc
  have hc' := ht.cm
  have hn' := ht.n
  have HAT' := Lib.hid ht.at_
  clear hs ht
  simp only at hl hc hn hl' hc' hn'
  unfold maxLen at hc hc'
  simp only [Sl.v]
  go_enter Try.func23, Try.ntmps23
  by_cases hnn : n = n'
  · subst hnn
    go_wp2
    go_loopw [5] (fun i wr => ∃ k : Nat, k ≤ n ∧ i = .int .i64 k ∧ Turned [] w wr ∧ ∀ j, j < k → xs[j]? = ys[j]?) (fun i _ => n - (intOf i).toNat)
    case atStart => exact ⟨0, by omega, rfl, Turned.refl _ _, fun j h => by omega⟩
    case round =>
      obtain ⟨k, hk, rfl, hT, hno⟩ := hrel
      have HNO := Lib.hid hno
      have HT := Lib.hid hT
      clear hno hT
      by_cases hlt : k < n
      · obtain ⟨x, hx⟩ : ∃ x, xs[k]? = some x := ⟨xs[k], by simp⟩
        obtain ⟨y, hy⟩ : ∃ y, ys[k]? = some y := ⟨ys[k], by simp⟩
        have HX := Lib.hid hx
        have HY := Lib.hid hy
        obtain ⟨b, o, rfl, e0, e1, ws⟩ := obj_cells ((HAT.out k x hx).stays stays_obj HT.out)
        obtain ⟨b', o', rfl, e0', e1', ws'⟩ := obj_cells ((HAT'.out k y hy).stays stays_obj HT.out)
        clear hx hy
        by_cases he : x = y
        · subst he
          obtain ⟨x1, x2⟩ := x
          simp only at e0 e1 e0' e1'
          have hb : ∀ w, (binOp .neq 70 (.agg #[.int .i64 x1, .int .i64 x2]) (.agg #[.int .i64 x1, .int .i64 x2])).run Try.prog w = .ok (.bool false) w := fun w => by rw [neq_obj]; simp
          go_wp2
          go_quiet (fail)
          go_wp2
          go_roundw
          case rel => exact ⟨k + 1, by omega, by go_num, HT.out.drewN _, eq_on HNO.out HX.out HY.out rfl⟩
          case measure => simp [intOf]; omega
        · have HE := Lib.hid he
          obtain ⟨x1, x2⟩ := x
          obtain ⟨y1, y2⟩ := y
          simp only at e0 e1 e0' e1'
          have hb : ∀ w, (binOp .neq 70 (.agg #[.int .i64 x1, .int .i64 x2]) (.agg #[.int .i64 y1, .int .i64 y2])).run Try.prog w = .ok (.bool true) w := fun w => by rw [neq_obj]; simp; exact Decidable.not_and_iff_or_not.1 (by simpa using he)
          clear he
          go_wp2
          go_quiet (fail)
          go_wp2
          go_ret
          exact ⟨ret_b (by simp [ne_at HX.out HY.out HE.out]), HT.out.drewN _⟩
      · have hk' : k = n := by omega
        go_wp2
        go_ret
        exact ⟨ret_b (by simp [eq_all HNO.out (by omega) (by omega)]), HT.out⟩
  · go_wp2
    go_ret
    exact ⟨ret_b (by have : xs ≠ ys := fun e => hnn (by rw [← hn, ← hn', e]); simp [this]), Turned.refl _ _⟩

set_option maxHeartbeats 1000000 in
theorem in_objs {w : World} {s : Sl Ob} (hs : RSl 2 RObj w s) {z : Ob} :
    Calls Try.prog 30 #[s.v, .agg #[.int .i64 z.1, .int .i64 z.2]] w fun e w' => e = .returned (.bool (decide (z ∈ s.xs))) ∧ Turned [] w w' := by
  obtain ⟨a, n, c, xs⟩ := s
  have hl := hs.lc
  have hc := hs.cm
  have hn := hs.n
  have HAT := Lib.hid hs.at_
  clear hs
  simp only at hl hc hn
  unfold maxLen at hc
  simp only [Sl.v]
  obtain ⟨z1, z2⟩ := z
  go_enter Try.func30, Try.ntmps30
  go_wp2
  generalize hW : World.alloc w _ = W
  have hT0 : Turned [] w W := by rw [← hW]; exact (Turned.refl _ _).alloc _
  have c0 : W.cell? ⟨w.heap.size, 0, none⟩ = some (.int .i64 z1) := by rw [← hW]; exact World.cell?_alloc_mark _ _ _ _ _
  have c1 : W.cell? ⟨w.heap.size, 1, none⟩ = some (.int .i64 z2) := by rw [← hW]; exact World.cell?_alloc_mark _ _ _ _ _
  have hsz : w.heap.size < W.heap.size := by rw [← hW]; simp
  have HT0 := Lib.hid hT0
  have HC0 := Lib.hid c0
  have HC1 := Lib.hid c1
  clear hW hT0 c0 c1
  go_loopw [5] (fun i wr => ∃ k : Nat, k ≤ n ∧ i = .int .i64 k ∧ Turned [] W wr ∧ ∀ j, j < k → xs[j]? ≠ some (z1, z2)) (fun i _ => n - (intOf i).toNat)
  case atStart => exact ⟨0, by omega, rfl, Turned.refl _ _, fun j h => by omega⟩
  case round =>
    obtain ⟨k, hk, rfl, hT, hno⟩ := hrel
    have HNO := Lib.hid hno
    have HT := Lib.hid hT
    clear hno hT
    by_cases hlt : k < n
    · obtain ⟨x, hx⟩ : ∃ x, xs[k]? = some x := ⟨xs[k], by simp⟩
      have HX := Lib.hid hx
      obtain ⟨b, o, rfl, e0, e1, ws⟩ := obj_cells ((HAT.out k x hx).stays stays_obj (HT0.out.trans HT.out))
      clear hx
      by_cases he : x = (z1, z2)
      · have HE := Lib.hid he
        have hb : ∀ w, (binOp .eql 70 (.agg #[.int .i64 x.1, .int .i64 x.2]) (.agg #[.int .i64 z1, .int .i64 z2])).run Try.prog w = .ok (.bool true) w := fun w => by rw [eql_obj, he]; simp
        have c0 := HT.out.cell HC0.out (by simp)
        have c1 := HT.out.cell HC1.out (by simp)
        clear he
        go_wp2
        go_quiet (fail)
        go_wp2
        go_ret
        exact ⟨ret_b (by simp [List.mem_iff_getElem?]; exact ⟨k, by rw [HX.out, HE.out]⟩), (HT0.out.trans HT.out).drewN _⟩
      · have HE := Lib.hid he
        have hb : ∀ w, (binOp .eql 70 (.agg #[.int .i64 x.1, .int .i64 x.2]) (.agg #[.int .i64 z1, .int .i64 z2])).run Try.prog w = .ok (.bool false) w := fun w => by rw [eql_obj]; congr 2; simpa [Prod.ext_iff] using he
        have c0 := HT.out.cell HC0.out (by simp)
        have c1 := HT.out.cell HC1.out (by simp)
        clear he
        go_wp2
        go_quiet (fail)
        go_wp2
        go_roundw
        case rel => exact ⟨k + 1, by omega, by go_num, HT.out.drewN _, ix_on HNO.out (by rw [HX.out]; simpa using HE.out)⟩
        case measure => simp [intOf]; omega
    · have hk' : n ≤ k := by omega
      go_wp2
      go_ret
      exact ⟨ret_b (by simp; intro hm; obtain ⟨j, hj, e⟩ := List.mem_iff_getElem.1 hm; exact HNO.out j (by omega) (by rw [List.getElem?_eq_getElem hj, e])), HT0.out.trans HT.out⟩

end Go.Proofs.Yteaglbfodeineaa
