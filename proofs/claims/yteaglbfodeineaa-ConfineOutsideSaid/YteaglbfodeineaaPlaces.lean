/-
  The places of things in a dump, by the reference: the first place of a number, or -1.
-/
import Derived.Test.YteaglbfodeineaaCells
namespace Go.Proofs.Yteaglbfodeineaa
open Go.RowKit

theorem ixOf_at {l : List Int} {n : Int} {k : Nat} (h : ∀ j, j < k → l[j]? ≠ some n) (hk : l[k]? = some n) : ixv (ixOf l n) = k := by
  rw [ixOf_some.2 ⟨hk, h⟩]; rfl
theorem ixOf_end {l : List Int} {n : Int} {k : Nat} (h : ∀ j, j < k → l[j]? ≠ some n) (hk : l.length ≤ k) : ixv (ixOf l n) = -1 := by
  rw [ixOf_none.2 (fun hm => by obtain ⟨j, hj, e⟩ := List.mem_iff_getElem.1 hm; exact h j (by omega) (by rw [List.getElem?_eq_getElem hj, e]))]; rfl
theorem ret_i {k : IntKind} {a b : Int} (h : a = b) : Ending.returned (.int k a) = .returned (.int k b) := by rw [h]
theorem ix_on {α : Type} {l : List α} {n : α} {k : Nat} (h : ∀ j, j < k → l[j]? ≠ some n) (hk : l[k]? ≠ some n) : ∀ j, j < k + 1 → l[j]? ≠ some n := fun j hj => by
  by_cases e : j = k
  · subst e; exact hk
  · exact h j (by omega)

set_option maxHeartbeats 1000000 in
theorem place_proc {w : World} {D : DumpV} (hD : RDump w D) {id : Int} :
    Calls Try.prog 40 #[D.v, .int .i64 id] w fun e w' => e = .returned (.int .i64 (ixv (ixOf (D.procs.xs.map ProcV.pid) id))) ∧ Turned [] w w' := by
  obtain ⟨⟨a, n, c, xs⟩, d1, d2, d3, d4, d5, d6, n0, n1, n2, n3, n4⟩ := D
  have hl := hD.procs.lc
  have hc := hD.procs.cm
  have hn := hD.procs.n
  have HAT := Lib.hid hD.procs.at_
  clear hD
  simp only at hl hc hn
  unfold maxLen at hc
  simp only [DumpV.v, DumpV.cells, Sl.v]
  go_enter Try.func40, Try.ntmps40
  go_wp2
  generalize hW : World.alloc w _ = W
  have hT : Turned [] w W := by rw [← hW]; exact (Turned.refl _ _).alloc _
  have c0 : W.cell? ⟨w.heap.size, 0, none⟩ = some (.slice a n c) := by rw [← hW]; exact World.cell?_alloc_mark _ _ _ _ _
  have HT := Lib.hid hT
  clear hW hT
  go_loop [5] (fun i => ∃ k : Nat, k ≤ n ∧ i = .int .i64 k ∧ ∀ j, j < k → (xs.map ProcV.pid)[j]? ≠ some id) (fun i => n - (intOf i).toNat)
  case atStart => exact ⟨0, by omega, rfl, fun j h => by omega⟩
  case round =>
    obtain ⟨k, hk, rfl, hno⟩ := hrel
    have HNO := Lib.hid hno
    clear hno
    by_cases hlt : k < n
    · obtain ⟨x, hx⟩ : ∃ x, xs[k]? = some x := ⟨xs[k], by simp⟩
      have HX := Lib.hid hx
      obtain ⟨b, o, rfl, e0, e1, e2, e3, e4, e5, e6, ws⟩ := proc_cells ((HAT.out k x hx).stays stays_proc HT.out)
      clear hx ws
      by_cases he : x.pid = id
      · have hb : (x.pid == id) = true := by simp [he]
        have HE := Lib.hid he
        clear he
        go_wp2
        go_ret
        exact ⟨ret_i (by rw [ixOf_at HNO.out (by rw [List.getElem?_map, HX.out, ← HE.out]; rfl)]), HT.out⟩
      · have hb : (x.pid == id) = false := by simp [he]
        have HE := Lib.hid he
        clear he
        go_wp2
        go_round
        case rel => exact ⟨k + 1, by omega, by go_num, ix_on HNO.out (by rw [List.getElem?_map, HX.out]; simpa using HE.out)⟩
        case measure => simp [intOf]; omega
    · have hk' : n ≤ k := by omega
      go_wp2
      go_ret
      exact ⟨ret_i (by rw [ixOf_end HNO.out (by simp; omega)]), HT.out⟩

set_option maxHeartbeats 1000000 in
theorem place_file {w : World} {D : DumpV} (hD : RDump w D) {id : Int} :
    Calls Try.prog 77 #[D.v, .int .i64 id] w fun e w' => e = .returned (.int .i64 (ixv (ixOf (D.files.xs.map FileV.id) id))) ∧ Turned [] w w' := by
  obtain ⟨d0, d1, d2, ⟨a, n, c, xs⟩, d4, d5, d6, n0, n1, n2, n3, n4⟩ := D
  have hl := hD.files.lc
  have hc := hD.files.cm
  have hn := hD.files.n
  have HAT := Lib.hid hD.files.at_
  clear hD
  simp only at hl hc hn
  unfold maxLen at hc
  simp only [DumpV.v, DumpV.cells, Sl.v]
  go_enter Try.func77, Try.ntmps77
  go_wp2
  generalize hW : World.alloc w _ = W
  have hT : Turned [] w W := by rw [← hW]; exact (Turned.refl _ _).alloc _
  have c0 : W.cell? ⟨w.heap.size, 3, none⟩ = some (.slice a n c) := by rw [← hW]; exact World.cell?_alloc_mark _ _ _ _ _
  have HT := Lib.hid hT
  clear hW hT
  go_loop [5] (fun i => ∃ k : Nat, k ≤ n ∧ i = .int .i64 k ∧ ∀ j, j < k → (xs.map FileV.id)[j]? ≠ some id) (fun i => n - (intOf i).toNat)
  case atStart => exact ⟨0, by omega, rfl, fun j h => by omega⟩
  case round =>
    obtain ⟨k, hk, rfl, hno⟩ := hrel
    have HNO := Lib.hid hno
    clear hno
    by_cases hlt : k < n
    · obtain ⟨x, hx⟩ : ∃ x, xs[k]? = some x := ⟨xs[k], by simp⟩
      have HX := Lib.hid hx
      obtain ⟨b, o, rfl, e0, e1, e2, e3, e4, e5, ws⟩ := file_cells ((HAT.out k x hx).stays stays_file HT.out)
      clear hx ws
      by_cases he : x.id = id
      · have hb : (x.id == id) = true := by simp [he]
        have HE := Lib.hid he
        clear he
        go_wp2
        go_ret
        exact ⟨ret_i (by rw [ixOf_at HNO.out (by rw [List.getElem?_map, HX.out, ← HE.out]; rfl)]), HT.out⟩
      · have hb : (x.id == id) = false := by simp [he]
        have HE := Lib.hid he
        clear he
        go_wp2
        go_round
        case rel => exact ⟨k + 1, by omega, by go_num, ix_on HNO.out (by rw [List.getElem?_map, HX.out]; simpa using HE.out)⟩
        case measure => simp [intOf]; omega
    · have hk' : n ≤ k := by omega
      go_wp2
      go_ret
      exact ⟨ret_i (by rw [ixOf_end HNO.out (by simp; omega)]), HT.out⟩

set_option maxHeartbeats 1000000 in
theorem place_pipe {w : World} {D : DumpV} (hD : RDump w D) {id : Int} :
    Calls Try.prog 37 #[D.v, .int .i64 id] w fun e w' => e = .returned (.int .i64 (ixv (ixOf (D.pipes.xs.map PipeV.id) id))) ∧ Turned [] w w' := by
  obtain ⟨d0, d1, d2, d3, ⟨a, n, c, xs⟩, d5, d6, n0, n1, n2, n3, n4⟩ := D
  have hl := hD.pipes.lc
  have hc := hD.pipes.cm
  have hn := hD.pipes.n
  have HAT := Lib.hid hD.pipes.at_
  clear hD
  simp only at hl hc hn
  unfold maxLen at hc
  simp only [DumpV.v, DumpV.cells, Sl.v]
  go_enter Try.func37, Try.ntmps37
  go_wp2
  generalize hW : World.alloc w _ = W
  have hT : Turned [] w W := by rw [← hW]; exact (Turned.refl _ _).alloc _
  have c0 : W.cell? ⟨w.heap.size, 4, none⟩ = some (.slice a n c) := by rw [← hW]; exact World.cell?_alloc_mark _ _ _ _ _
  have HT := Lib.hid hT
  clear hW hT
  go_loop [5] (fun i => ∃ k : Nat, k ≤ n ∧ i = .int .i64 k ∧ ∀ j, j < k → (xs.map PipeV.id)[j]? ≠ some id) (fun i => n - (intOf i).toNat)
  case atStart => exact ⟨0, by omega, rfl, fun j h => by omega⟩
  case round =>
    obtain ⟨k, hk, rfl, hno⟩ := hrel
    have HNO := Lib.hid hno
    clear hno
    by_cases hlt : k < n
    · obtain ⟨x, hx⟩ : ∃ x, xs[k]? = some x := ⟨xs[k], by simp⟩
      have HX := Lib.hid hx
      obtain ⟨b, o, rfl, e0, e1, e2, e3, ws⟩ := pipe_cells ((HAT.out k x hx).stays stays_pipe HT.out)
      clear hx ws
      by_cases he : x.id = id
      · have hb : (x.id == id) = true := by simp [he]
        have HE := Lib.hid he
        clear he
        go_wp2
        go_ret
        exact ⟨ret_i (by rw [ixOf_at HNO.out (by rw [List.getElem?_map, HX.out, ← HE.out]; rfl)]), HT.out⟩
      · have hb : (x.id == id) = false := by simp [he]
        have HE := Lib.hid he
        clear he
        go_wp2
        go_round
        case rel => exact ⟨k + 1, by omega, by go_num, ix_on HNO.out (by rw [List.getElem?_map, HX.out]; simpa using HE.out)⟩
        case measure => simp [intOf]; omega
    · have hk' : n ≤ k := by omega
      go_wp2
      go_ret
      exact ⟨ret_i (by rw [ixOf_end HNO.out (by simp; omega)]), HT.out⟩

set_option maxHeartbeats 1000000 in
theorem place_sock {w : World} {D : DumpV} (hD : RDump w D) {id : Int} :
    Calls Try.prog 38 #[D.v, .int .i64 id] w fun e w' => e = .returned (.int .i64 (ixv (ixOf (D.socks.xs.map SockV.id) id))) ∧ Turned [] w w' := by
  obtain ⟨d0, d1, d2, d3, d4, ⟨a, n, c, xs⟩, d6, n0, n1, n2, n3, n4⟩ := D
  have hl := hD.socks.lc
  have hc := hD.socks.cm
  have hn := hD.socks.n
  have HAT := Lib.hid hD.socks.at_
  clear hD
  simp only at hl hc hn
  unfold maxLen at hc
  simp only [DumpV.v, DumpV.cells, Sl.v]
  go_enter Try.func38, Try.ntmps38
  go_wp2
  generalize hW : World.alloc w _ = W
  have hT : Turned [] w W := by rw [← hW]; exact (Turned.refl _ _).alloc _
  have c0 : W.cell? ⟨w.heap.size, 5, none⟩ = some (.slice a n c) := by rw [← hW]; exact World.cell?_alloc_mark _ _ _ _ _
  have HT := Lib.hid hT
  clear hW hT
  go_loop [5] (fun i => ∃ k : Nat, k ≤ n ∧ i = .int .i64 k ∧ ∀ j, j < k → (xs.map SockV.id)[j]? ≠ some id) (fun i => n - (intOf i).toNat)
  case atStart => exact ⟨0, by omega, rfl, fun j h => by omega⟩
  case round =>
    obtain ⟨k, hk, rfl, hno⟩ := hrel
    have HNO := Lib.hid hno
    clear hno
    by_cases hlt : k < n
    · obtain ⟨x, hx⟩ : ∃ x, xs[k]? = some x := ⟨xs[k], by simp⟩
      have HX := Lib.hid hx
      obtain ⟨b, o, rfl, e0, e1, e2, e3, e4, e5, e6, e7, e8, ws⟩ := sock_cells ((HAT.out k x hx).stays stays_sock HT.out)
      clear hx ws
      by_cases he : x.id = id
      · have hb : (x.id == id) = true := by simp [he]
        have HE := Lib.hid he
        clear he
        go_wp2
        go_ret
        exact ⟨ret_i (by rw [ixOf_at HNO.out (by rw [List.getElem?_map, HX.out, ← HE.out]; rfl)]), HT.out⟩
      · have hb : (x.id == id) = false := by simp [he]
        have HE := Lib.hid he
        clear he
        go_wp2
        go_round
        case rel => exact ⟨k + 1, by omega, by go_num, ix_on HNO.out (by rw [List.getElem?_map, HX.out]; simpa using HE.out)⟩
        case measure => simp [intOf]; omega
    · have hk' : n ≤ k := by omega
      go_wp2
      go_ret
      exact ⟨ret_i (by rw [ixOf_end HNO.out (by simp; omega)]), HT.out⟩

set_option maxHeartbeats 1000000 in
theorem place_inode {w : World} {D : DumpV} (hD : RDump w D) {id : Int} :
    Calls Try.prog 33 #[D.v, .int .i64 id] w fun e w' => e = .returned (.int .i64 (ixv (ixOf (D.inodes.xs.map InodeV.ino) id))) ∧ Turned [] w w' := by
  obtain ⟨d0, d1, d2, d3, d4, d5, ⟨a, n, c, xs⟩, n0, n1, n2, n3, n4⟩ := D
  have hl := hD.inodes.lc
  have hc := hD.inodes.cm
  have hn := hD.inodes.n
  have HAT := Lib.hid hD.inodes.at_
  clear hD
  simp only at hl hc hn
  unfold maxLen at hc
  simp only [DumpV.v, DumpV.cells, Sl.v]
  go_enter Try.func33, Try.ntmps33
  go_wp2
  generalize hW : World.alloc w _ = W
  have hT : Turned [] w W := by rw [← hW]; exact (Turned.refl _ _).alloc _
  have c0 : W.cell? ⟨w.heap.size, 6, none⟩ = some (.slice a n c) := by rw [← hW]; exact World.cell?_alloc_mark _ _ _ _ _
  have HT := Lib.hid hT
  clear hW hT
  go_loop [5] (fun i => ∃ k : Nat, k ≤ n ∧ i = .int .i64 k ∧ ∀ j, j < k → (xs.map InodeV.ino)[j]? ≠ some id) (fun i => n - (intOf i).toNat)
  case atStart => exact ⟨0, by omega, rfl, fun j h => by omega⟩
  case round =>
    obtain ⟨k, hk, rfl, hno⟩ := hrel
    have HNO := Lib.hid hno
    clear hno
    by_cases hlt : k < n
    · obtain ⟨x, hx⟩ : ∃ x, xs[k]? = some x := ⟨xs[k], by simp⟩
      have HX := Lib.hid hx
      obtain ⟨b, o, rfl, e0, e1, e2, e3, e4, e5, e6, e7, e8, ws⟩ := inode_cells ((HAT.out k x hx).stays stays_inode HT.out)
      clear hx ws
      by_cases he : x.ino = id
      · have hb : (x.ino == id) = true := by simp [he]
        have HE := Lib.hid he
        clear he
        go_wp2
        go_ret
        exact ⟨ret_i (by rw [ixOf_at HNO.out (by rw [List.getElem?_map, HX.out, ← HE.out]; rfl)]), HT.out⟩
      · have hb : (x.ino == id) = false := by simp [he]
        have HE := Lib.hid he
        clear he
        go_wp2
        go_round
        case rel => exact ⟨k + 1, by omega, by go_num, ix_on HNO.out (by rw [List.getElem?_map, HX.out]; simpa using HE.out)⟩
        case measure => simp [intOf]; omega
    · have hk' : n ≤ k := by omega
      go_wp2
      go_ret
      exact ⟨ret_i (by rw [ixOf_end HNO.out (by simp; omega)]), HT.out⟩

end Go.Proofs.Yteaglbfodeineaa
