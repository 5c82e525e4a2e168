/-
  The index of a dump: what its walk keeps, in words.
-/
import Derived.Test.YteaglbfodeineaaFirsts
namespace Go.Proofs.Yteaglbfodeineaa
open Go.RowKit

theorem heap_same_set {w : World} {b o : Nat} {cur : Array Value} {e : TypeId} (h : w.heap[b]? = some (.cells cur e (0, 0))) (u : Value) :
    (w.setCell ⟨b, o, none⟩ u).heap[b]? = some (.cells (cur.setIfInBounds o u) e (0, 0)) := heap_setCell_same h u

theorem block_cell {w : World} {b : Nat} {cur : Array Value} {e : TypeId} {z : Nat × Nat} (h : w.heap[b]? = some (.cells cur e z)) {k : Nat} {v : Value} (hv : cur[k]? = some v) : w.cell? ⟨b, k, none⟩ = some v := by
  simp [World.cell?, h, hv]
theorem block_free {w : World} {b : Nat} {cur : Array Value} {e : TypeId} (h : w.heap[b]? = some (.cells cur e (0, 0))) (k : Nat) : w.frozen? ⟨b, k, none⟩ = false := by
  simp [World.frozen?, h]

/-- While the index is made: the dump's own variable, the index's block, the two maps of lists that are still empty. -/
structure Pre (w W : World) (C A : Array Value) : Prop where
  box : W.heap[w.heap.size]? = some (.cells C 48 (0, 0))
  idx : W.heap[w.heap.size + 3]? = some (.cells A 103 (0, 0))
  mb : IsMapAt KInt W (w.heap.size + 1) 0 (fun _ => none)
  mh : IsMapAt KInt W (w.heap.size + 2) 0 (fun _ => none)
  t : Turned [] w W

theorem Pre.made (w : World) (C A : Array Value) : Pre w ((((w.alloc (.cells C 48 (0, 0))).alloc (.map #[] 0)).alloc (.map #[] 0)).alloc (.cells A 103 (0, 0))) C A := by
  have s1 : (w.alloc (.cells C 48 (0, 0))).heap.size = w.heap.size + 1 := by simp
  have s2 : ((w.alloc (.cells C 48 (0, 0))).alloc (.map #[] 0)).heap.size = w.heap.size + 2 := by simp
  have s3 : (((w.alloc (.cells C 48 (0, 0))).alloc (.map #[] 0)).alloc (.map #[] 0)).heap.size = w.heap.size + 3 := by simp
  have t1 : Turned [] w (w.alloc (.cells C 48 (0, 0))) := (Turned.refl _ _).alloc _
  have t2 : Turned [] (w.alloc (.cells C 48 (0, 0))) ((w.alloc (.cells C 48 (0, 0))).alloc (.map #[] 0)) := (Turned.refl _ _).alloc _
  have t3 : Turned [] ((w.alloc (.cells C 48 (0, 0))).alloc (.map #[] 0)) (((w.alloc (.cells C 48 (0, 0))).alloc (.map #[] 0)).alloc (.map #[] 0)) := (Turned.refl _ _).alloc _
  have t4 : Turned [] (((w.alloc (.cells C 48 (0, 0))).alloc (.map #[] 0)).alloc (.map #[] 0)) ((((w.alloc (.cells C 48 (0, 0))).alloc (.map #[] 0)).alloc (.map #[] 0)).alloc (.cells A 103 (0, 0))) := (Turned.refl _ _).alloc _
  refine ⟨((t2.trans t3).trans t4).keep (heap_alloc_new w _) (by simp), ?_, ?_, ?_, ((t1.trans t2).trans t3).trans t4⟩
  · rw [← s3]; exact heap_alloc_new _ _
  · have := IsMapAt.made KInt (w.alloc (.cells C 48 (0, 0)))
    rw [s1] at this
    exact (this.kept t3 (by simp)).kept t4 (by simp)
  · have := IsMapAt.made KInt ((w.alloc (.cells C 48 (0, 0))).alloc (.map #[] 0))
    rw [s2] at this
    exact this.kept t4 (by simp)

theorem Pre.set {w W : World} {C A : Array Value} (h : Pre w W C A) (k : Nat) (v : Value) : Pre w (W.setCell ⟨w.heap.size + 3, k, none⟩ v) C (A.setIfInBounds k v) := by
  have ht : Turned [w.heap.size + 3] W (W.setCell ⟨w.heap.size + 3, k, none⟩ v) := (Turned.refl _ _).setCell (.inl (by simp)) v
  exact ⟨ht.keep h.box (by simp), heap_same_set h.idx v, h.mb.kept ht (by simp), h.mh.kept ht (by simp), h.t.setCell (.inr (by simp)) v⟩
theorem Pre.kept {w W W' : World} {C A : Array Value} (h : Pre w W C A) (ht : Turned [] W W') : Pre w W' C A :=
  ⟨ht.keep h.box (by simp), ht.keep h.idx (by simp), h.mb.kept ht (by simp), h.mh.kept ht (by simp), h.t.trans ht⟩
theorem Pre.size {w W : World} {C A : Array Value} (h : Pre w W C A) : w.heap.size + 3 < W.heap.size := lt_of_heap h.idx

def DumpV.procIds (D : DumpV) : List Int := D.procs.xs.map ProcV.pid

theorem ids_proc {w : World} {D : DumpV} (hD : RDump w D) : ∀ x ∈ D.procIds, I64 x := by
  intro x hx
  obtain ⟨p, hp, rfl⟩ := List.mem_map.1 hx
  obtain ⟨i, hi⟩ := List.getElem?_of_mem hp
  obtain ⟨b, o, cs, _, hR, _⟩ := at_cell (hD.procs.at_ i p hi)
  exact hR.2.1

theorem cl_63 {w W : World} {D : DumpV} {A : Array Value} (hD : RDump w D) (hp : Pre w W D.cells.toArray A) :
    ∀ (i : Nat) (x : Int), D.procIds[i]? = some x → ∀ w1, Turned [] W w1 → Calls Try.prog 63 #[.int .i64 i, .pointer (some ⟨w.heap.size, 0, none⟩)] w1 fun e w2 => e = .returned (.int .i64 x) ∧ Turned [] w1 w2 := fun i x hx w1 ht => by
  unfold DumpV.procIds at hx
  rw [List.getElem?_map] at hx
  obtain ⟨p, hp', rfl⟩ := Option.map_eq_some_iff.1 hx
  exact number_63 (hD.procs.stays stays_proc (hp.t.trans ht)) (block_cell (ht.keep hp.box (by simp)) rfl) hp'

theorem first_63 {w W : World} {D : DumpV} {A : Array Value} (hD : RDump w D) (hp : Pre w W D.cells.toArray A) :
    Calls Try.prog 62 #[.int .i64 D.procs.len, .func (.func 63) #[] #[.pointer (some ⟨w.heap.size, 0, none⟩)]] W fun e w' =>
      ∃ b, e = .returned (.map (some b)) ∧ W.heap.size ≤ b ∧ IsMapAt KInt w' b D.procs.len (ixFrom D.procIds 0) ∧ Turned [] W w' :=
  firsts_63 (by unfold DumpV.procIds; rw [List.length_map]; exact hD.procs.n) (Nat.le_trans hD.procs.lc hD.procs.cm) (ids_proc hD) (cl_63 hD hp)

def DumpV.fileIds (D : DumpV) : List Int := D.files.xs.map FileV.id

theorem ids_file {w : World} {D : DumpV} (hD : RDump w D) : ∀ x ∈ D.fileIds, I64 x := by
  intro x hx
  obtain ⟨p, hp, rfl⟩ := List.mem_map.1 hx
  obtain ⟨i, hi⟩ := List.getElem?_of_mem hp
  obtain ⟨b, o, cs, _, hR, _⟩ := at_cell (hD.files.at_ i p hi)
  exact hR.2.1

theorem cl_64 {w W : World} {D : DumpV} {A : Array Value} (hD : RDump w D) (hp : Pre w W D.cells.toArray A) :
    ∀ (i : Nat) (x : Int), D.fileIds[i]? = some x → ∀ w1, Turned [] W w1 → Calls Try.prog 64 #[.int .i64 i, .pointer (some ⟨w.heap.size, 0, none⟩)] w1 fun e w2 => e = .returned (.int .i64 x) ∧ Turned [] w1 w2 := fun i x hx w1 ht => by
  unfold DumpV.fileIds at hx
  rw [List.getElem?_map] at hx
  obtain ⟨p, hp', rfl⟩ := Option.map_eq_some_iff.1 hx
  exact number_64 (hD.files.stays stays_file (hp.t.trans ht)) (block_cell (ht.keep hp.box (by simp)) rfl) hp'

theorem first_64 {w W : World} {D : DumpV} {A : Array Value} (hD : RDump w D) (hp : Pre w W D.cells.toArray A) :
    Calls Try.prog 62 #[.int .i64 D.files.len, .func (.func 64) #[] #[.pointer (some ⟨w.heap.size, 0, none⟩)]] W fun e w' =>
      ∃ b, e = .returned (.map (some b)) ∧ W.heap.size ≤ b ∧ IsMapAt KInt w' b D.files.len (ixFrom D.fileIds 0) ∧ Turned [] W w' :=
  firsts_64 (by unfold DumpV.fileIds; rw [List.length_map]; exact hD.files.n) (Nat.le_trans hD.files.lc hD.files.cm) (ids_file hD) (cl_64 hD hp)

def DumpV.pipeIds (D : DumpV) : List Int := D.pipes.xs.map PipeV.id

theorem ids_pipe {w : World} {D : DumpV} (hD : RDump w D) : ∀ x ∈ D.pipeIds, I64 x := by
  intro x hx
  obtain ⟨p, hp, rfl⟩ := List.mem_map.1 hx
  obtain ⟨i, hi⟩ := List.getElem?_of_mem hp
  obtain ⟨b, o, cs, _, hR, _⟩ := at_cell (hD.pipes.at_ i p hi)
  exact hR.2.1

theorem cl_65 {w W : World} {D : DumpV} {A : Array Value} (hD : RDump w D) (hp : Pre w W D.cells.toArray A) :
    ∀ (i : Nat) (x : Int), D.pipeIds[i]? = some x → ∀ w1, Turned [] W w1 → Calls Try.prog 65 #[.int .i64 i, .pointer (some ⟨w.heap.size, 0, none⟩)] w1 fun e w2 => e = .returned (.int .i64 x) ∧ Turned [] w1 w2 := fun i x hx w1 ht => by
  unfold DumpV.pipeIds at hx
  rw [List.getElem?_map] at hx
  obtain ⟨p, hp', rfl⟩ := Option.map_eq_some_iff.1 hx
  exact number_65 (hD.pipes.stays stays_pipe (hp.t.trans ht)) (block_cell (ht.keep hp.box (by simp)) rfl) hp'

theorem first_65 {w W : World} {D : DumpV} {A : Array Value} (hD : RDump w D) (hp : Pre w W D.cells.toArray A) :
    Calls Try.prog 62 #[.int .i64 D.pipes.len, .func (.func 65) #[] #[.pointer (some ⟨w.heap.size, 0, none⟩)]] W fun e w' =>
      ∃ b, e = .returned (.map (some b)) ∧ W.heap.size ≤ b ∧ IsMapAt KInt w' b D.pipes.len (ixFrom D.pipeIds 0) ∧ Turned [] W w' :=
  firsts_65 (by unfold DumpV.pipeIds; rw [List.length_map]; exact hD.pipes.n) (Nat.le_trans hD.pipes.lc hD.pipes.cm) (ids_pipe hD) (cl_65 hD hp)

def DumpV.sockIds (D : DumpV) : List Int := D.socks.xs.map SockV.id

theorem ids_sock {w : World} {D : DumpV} (hD : RDump w D) : ∀ x ∈ D.sockIds, I64 x := by
  intro x hx
  obtain ⟨p, hp, rfl⟩ := List.mem_map.1 hx
  obtain ⟨i, hi⟩ := List.getElem?_of_mem hp
  obtain ⟨b, o, cs, _, hR, _⟩ := at_cell (hD.socks.at_ i p hi)
  exact hR.2.1.1

theorem cl_66 {w W : World} {D : DumpV} {A : Array Value} (hD : RDump w D) (hp : Pre w W D.cells.toArray A) :
    ∀ (i : Nat) (x : Int), D.sockIds[i]? = some x → ∀ w1, Turned [] W w1 → Calls Try.prog 66 #[.int .i64 i, .pointer (some ⟨w.heap.size, 0, none⟩)] w1 fun e w2 => e = .returned (.int .i64 x) ∧ Turned [] w1 w2 := fun i x hx w1 ht => by
  unfold DumpV.sockIds at hx
  rw [List.getElem?_map] at hx
  obtain ⟨p, hp', rfl⟩ := Option.map_eq_some_iff.1 hx
  exact number_66 (hD.socks.stays stays_sock (hp.t.trans ht)) (block_cell (ht.keep hp.box (by simp)) rfl) hp'

theorem first_66 {w W : World} {D : DumpV} {A : Array Value} (hD : RDump w D) (hp : Pre w W D.cells.toArray A) :
    Calls Try.prog 62 #[.int .i64 D.socks.len, .func (.func 66) #[] #[.pointer (some ⟨w.heap.size, 0, none⟩)]] W fun e w' =>
      ∃ b, e = .returned (.map (some b)) ∧ W.heap.size ≤ b ∧ IsMapAt KInt w' b D.socks.len (ixFrom D.sockIds 0) ∧ Turned [] W w' :=
  firsts_66 (by unfold DumpV.sockIds; rw [List.length_map]; exact hD.socks.n) (Nat.le_trans hD.socks.lc hD.socks.cm) (ids_sock hD) (cl_66 hD hp)

def DumpV.inodeIds (D : DumpV) : List Int := D.inodes.xs.map InodeV.ino

theorem ids_inode {w : World} {D : DumpV} (hD : RDump w D) : ∀ x ∈ D.inodeIds, I64 x := by
  intro x hx
  obtain ⟨p, hp, rfl⟩ := List.mem_map.1 hx
  obtain ⟨i, hi⟩ := List.getElem?_of_mem hp
  obtain ⟨b, o, cs, _, hR, _⟩ := at_cell (hD.inodes.at_ i p hi)
  exact hR.2.1

theorem cl_67 {w W : World} {D : DumpV} {A : Array Value} (hD : RDump w D) (hp : Pre w W D.cells.toArray A) :
    ∀ (i : Nat) (x : Int), D.inodeIds[i]? = some x → ∀ w1, Turned [] W w1 → Calls Try.prog 67 #[.int .i64 i, .pointer (some ⟨w.heap.size, 0, none⟩)] w1 fun e w2 => e = .returned (.int .i64 x) ∧ Turned [] w1 w2 := fun i x hx w1 ht => by
  unfold DumpV.inodeIds at hx
  rw [List.getElem?_map] at hx
  obtain ⟨p, hp', rfl⟩ := Option.map_eq_some_iff.1 hx
  exact number_67 (hD.inodes.stays stays_inode (hp.t.trans ht)) (block_cell (ht.keep hp.box (by simp)) rfl) hp'

theorem first_67 {w W : World} {D : DumpV} {A : Array Value} (hD : RDump w D) (hp : Pre w W D.cells.toArray A) :
    Calls Try.prog 62 #[.int .i64 D.inodes.len, .func (.func 67) #[] #[.pointer (some ⟨w.heap.size, 0, none⟩)]] W fun e w' =>
      ∃ b, e = .returned (.map (some b)) ∧ W.heap.size ≤ b ∧ IsMapAt KInt w' b D.inodes.len (ixFrom D.inodeIds 0) ∧ Turned [] W w' :=
  firsts_67 (by unfold DumpV.inodeIds; rw [List.length_map]; exact hD.inodes.n) (Nat.le_trans hD.inodes.lc hD.inodes.cm) (ids_inode hD) (cl_67 hD hp)

end Go.Proofs.Yteaglbfodeineaa
