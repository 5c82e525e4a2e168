/-
  What has changed between two dumps, in words; the closures of effects as changed asks them.
-/
import Derived.Test.YteaglbfodeineaaChanged
import Derived.Test.YteaglbfodeineaaClosI
import Derived.Test.YteaglbfodeineaaPipes
import Derived.Test.YteaglbfodeineaaProcs
import Derived.Test.YteaglbfodeineaaParts
namespace Go.Proofs.Yteaglbfodeineaa
open Go.RowKit

/-- What a dump that has been cut holds. -/
structure Cut (D : DumpV) : Prop where
  procs : D.procs.len ≤ 8
  held : D.held.len ≤ 13
  files : D.files.len ≤ 12
  pipes : D.pipes.len ≤ 8
  socks : D.socks.len ≤ 8
  inodes : D.inodes.len ≤ 12
  inos : ∀ x ∈ D.inodes.xs, x.inos.len ≤ 20
  waits : ∀ x ∈ D.socks.xs, x.waits.len ≤ 8

theorem box_cells {w : World} {B : Nat} {D : DumpV} {z : Nat × Nat} (h : w.heap[B]? = some (.cells D.cells.toArray 48 z)) :
    w.cell? ⟨B, 0, none⟩ = some D.procs.v ∧ w.cell? ⟨B, 1, none⟩ = some D.held.v ∧ w.cell? ⟨B, 2, none⟩ = some D.parks.v ∧ w.cell? ⟨B, 3, none⟩ = some D.files.v ∧ w.cell? ⟨B, 4, none⟩ = some D.pipes.v ∧ w.cell? ⟨B, 5, none⟩ = some D.socks.v ∧
    w.cell? ⟨B, 6, none⟩ = some D.inodes.v ∧ w.cell? ⟨B, 7, none⟩ = some (.int .i64 D.n0) ∧ w.cell? ⟨B, 8, none⟩ = some (.int .i64 D.n1) ∧ w.cell? ⟨B, 9, none⟩ = some (.int .i64 D.n2) ∧ w.cell? ⟨B, 10, none⟩ = some (.int .i64 D.n3) ∧ w.cell? ⟨B, 11, none⟩ = some (.int .i64 D.n4) :=
  ⟨block_cell h rfl, block_cell h rfl, block_cell h rfl, block_cell h rfl, block_cell h rfl, block_cell h rfl, block_cell h rfl, block_cell h rfl, block_cell h rfl, block_cell h rfl, block_cell h rfl, block_cell h rfl⟩

theorem len_sum {α : Type} (l : List α) (f : α → List Int) (m : Nat) (h : ∀ x ∈ l, (f x).length ≤ m) : (l.flatMap f).length ≤ l.length * m := by
  induction l with
  | nil => simp
  | cons x l ih =>
    have h1 := h x (by simp)
    have h2 := ih (fun y hy => h y (by simp [hy]))
    simp only [List.flatMap_cons, List.length_append, List.length_cons]
    rw [Nat.succ_mul]; omega

theorem Cut.small {w : World} {D : DumpV} (h : Cut D) (hD : RDump w D) : Small D := by
  have hi : ∀ x ∈ D.inodes.xs, x.inos.xs.length ≤ 20 := fun x hx => by
    obtain ⟨i, hi⟩ := List.getElem?_of_mem hx
    obtain ⟨b, o, cs, _, hR, _⟩ := at_cell (hD.inodes.at_ i x hi)
    have := hR.2.2.2.n
    have := h.inos x hx
    omega
  have hs : ∀ x ∈ D.socks.xs, (x.id :: x.peer :: x.waits.xs).length ≤ 10 := fun x hx => by
    obtain ⟨i, hi⟩ := List.getElem?_of_mem hx
    obtain ⟨b, o, cs, _, hR, _⟩ := at_cell (hD.socks.at_ i x hi)
    have := hR.2.2.1.n
    have := h.waits x hx
    simp; omega
  refine ⟨?_, h.inos, by have := h.socks; omega, by have := h.held; omega⟩
  have h1 := len_sum D.inodes.xs (fun x => x.inos.xs) 20 hi
  have h2 := len_sum D.socks.xs (fun s => s.id :: s.peer :: s.waits.xs) 10 hs
  have := h.procs
  have := h.files
  have := h.socks
  have := h.inodes
  have := hD.procs.n
  have := hD.files.n
  have := hD.socks.n
  have := hD.inodes.n
  unfold DumpV.ids
  simp only [List.length_append, List.length_map]
  have : D.inodes.xs.length * 20 ≤ 12 * 20 := Nat.mul_le_mul_right _ (by omega)
  have : D.socks.xs.length * 10 ≤ 8 * 10 := Nat.mul_le_mul_right _ (by omega)
  omega

def sameIno (D E : DumpV) (i k : Nat) : Bool := match D.inodes.xs[i]?, E.inodes.xs[k]? with
  | some x, some y => inodeEq x y
  | _, _ => false
theorem cl_46 {w : World} {B1 B2 : Nat} {D E : DumpV} {z z' : Nat × Nat} (hD : RDump w D) (hE : RDump w E) (h1 : w.heap[B1]? = some (.cells D.cells.toArray 48 z)) (h2 : w.heap[B2]? = some (.cells E.cells.toArray 48 z')) :
    ∀ i k id, ixOf D.inodeIds id = some i → ixOf E.inodeIds id = some k → ∀ w1, Turned [] w w1 → Calls Try.prog 46 #[.int .i64 i, .int .i64 k, .pointer (some ⟨B1, 0, none⟩), .pointer (some ⟨B2, 0, none⟩)] w1 fun e w2 => e = .returned (.bool (sameIno D E i k)) ∧ Turned [] w1 w2 := fun i k id hi hk w1 ht => by
  obtain ⟨x, hx⟩ : ∃ x, D.inodes.xs[i]? = some x := by
    have := (ixOf_some.1 hi).1
    unfold DumpV.inodeIds at this
    rw [List.getElem?_map] at this
    obtain ⟨x, hx, _⟩ := Option.map_eq_some_iff.1 this
    exact ⟨x, hx⟩
  obtain ⟨y, hy⟩ : ∃ y, E.inodes.xs[k]? = some y := by
    have := (ixOf_some.1 hk).1
    unfold DumpV.inodeIds at this
    rw [List.getElem?_map] at this
    obtain ⟨x, hx, _⟩ := Option.map_eq_some_iff.1 this
    exact ⟨x, hx⟩
  rw [show sameIno D E i k = (inodeEq x y) by unfold sameIno; rw [hx, hy]]
  exact closure_46 (hD.inodes.stays stays_inode ht) (hE.inodes.stays stays_inode ht) (block_cell (k := 6) (ht.keep h1 (by simp)) rfl) (block_cell (k := 6) (ht.keep h2 (by simp)) rfl) hx hy

def samePipe (D E : DumpV) (i k : Nat) : Bool := match D.pipes.xs[i]?, E.pipes.xs[k]? with
  | some x, some y => pipeEq x y
  | _, _ => false
theorem cl_48 {w : World} {B1 B2 : Nat} {D E : DumpV} {z z' : Nat × Nat} (hD : RDump w D) (hE : RDump w E) (h1 : w.heap[B1]? = some (.cells D.cells.toArray 48 z)) (h2 : w.heap[B2]? = some (.cells E.cells.toArray 48 z')) :
    ∀ i k id, ixOf D.pipeIds id = some i → ixOf E.pipeIds id = some k → ∀ w1, Turned [] w w1 → Calls Try.prog 48 #[.int .i64 i, .int .i64 k, .pointer (some ⟨B1, 0, none⟩), .pointer (some ⟨B2, 0, none⟩)] w1 fun e w2 => e = .returned (.bool (samePipe D E i k)) ∧ Turned [] w1 w2 := fun i k id hi hk w1 ht => by
  obtain ⟨x, hx⟩ : ∃ x, D.pipes.xs[i]? = some x := by
    have := (ixOf_some.1 hi).1
    unfold DumpV.pipeIds at this
    rw [List.getElem?_map] at this
    obtain ⟨x, hx, _⟩ := Option.map_eq_some_iff.1 this
    exact ⟨x, hx⟩
  obtain ⟨y, hy⟩ : ∃ y, E.pipes.xs[k]? = some y := by
    have := (ixOf_some.1 hk).1
    unfold DumpV.pipeIds at this
    rw [List.getElem?_map] at this
    obtain ⟨x, hx, _⟩ := Option.map_eq_some_iff.1 this
    exact ⟨x, hx⟩
  rw [show samePipe D E i k = (pipeEq x y) by unfold samePipe; rw [hx, hy]]
  exact closure_48 (hD.pipes.stays stays_pipe ht) (hE.pipes.stays stays_pipe ht) (block_cell (k := 4) (ht.keep h1 (by simp)) rfl) (block_cell (k := 4) (ht.keep h2 (by simp)) rfl) hx hy

def sameSock (D E : DumpV) (i k : Nat) : Bool := match D.socks.xs[i]?, E.socks.xs[k]? with
  | some x, some y => decide (x.key = y.key)
  | _, _ => false
theorem cl_49 {w : World} {B1 B2 : Nat} {D E : DumpV} {z z' : Nat × Nat} (hD : RDump w D) (hE : RDump w E) (h1 : w.heap[B1]? = some (.cells D.cells.toArray 48 z)) (h2 : w.heap[B2]? = some (.cells E.cells.toArray 48 z')) :
    ∀ i k id, ixOf D.sockIds id = some i → ixOf E.sockIds id = some k → ∀ w1, Turned [] w w1 → Calls Try.prog 49 #[.int .i64 i, .int .i64 k, .pointer (some ⟨B1, 0, none⟩), .pointer (some ⟨B2, 0, none⟩)] w1 fun e w2 => e = .returned (.bool (sameSock D E i k)) ∧ Turned [] w1 w2 := fun i k id hi hk w1 ht => by
  obtain ⟨x, hx⟩ : ∃ x, D.socks.xs[i]? = some x := by
    have := (ixOf_some.1 hi).1
    unfold DumpV.sockIds at this
    rw [List.getElem?_map] at this
    obtain ⟨x, hx, _⟩ := Option.map_eq_some_iff.1 this
    exact ⟨x, hx⟩
  obtain ⟨y, hy⟩ : ∃ y, E.socks.xs[k]? = some y := by
    have := (ixOf_some.1 hk).1
    unfold DumpV.sockIds at this
    rw [List.getElem?_map] at this
    obtain ⟨x, hx, _⟩ := Option.map_eq_some_iff.1 this
    exact ⟨x, hx⟩
  rw [show sameSock D E i k = (decide (x.key = y.key)) by unfold sameSock; rw [hx, hy]]
  exact closure_49 (hD.socks.stays stays_sock ht) (hE.socks.stays stays_sock ht) (block_cell (k := 5) (ht.keep h1 (by simp)) rfl) (block_cell (k := 5) (ht.keep h2 (by simp)) rfl) hx hy

def sameProc (D E : DumpV) (i k : Nat) : Bool := match D.procs.xs[i]?, E.procs.xs[k]? with
  | some x, some y => procEq x y
  | _, _ => false
theorem cl_51 {w : World} {B1 B2 : Nat} {D E : DumpV} {z z' : Nat × Nat} (hD : RDump w D) (hE : RDump w E) (h1 : w.heap[B1]? = some (.cells D.cells.toArray 48 z)) (h2 : w.heap[B2]? = some (.cells E.cells.toArray 48 z')) :
    ∀ i k id, ixOf D.procIds id = some i → ixOf E.procIds id = some k → ∀ w1, Turned [] w w1 → Calls Try.prog 51 #[.int .i64 i, .int .i64 k, .pointer (some ⟨B1, 0, none⟩), .pointer (some ⟨B2, 0, none⟩)] w1 fun e w2 => e = .returned (.bool (sameProc D E i k)) ∧ Turned [] w1 w2 := fun i k id hi hk w1 ht => by
  obtain ⟨x, hx⟩ : ∃ x, D.procs.xs[i]? = some x := by
    have := (ixOf_some.1 hi).1
    unfold DumpV.procIds at this
    rw [List.getElem?_map] at this
    obtain ⟨x, hx, _⟩ := Option.map_eq_some_iff.1 this
    exact ⟨x, hx⟩
  obtain ⟨y, hy⟩ : ∃ y, E.procs.xs[k]? = some y := by
    have := (ixOf_some.1 hk).1
    unfold DumpV.procIds at this
    rw [List.getElem?_map] at this
    obtain ⟨x, hx, _⟩ := Option.map_eq_some_iff.1 this
    exact ⟨x, hx⟩
  rw [show sameProc D E i k = (procEq x y) by unfold sameProc; rw [hx, hy]]
  exact closure_51 (hD.procs.stays stays_proc ht) (hE.procs.stays stays_proc ht) (block_cell (k := 0) (ht.keep h1 (by simp)) rfl) (block_cell (k := 0) (ht.keep h2 (by simp)) rfl) hx hy

/-- What has changed. -/
def EffT (D E : DumpV) (o : Ob) : Prop :=
  (o.1 = 1 ∧ Chg D.inodeIds E.inodeIds (sameIno D E) o.2) ∨ (o.1 = 5 ∧ Chg D.pipeIds E.pipeIds (samePipe D E) o.2) ∨ (o.1 = 6 ∧ Chg D.sockIds E.sockIds (sameSock D E) o.2) ∨ (o.1 = 7 ∧ Chg D.procIds E.procIds (sameProc D E) o.2)

theorem EffT.wf {w : World} {D E : DumpV} (hD : RDump w D) {o : Ob} (h : EffT D E o) : KObj.dom o := by
  rcases h with ⟨h1, i, hi, _⟩ | ⟨h1, i, hi, _⟩ | ⟨h1, i, hi, _⟩ | ⟨h1, i, hi, _⟩
  · exact ⟨by rw [h1]; rfl, ids_inode hD _ (ix_mem hi)⟩
  · exact ⟨by rw [h1]; rfl, ids_pipe hD _ (ix_mem hi)⟩
  · exact ⟨by rw [h1]; rfl, ids_sock hD _ (ix_mem hi)⟩
  · exact ⟨by rw [h1]; rfl, ids_proc hD _ (ix_mem hi)⟩

end Go.Proofs.Yteaglbfodeineaa
