/-
  The cells of each kind of element, as a walk asks them; where a number stands first in a list.
-/
import Derived.Test.YteaglbfodeineaaDump
namespace Go.Proofs.Yteaglbfodeineaa
open Go.RowKit

theorem at_cell {α : Type} {size : Nat} {R : World → List Value → α → Prop} {w : World} {a : Option Addr} {i : Nat} {x : α} (h : ElemAt size R w a i x) :
    ∃ b o cs, a = some ⟨b, o, none⟩ ∧ R w cs x ∧ (∀ v r, cs = v :: r → w.cell? ⟨b, o + i * size, none⟩ = some v) ∧ ∀ j v, cs[j + 1]? = some v → w.cell? ⟨b, o + i * size + (j + 1), none⟩ = some v := by
  obtain ⟨b, o, cs, h1, _, h3, h4⟩ := h
  exact ⟨b, o, cs, h1, h4, fun v r e => by subst e; exact h3 0 v rfl, fun j v hj => h3 (j + 1) v hj⟩

section
variable {w : World} {a : Option Addr} {i : Nat}

theorem int_cells {k : IntKind} {n : Int} (h : ElemAt 1 (RInt k) w a i n) : ∃ b o, a = some ⟨b, o, none⟩ ∧ w.cell? ⟨b, o + i, none⟩ = some (.int k n) := by
  obtain ⟨b, o, cs, h1, h2, h3, h4⟩ := at_cell h
  obtain ⟨rfl, _⟩ := h2
  refine ⟨b, o, h1, ?_⟩
  have := h3 _ _ rfl
  rwa [Nat.mul_one] at this

theorem str_cells {s : ByteArray} (h : ElemAt 1 RStr w a i s) : ∃ b o, a = some ⟨b, o, none⟩ ∧ w.cell? ⟨b, o + i, none⟩ = some (.string s) ∧ s.size ≤ maxLen := by
  obtain ⟨b, o, cs, h1, h2, h3, h4⟩ := at_cell h
  obtain ⟨rfl, hs⟩ := h2
  refine ⟨b, o, h1, ?_, hs⟩
  have := h3 _ _ rfl
  rwa [Nat.mul_one] at this

theorem proc_cells {p : ProcV} (h : ElemAt 7 RProc w a i p) : ∃ b o, a = some ⟨b, o, none⟩ ∧ w.cell? ⟨b, o + i * 7, none⟩ = some (.int .i64 p.pid) ∧ w.cell? ⟨b, o + i * 7 + 1, none⟩ = some (.int .i64 p.parent) ∧
    w.cell? ⟨b, o + i * 7 + 2, none⟩ = some (.bool p.lives) ∧ w.cell? ⟨b, o + i * 7 + 3, none⟩ = some (.int .i64 p.code) ∧ w.cell? ⟨b, o + i * 7 + 4, none⟩ = some (.bool p.pd) ∧
    w.cell? ⟨b, o + i * 7 + 5, none⟩ = some (.bool p.cap) ∧ w.cell? ⟨b, o + i * 7 + 6, none⟩ = some (.int .i64 p.cwd) ∧ I64 p.pid ∧ I64 p.cwd := by
  obtain ⟨b, o, cs, h1, ⟨rfl, w1, w2⟩, h3, h4⟩ := at_cell h
  exact ⟨b, o, h1, h3 _ _ rfl, h4 0 _ rfl, h4 1 _ rfl, h4 2 _ rfl, h4 3 _ rfl, h4 4 _ rfl, h4 5 _ rfl, w1, w2⟩

theorem held_cells {p : HeldV} (h : ElemAt 7 RHeld w a i p) : ∃ b o, a = some ⟨b, o, none⟩ ∧ w.cell? ⟨b, o + i * 7, none⟩ = some (.int .i64 p.pid) ∧ w.cell? ⟨b, o + i * 7 + 1, none⟩ = some (.int .i64 p.fd) ∧
    w.cell? ⟨b, o + i * 7 + 2, none⟩ = some (.int .i64 p.slot.file) ∧ w.cell? ⟨b, o + i * 7 + 3, none⟩ = some (.int .u32 p.slot.rights) ∧ w.cell? ⟨b, o + i * 7 + 4, none⟩ = some (.bool p.slot.all) ∧
    w.cell? ⟨b, o + i * 7 + 5, none⟩ = some p.slot.l.v ∧ w.cell? ⟨b, o + i * 7 + 6, none⟩ = some (.int .i64 p.slot.fcntls) ∧ I64 p.pid ∧ I64 p.slot.file := by
  obtain ⟨b, o, cs, h1, ⟨rfl, w1, w2, _⟩, h3, h4⟩ := at_cell h
  exact ⟨b, o, h1, h3 _ _ rfl, h4 0 _ rfl, h4 1 _ rfl, h4 2 _ rfl, h4 3 _ rfl, h4 4 _ rfl, h4 5 _ rfl, w1, w2⟩

theorem file_cells {p : FileV} (h : ElemAt 6 RFile w a i p) : ∃ b o, a = some ⟨b, o, none⟩ ∧ w.cell? ⟨b, o + i * 6, none⟩ = some (.int .i64 p.id) ∧ w.cell? ⟨b, o + i * 6 + 1, none⟩ = some (.int .i64 p.kind) ∧
    w.cell? ⟨b, o + i * 6 + 2, none⟩ = some (.int .i64 p.obj) ∧ w.cell? ⟨b, o + i * 6 + 3, none⟩ = some (.int .i64 p.off) ∧ w.cell? ⟨b, o + i * 6 + 4, none⟩ = some (.int .i64 p.flags) ∧
    w.cell? ⟨b, o + i * 6 + 5, none⟩ = some (.int .i64 p.refs) ∧ I64 p.id ∧ I64 p.kind ∧ I64 p.obj := by
  obtain ⟨b, o, cs, h1, ⟨rfl, w1, w2, w3⟩, h3, h4⟩ := at_cell h
  exact ⟨b, o, h1, h3 _ _ rfl, h4 0 _ rfl, h4 1 _ rfl, h4 2 _ rfl, h4 3 _ rfl, h4 4 _ rfl, w1, w2, w3⟩

theorem pipe_cells {p : PipeV} (h : ElemAt 4 RPipe w a i p) : ∃ b o, a = some ⟨b, o, none⟩ ∧ w.cell? ⟨b, o + i * 4, none⟩ = some (.int .i64 p.id) ∧ w.cell? ⟨b, o + i * 4 + 1, none⟩ = some (.bool p.reads) ∧
    w.cell? ⟨b, o + i * 4 + 2, none⟩ = some (.bool p.writes) ∧ w.cell? ⟨b, o + i * 4 + 3, none⟩ = some (.string p.b) ∧ I64 p.id := by
  obtain ⟨b, o, cs, h1, ⟨rfl, w1, _⟩, h3, h4⟩ := at_cell h
  exact ⟨b, o, h1, h3 _ _ rfl, h4 0 _ rfl, h4 1 _ rfl, h4 2 _ rfl, w1⟩

theorem sock_cells {p : SockV} (h : ElemAt 9 RSock w a i p) : ∃ b o, a = some ⟨b, o, none⟩ ∧ w.cell? ⟨b, o + i * 9, none⟩ = some (.int .i64 p.id) ∧ w.cell? ⟨b, o + i * 9 + 1, none⟩ = some (.int .i64 p.state) ∧
    w.cell? ⟨b, o + i * 9 + 2, none⟩ = some (.int .i64 p.peer) ∧ w.cell? ⟨b, o + i * 9 + 3, none⟩ = some (.int .i64 p.bound) ∧ w.cell? ⟨b, o + i * 9 + 4, none⟩ = some (.int .i64 p.most) ∧
    w.cell? ⟨b, o + i * 9 + 5, none⟩ = some p.waits.v ∧ w.cell? ⟨b, o + i * 9 + 6, none⟩ = some (.bool p.shutR) ∧ w.cell? ⟨b, o + i * 9 + 7, none⟩ = some (.bool p.shutW) ∧ w.cell? ⟨b, o + i * 9 + 8, none⟩ = some p.parts.v ∧
    (I64 p.id ∧ I64 p.peer ∧ I64 p.bound) ∧ RSl 1 (RInt .i64) w p.waits ∧ RSl 2 RPart w p.parts := by
  obtain ⟨b, o, cs, h1, ⟨rfl, w1, w2, w3⟩, h3, h4⟩ := at_cell h
  exact ⟨b, o, h1, h3 _ _ rfl, h4 0 _ rfl, h4 1 _ rfl, h4 2 _ rfl, h4 3 _ rfl, h4 4 _ rfl, h4 5 _ rfl, h4 6 _ rfl, h4 7 _ rfl, w1, w2, w3⟩

theorem inode_cells {p : InodeV} (h : ElemAt 9 RInode w a i p) : ∃ b o, a = some ⟨b, o, none⟩ ∧ w.cell? ⟨b, o + i * 9, none⟩ = some (.int .i64 p.ino) ∧ w.cell? ⟨b, o + i * 9 + 1, none⟩ = some (.int .i64 p.kind) ∧
    w.cell? ⟨b, o + i * 9 + 2, none⟩ = some (.int .i64 p.links) ∧ w.cell? ⟨b, o + i * 9 + 3, none⟩ = some (.int .i64 p.holds) ∧ w.cell? ⟨b, o + i * 9 + 4, none⟩ = some (.int .i64 p.parent) ∧
    w.cell? ⟨b, o + i * 9 + 5, none⟩ = some (.string p.text) ∧ w.cell? ⟨b, o + i * 9 + 6, none⟩ = some (.int .i64 p.blocks) ∧ w.cell? ⟨b, o + i * 9 + 7, none⟩ = some p.names.v ∧ w.cell? ⟨b, o + i * 9 + 8, none⟩ = some p.inos.v ∧
    I64 p.ino ∧ RSl 1 RStr w p.names ∧ RSl 1 (RInt .i64) w p.inos := by
  obtain ⟨b, o, cs, h1, ⟨rfl, w1, w2, w3⟩, h3, h4⟩ := at_cell h
  exact ⟨b, o, h1, h3 _ _ rfl, h4 0 _ rfl, h4 1 _ rfl, h4 2 _ rfl, h4 3 _ rfl, h4 4 _ rfl, h4 5 _ rfl, h4 6 _ rfl, h4 7 _ rfl, w1, w2, w3⟩

theorem part_cells {p : PartV} (h : ElemAt 2 RPart w a i p) : ∃ b o, a = some ⟨b, o, none⟩ ∧ w.cell? ⟨b, o + i * 2, none⟩ = some p.b.v ∧ w.cell? ⟨b, o + i * 2 + 1, none⟩ = some p.l.v ∧ RSl 1 (RInt .u8) w p.b ∧ RSl 5 RPassed w p.l := by
  obtain ⟨b, o, cs, h1, ⟨rfl, w1, w2⟩, h3, h4⟩ := at_cell h
  exact ⟨b, o, h1, h3 _ _ rfl, h4 0 _ rfl, w1, w2⟩

theorem passed_cells {p : PassedV} (h : ElemAt 5 RPassed w a i p) : ∃ b o, a = some ⟨b, o, none⟩ ∧ w.cell? ⟨b, o + i * 5, none⟩ = some (.int .i64 p.file) ∧ w.cell? ⟨b, o + i * 5 + 1, none⟩ = some (.int .u32 p.rights) ∧
    w.cell? ⟨b, o + i * 5 + 2, none⟩ = some (.bool p.all) ∧ w.cell? ⟨b, o + i * 5 + 3, none⟩ = some p.l.v ∧ w.cell? ⟨b, o + i * 5 + 4, none⟩ = some (.int .i64 p.fcntls) ∧ I64 p.file ∧ RSl 1 (RInt .i64) w p.l := by
  obtain ⟨b, o, cs, h1, ⟨rfl, w1, w2⟩, h3, h4⟩ := at_cell h
  exact ⟨b, o, h1, h3 _ _ rfl, h4 0 _ rfl, h4 1 _ rfl, h4 2 _ rfl, h4 3 _ rfl, w1, w2⟩
end

/-- Things: a kind and a number. -/
abbrev Ob := Int × Int
def RObj : World → List Value → Ob → Prop := fun _ cs x => cs = [.int .i64 x.1, .int .i64 x.2] ∧ I64 x.1 ∧ I64 x.2
theorem stays_obj : Stays RObj := fun _ _ _ _ _ h => h
theorem obj_cells {w : World} {a : Option Addr} {i : Nat} {x : Ob} (h : ElemAt 2 RObj w a i x) : ∃ b o, a = some ⟨b, o, none⟩ ∧ w.cell? ⟨b, o + i * 2, none⟩ = some (.int .i64 x.1) ∧ w.cell? ⟨b, o + i * 2 + 1, none⟩ = some (.int .i64 x.2) ∧ I64 x.1 ∧ I64 x.2 := by
  obtain ⟨b, o, cs, h1, ⟨rfl, w1, w2⟩, h3, h4⟩ := at_cell h
  exact ⟨b, o, h1, h3 _ _ rfl, h4 0 _ rfl, w1, w2⟩

/-- Where a number stands first. -/
def ixOf : List Int → Int → Option Nat
  | [], _ => none
  | x :: r, n => if x = n then some 0 else (ixOf r n).map (· + 1)

theorem ixOf_some {l : List Int} {n : Int} {i : Nat} : ixOf l n = some i ↔ l[i]? = some n ∧ ∀ j, j < i → l[j]? ≠ some n := by
  induction l generalizing i with
  | nil => simp [ixOf]
  | cons x r ih =>
    unfold ixOf
    by_cases hx : x = n
    · subst hx
      simp only [if_true]
      constructor
      · intro h; obtain rfl : 0 = i := Option.some.inj h; exact ⟨rfl, fun j hj => by omega⟩
      · rintro ⟨_, h2⟩
        cases i with
        | zero => rfl
        | succ i => exact absurd rfl (h2 0 (by omega))
    · rw [if_neg hx]
      cases i with
      | zero => simp [hx]
      | succ i =>
        rw [Option.map_eq_some_iff]
        constructor
        · rintro ⟨j, h1, h2⟩
          obtain rfl : j = i := by omega
          obtain ⟨h3, h4⟩ := ih.1 h1
          refine ⟨by simpa using h3, fun j hj => ?_⟩
          cases j with
          | zero => simpa using hx
          | succ j => simpa using h4 j (by omega)
        · rintro ⟨h1, h2⟩
          exact ⟨i, ih.2 ⟨by simpa using h1, fun j hj => by simpa using h2 (j + 1) (by omega)⟩, rfl⟩

theorem ixOf_none {l : List Int} {n : Int} : ixOf l n = none ↔ n ∉ l := by
  induction l with
  | nil => simp [ixOf]
  | cons x r ih =>
    unfold ixOf
    by_cases hx : x = n
    · subst hx; simp
    · rw [if_neg hx]; simp [ih, Ne.symm hx]

/-- As the reference tells it: the place, or -1. -/
def ixv (o : Option Nat) : Int := match o with | some i => i | none => -1

end Go.Proofs.Yteaglbfodeineaa
