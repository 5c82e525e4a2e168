/-
  The ring's small methods: what each call does to the world.
-/
import Derived.Test.YteaglbfodeineaaChecked
import Derived.WalkKit
import Derived.WalkSpells
import Derived.WalkLawsBesides
import Derived.BigQuiet
import Derived.BigRegion
import Derived.StillTailTactics
namespace Go.Proofs.Yteaglbfodeineaa
open Go.RowKit

/-- A ring lies in two blocks: R, its three fields; G, its bytes. -/
structure RingAt (w : World) (R G m f n : Nat) (cur : Array Value) : Prop where
  hR : w.heap[R]? = some (.cells #[.slice (some ⟨G, 0, none⟩) m m, .int .i64 f, .int .i64 n] 73 (0, 0))
  hG : w.heap[G]? = some (.cells cur 5 (0, 0))
  hs : cur.size = m
  hm : 1 ≤ m ∧ m ≤ 4096
  hf : f < m
  hn : n ≤ m

theorem RingAt.c0 {w : World} {R G m f n : Nat} {cur} (h : RingAt w R G m f n cur) : w.cell? ⟨R, 0, none⟩ = some (.slice (some ⟨G, 0, none⟩) m m) := by
  simp [World.cell?, h.hR]
theorem RingAt.c1 {w : World} {R G m f n : Nat} {cur} (h : RingAt w R G m f n cur) : w.cell? ⟨R, 1, none⟩ = some (.int .i64 f) := by
  simp [World.cell?, h.hR]
theorem RingAt.c2 {w : World} {R G m f n : Nat} {cur} (h : RingAt w R G m f n cur) : w.cell? ⟨R, 2, none⟩ = some (.int .i64 n) := by
  simp [World.cell?, h.hR]
theorem RingAt.z {w : World} {R G m f n : Nat} {cur} (h : RingAt w R G m f n cur) (j : Nat) : w.frozen? ⟨R, j, none⟩ = false := by
  simp [World.frozen?, h.hR]
theorem RingAt.ne {w : World} {R G m f n : Nat} {cur} (h : RingAt w R G m f n cur) : R ≠ G := by
  intro e; have a := h.hR; have b := h.hG; rw [e, b] at a; simp at a

theorem len_nil (w : World) : Calls Try.prog 19 #[.pointer none] w fun e w' => e = .returned (.int .i64 0) ∧ w' = w := by
  go_enter Try.func19, Try.ntmps19
  go_wp2
  go_ret
  exact ⟨rfl, rfl⟩

theorem len_ring {w : World} {R G m f n : Nat} {cur} (h : RingAt w R G m f n cur) :
    Calls Try.prog 19 #[.pointer (some ⟨R, 0, none⟩)] w fun e w' => e = .returned (.int .i64 n) ∧ w' = w := by
  have c2 := h.c2
  go_enter Try.func19, Try.ntmps19
  go_wp2
  go_ret
  exact ⟨rfl, rfl⟩

theorem room_nil (w : World) : Calls Try.prog 20 #[.pointer none] w fun e w' => e = .returned (.int .i64 0) ∧ w' = w := by
  go_enter Try.func20, Try.ntmps20
  go_wp2
  go_ret
  exact ⟨rfl, rfl⟩

theorem room_ring {w : World} {R G m f n : Nat} {cur} (h : RingAt w R G m f n cur) :
    Calls Try.prog 20 #[.pointer (some ⟨R, 0, none⟩)] w fun e w' => e = .returned (.int .i64 ((m : Int) - n)) ∧ ∃ k, w' = w.drewN k := by
  have c0 := h.c0
  have c2 := h.c2
  have hm := h.hm
  have hn := h.hn
  go_enter Try.func20, Try.ntmps20
  go_wp2
  go_quiet (fail)
  go_wp2
  go_ret
  exact ⟨rfl, _, rfl⟩

theorem clear_nil (w : World) : Calls Try.prog 17 #[.pointer none] w fun e w' => e = .returned (.tuple #[]) ∧ w' = w := by
  go_enter Try.func17, Try.ntmps17
  go_wp2
  go_end0
  exact ⟨rfl, rfl⟩

theorem clear_ring {w : World} {R G m f n : Nat} {cur} (h : RingAt w R G m f n cur) :
    Calls Try.prog 17 #[.pointer (some ⟨R, 0, none⟩)] w fun e w' => e = .returned (.tuple #[]) ∧ w' = w.setCell ⟨R, 2, none⟩ (.int .i64 0) := by
  have c2 := h.c2
  have z2 := h.z 2
  go_enter Try.func17, Try.ntmps17
  go_wp2
  go_end0
  exact ⟨rfl, rfl⟩

theorem new_none (m : Int) (w : World) (h : m < 1 ∨ 4096 < m) : Calls Try.prog 11 #[.int .i64 m] w fun e w' => e = .returned (.pointer none) ∧ w' = w := by
  rcases h with h | h
  · go_enter Try.func11, Try.ntmps11
    go_wp2
    go_ret
    exact ⟨rfl, rfl⟩
  · have h' : ¬ m < 1 := by omega
    go_enter Try.func11, Try.ntmps11
    go_wp2
    go_ret
    exact ⟨rfl, rfl⟩

end Go.Proofs.Yteaglbfodeineaa
