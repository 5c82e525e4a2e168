/-
  The closure that compares two things.
-/
import Derived.Test.YteaglbfodeineaaCmp
import Derived.Deep.RegionWith
import Derived.Deep.RegionHeld3
namespace Go.Proofs.Yteaglbfodeineaa
open Go.RowKit

theorem cmpO_eq (x y : Ob) : cmpO x y = if cmpI x.1 y.1 ≠ 0 then cmpI x.1 y.1 else cmpI x.2 y.2 := rfl

theorem block_at {w : World} {b : Nat} {cur : Array Value} {e : TypeId} {z : Nat × Nat} (h : w.heap[b]? = some (.cells cur e z)) {k : Nat} {v : Value} (hv : cur[k]? = some v) : w.cell? ⟨b, k, none⟩ = some v := by
  simp [World.cell?, h, hv]
theorem third_cell {w : World} {a b : Obj} {cs : Array Value} {e : TypeId} {z : Nat × Nat} {i : Nat} {v : Value} (hv : cs[i]? = some v) : ((((w.alloc a).alloc b).alloc (.cells cs e z)).drew).cell? ⟨w.heap.size + 1 + 1, i, none⟩ = some v := by
  have hs : ((w.alloc a).alloc b).heap.size = w.heap.size + 1 + 1 := by simp
  have h1 : (((w.alloc a).alloc b).alloc (.cells cs e z)).heap[((w.alloc a).alloc b).heap.size]? = some (.cells cs e z) := heap_alloc_new _ _
  rw [hs] at h1
  exact block_at h1 hv

set_option maxRecDepth 100000 in
set_option maxHeartbeats 4000000 in
theorem closure_57 {w : World} (x y : Ob) : Calls Try.prog 57 #[.agg #[.int .i64 x.1, .int .i64 x.2], .agg #[.int .i64 y.1, .int .i64 y.2]] w fun e w' => e = .returned (.int .i64 (cmpO x y)) ∧
    ∃ q a b c, w' = ((((w.alloc a).alloc b).alloc c).drewN q) := by
  obtain ⟨x1, x2⟩ := x
  obtain ⟨y1, y2⟩ := y
  obtain ⟨r, hr⟩ : ∃ r, r = cmpO (x1, x2) (y1, y2) := ⟨_, rfl⟩
  have HC := Lib.hid (hr.trans (cmpO_eq (x1, x2) (y1, y2)))
  rw [← hr]
  clear hr
  have hcmp : ∀ (a b : Int) (w : World), Calls Try.prog 59 #[.int .i64 a, .int .i64 b] w fun e w' => e = .returned (.int .i64 (cmpI a b)) ∧ w' = w := fun a b w => compare_int a b
  have HCMP := Lib.hid hcmp
  clear hcmp
  go_enter Try.func57, Try.ntmps57
  go_wp2
  go_region_held3 (fun w' => w'.cell? ⟨w.heap.size, 0, none⟩ = some (.int .i64 x1) ∧ w'.cell? ⟨w.heap.size, 1, none⟩ = some (.int .i64 x2) ∧ w'.cell? ⟨w.heap.size + 1, 0, none⟩ = some (.int .i64 y1) ∧ w'.cell? ⟨w.heap.size + 1, 1, none⟩ = some (.int .i64 y2))
    (go_keep)
    (first
    | (go_at_call 59; refine (HCMP.out _ _ _).mono ?_; rintro e w' ⟨rfl, rfl⟩)
    | (go_at_call 58; refine (or_two (b := w.heap.size + 1 + 1) (o := 0) (p := cmpI x1 y1) (q := cmpI x2 y2) (third_cell rfl) (third_cell rfl)).mono ?_; rintro e w' ⟨he, rfl⟩; rw [← HC.out] at he; obtain rfl := he))
  all_goals
    go_wp2
    go_ret
    exact ⟨rfl, 1, _, _, _, rfl⟩
end Go.Proofs.Yteaglbfodeineaa
