/-
  Whether two processes are one but for their parents.
-/
import Derived.Test.YteaglbfodeineaaEquals
import Derived.Deep.RegionWith
namespace Go.Proofs.Yteaglbfodeineaa
open Go.RowKit

def ProcV.val (x : ProcV) : Value := .agg #[.int .i64 x.pid, .int .i64 x.parent, .bool x.lives, .int .i64 x.code, .bool x.pd, .bool x.cap, .int .i64 x.cwd]
def procEq (x y : ProcV) : Bool := x.pid == y.pid && (x.lives == y.lives && (x.code == y.code && (x.pd == y.pd && (x.cap == y.cap && x.cwd == y.cwd))))

set_option maxHeartbeats 2000000 in
theorem proc_eq {w : World} (x y : ProcV) : Calls Try.prog 52 #[x.val, y.val] w fun e w' => e = .returned (.bool (procEq x y)) ∧ Turned [] w w' := by
  have hq : ∀ w, (binOp .eql 82 (.agg #[.int .i64 x.pid, .int .i64 y.parent, .bool x.lives, .int .i64 x.code, .bool x.pd, .bool x.cap, .int .i64 x.cwd]) (.agg #[.int .i64 y.pid, .int .i64 y.parent, .bool y.lives, .int .i64 y.code, .bool y.pd, .bool y.cap, .int .i64 y.cwd])).run Try.prog w = .ok (.bool (procEq x y)) w := fun w => by
    rw [eql_proc]; simp [procEq]
  generalize procEq x y = r at hq ⊢
  unfold ProcV.val
  go_enter Try.func52, Try.ntmps52
  go_wp2
  go_ret
  exact ⟨rfl, ((Turned.refl _ _).alloc _).alloc _⟩

set_option maxHeartbeats 2000000 in
theorem closure_51 {w : World} {B1 B2 i k : Nat} {s t : Sl ProcV} {x y : ProcV} (hs : RSl 7 RProc w s) (ht : RSl 7 RProc w t) (hc1 : w.cell? ⟨B1, 0, none⟩ = some s.v) (hc2 : w.cell? ⟨B2, 0, none⟩ = some t.v)
    (hx : s.xs[i]? = some x) (hy : t.xs[k]? = some y) :
    Calls Try.prog 51 #[.int .i64 i, .int .i64 k, .pointer (some ⟨B1, 0, none⟩), .pointer (some ⟨B2, 0, none⟩)] w fun e w' => e = .returned (.bool (procEq x y)) ∧ Turned [] w w' := by
  have hl := hs.lc
  have hcm := hs.cm
  have hi : i < s.len := by rw [← hs.n]; exact (List.getElem?_eq_some_iff.1 hx).1
  have hl' := ht.lc
  have hcm' := ht.cm
  have hk : k < t.len := by rw [← ht.n]; exact (List.getElem?_eq_some_iff.1 hy).1
  unfold maxLen at hcm hcm'
  obtain ⟨b, o, hab, e0, e1, e2, e3, e4, e5, e6, _⟩ := proc_cells (hs.at_ i x hx)
  obtain ⟨b', o', hab', f0, f1, f2, f3, f4, f5, f6, _⟩ := proc_cells (ht.at_ k y hy)
  simp only [Sl.v] at hc1 hc2
  rw [hab] at hc1
  rw [hab'] at hc2
  have hpr : ∀ w, Calls Try.prog 52 #[x.val, y.val] w fun e w' => e = .returned (.bool (procEq x y)) ∧ Turned [] w w' := fun w => proc_eq x y
  unfold ProcV.val at hpr
  have HPR := Lib.hid hpr
  generalize procEq x y = r at HPR ⊢
  clear hs ht hx hy hpr
  go_enter Try.func51, Try.ntmps51
  go_wp2
  go_region_with (go_at_call 52; refine (HPR.out _).mono ?_; rintro e w' ⟨rfl, ht⟩)
  all_goals
    go_wp2
    go_ret
    exact ⟨rfl, ((Turned.refl [] w).drewN 1).trans ht⟩
end Go.Proofs.Yteaglbfodeineaa
