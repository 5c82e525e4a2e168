/-
  Whether two pipes are one: the closure of effects.
-/
import Derived.Test.YteaglbfodeineaaEquals
namespace Go.Proofs.Yteaglbfodeineaa
open Go.RowKit

def pipeEq (x y : PipeV) : Bool := x.id == y.id && (x.reads == y.reads && (x.writes == y.writes && x.b == y.b))

set_option maxHeartbeats 2000000 in
theorem closure_48 {w : World} {B1 B2 i k : Nat} {s t : Sl PipeV} {x y : PipeV} (hs : RSl 4 RPipe w s) (ht : RSl 4 RPipe w t) (hc1 : w.cell? ⟨B1, 4, none⟩ = some s.v) (hc2 : w.cell? ⟨B2, 4, none⟩ = some t.v)
    (hx : s.xs[i]? = some x) (hy : t.xs[k]? = some y) :
    Calls Try.prog 48 #[.int .i64 i, .int .i64 k, .pointer (some ⟨B1, 0, none⟩), .pointer (some ⟨B2, 0, none⟩)] w fun e w' => e = .returned (.bool (pipeEq x y)) ∧ Turned [] w w' := by
  have hl := hs.lc
  have hcm := hs.cm
  have hi : i < s.len := by rw [← hs.n]; exact (List.getElem?_eq_some_iff.1 hx).1
  have hl' := ht.lc
  have hcm' := ht.cm
  have hk : k < t.len := by rw [← ht.n]; exact (List.getElem?_eq_some_iff.1 hy).1
  unfold maxLen at hcm hcm'
  obtain ⟨b, o, hab, e0, e1, e2, e3, _⟩ := pipe_cells (hs.at_ i x hx)
  obtain ⟨b', o', hab', f0, f1, f2, f3, _⟩ := pipe_cells (ht.at_ k y hy)
  simp only [Sl.v] at hc1 hc2
  rw [hab] at hc1
  rw [hab'] at hc2
  have hq : ∀ w, (binOp .eql 84 (.agg #[.int .i64 x.id, .bool x.reads, .bool x.writes, .string x.b]) (.agg #[.int .i64 y.id, .bool y.reads, .bool y.writes, .string y.b])).run Try.prog w = .ok (.bool (pipeEq x y)) w := fun w => eql_pipe w _ _ _ _ _ _ _ _
  generalize pipeEq x y = r at hq ⊢
  clear hs ht hx hy
  go_enter Try.func48, Try.ntmps48
  go_wp2
  go_quiet (fail)
  go_wp2
  go_ret
  exact ⟨rfl, (Turned.refl _ _).drewN _⟩
end Go.Proofs.Yteaglbfodeineaa
