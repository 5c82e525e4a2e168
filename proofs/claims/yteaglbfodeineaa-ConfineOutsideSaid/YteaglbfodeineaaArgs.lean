/-
  A descriptor that came in as an argument.
-/
import Derived.Test.YteaglbfodeineaaDump
namespace Go.Proofs.Yteaglbfodeineaa
open Go.RowKit Go.ChangeShapes Go.WideShapes Go.Deep

section
variable {H : Type} {enc : TypeId × Value → H} {w : World}

def HeldV.cells0 (h : HeldV) : List Value := .int .i64 h.pid :: .int .i64 h.fd :: h.slot.cells

set_option maxRecDepth 100000 in
theorem held_arg {r : Reach} {b0 : Nat} {v : Value} {d : DataW H} {p : List MemPlace} (hv : Value.okWide Try.prog w r b0 67 v) (h : DataW.Trod enc Try.prog w 0 (fun _ => true) true 67 v d p) :
    ∃ D : HeldV, v = .agg D.cells0.toArray ∧ RHeld w D.cells0 D := by
  obtain ⟨cs, rfl, hsz⟩ := okWide_struct Try.underlying67 hv
  obtain ⟨fuel, hf⟩ := h
  obtain ⟨D, h1, h2⟩ := down_held _ _ _ hf
  have h1' : cs.toList = D.cells0 := h1
  refine ⟨D, ?_, rfl, h2⟩
  rw [← h1']
end
end Go.Proofs.Yteaglbfodeineaa
