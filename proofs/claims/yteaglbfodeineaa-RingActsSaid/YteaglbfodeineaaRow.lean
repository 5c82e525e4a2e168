/-
  What a slice of bytes that came in is, as the walks ask it.
-/
import Derived.Test.YteaglbfodeineaaRg
import Derived.OpenShut
namespace Go.Proofs.Yteaglbfodeineaa
open Go.RowKit

/-- A slice of integers that came in: nil; or it leads to a row of 'cap' cells, the numbers 'zs'. -/
def IsRow (k : IntKind) (w : World) (a : Option Addr) (len cap : Nat) (zs : List Int) : Prop :=
  (a = none ∧ len = 0 ∧ cap = 0 ∧ zs = []) ∨
  ∃ x, a = some x ∧ len ≤ cap ∧ cap ≤ maxLen ∧ zs.length = cap ∧ (∀ i, i < zs.length → w.cell? (x.add i) = some (.int k (zs.getD i 0))) ∧ ∀ n ∈ zs, (Lit.int k n).wf = true

theorem IsRow.lies {w : World} {a : Option Addr} {len cap : Nat} {zs : List Int} (h : IsRow .u8 w a len cap zs) :
    len ≤ cap ∧ cap ≤ maxLen ∧ (a = none → len = 0 ∧ cap = 0) ∧ ∃ ys, Lies w a len ys [] := by
  rcases h with ⟨rfl, rfl, rfl, rfl⟩ | ⟨x, rfl, h1, h2, h3, h4, _⟩
  · exact ⟨Nat.le_refl _, Nat.zero_le _, fun _ => ⟨rfl, rfl⟩, [], rfl, .inl rfl⟩
  · refine ⟨h1, h2, fun e => by simp at e, zs.take len, by simp; omega, ?_⟩
    by_cases h0 : len = 0
    · exact .inl h0
    · obtain ⟨b, o, rfl, hc⟩ := ints_at h4 (by omega)
      refine .inr ⟨b, o, rfl, by simp, fun j hj => ?_⟩
      rw [hc j (by omega)]
      simp [List.getElem?_take_of_lt hj]

end Go.Proofs.Yteaglbfodeineaa
