/-
  What one comes to by a descriptor more is no less: in plain words.
-/
import Derived.Test.YteaglbfodeineaaAuth
namespace Go.Proofs.Yteaglbfodeineaa
open Go.RowKit

/-- A dump with another list of descriptors. -/
def DumpV.hold (D : DumpV) (H : Sl HeldV) : DumpV := { D with held := H }

theorem hold_bound {D : DumpV} {H : Sl HeldV} : ∀ (k : Nat) (n : Int), boundUpto (D.hold H) k n = boundUpto D k n
  | 0, _ => rfl
  | k + 1, n => by
    unfold boundUpto
    rw [hold_bound k n]
    rfl

theorem hold_dn {D : DumpV} {H : Sl HeldV} {a n : Int} (h : Dn D a n) : Dn (D.hold H) a n := by
  induction h with
  | refl => exact .refl
  | step _ hm ih => exact .step ih hm

theorem hold_op {D : DumpV} {H : Sl HeldV} {id : Int} {o : Ob} (h : OpT D id o) : OpT (D.hold H) id o := by
  obtain ⟨f, hf, h⟩ := h
  refine ⟨f, hf, ?_⟩
  rcases h with ⟨hk, n, hd, ho⟩ | h
  · refine .inl ⟨hk, n, hold_dn hd, ?_⟩
    rcases ho with ho | ⟨i, hi, ho⟩
    · exact .inl ho
    · refine .inr ⟨i, ?_, ho⟩
      unfold boundOf at hi ⊢
      rw [hold_bound]
      exact hi
  · exact .inr h

theorem held_mono {D : DumpV} {H : Sl HeldV} (h : ∀ (i : Nat) (x : HeldV), D.held.xs[i]? = some x → H.xs[i]? = some x) : ∀ (k : Nat) (n id : Int), id ∈ heldUpto D k n → id ∈ heldUpto (D.hold H) k n
  | 0, _, _, hi => by simp [heldUpto] at hi
  | k + 1, n, id, hi => by
    unfold heldUpto at hi ⊢
    rcases List.mem_append.1 hi with hi | hi
    · exact List.mem_append_left _ (held_mono h k n id hi)
    · refine List.mem_append_right _ ?_
      cases hx : D.held.xs[k]? with
      | none => rw [hx] at hi; simp at hi
      | some x =>
        rw [hx] at hi
        have : (D.hold H).held.xs[k]? = some x := h k x hx
        rw [this]
        exact hi

theorem held_more {D : DumpV} {k m : Nat} (h : k ≤ m) (n id : Int) (hi : id ∈ heldUpto D k n) : id ∈ heldUpto D m n := by
  induction m with
  | zero => rw [show k = 0 by omega] at hi; exact hi
  | succ m ih =>
    by_cases e : k = m + 1
    · subst e; exact hi
    · unfold heldUpto
      exact List.mem_append_left _ (ih (by omega))

theorem auth_more {D : DumpV} {H : Sl HeldV} {pid : Int} {o : Ob} (h : ∀ (i : Nat) (x : HeldV), D.held.xs[i]? = some x → H.xs[i]? = some x) (hl : D.held.len ≤ H.len) (hA : Auth D pid o) : Auth (D.hold H) pid o := by
  induction hA with
  | start => exact .start
  | step _ hm ih =>
    refine .step ih ?_
    rcases hm with ⟨h7, hm⟩ | ⟨h6, s, hs, hm⟩
    · refine .inl ⟨h7, ?_⟩
      rcases hm with hm | ⟨id, hid, hm⟩
      · exact .inl hm
      · refine .inr ⟨id, ?_, hold_op hm⟩
        unfold heldOf at hid ⊢
        exact held_more (show D.held.len ≤ (D.hold H).held.len from hl) _ _ (held_mono h _ _ _ hid)
    · refine .inr ⟨h6, s, hs, ?_⟩
      rcases hm with hm | hm | ⟨q, hq, x, hx, hm⟩
      · exact .inl hm
      · exact .inr (.inl hm)
      · exact .inr (.inr ⟨q, hq, x, hx, hold_op hm⟩)

end Go.Proofs.Yteaglbfodeineaa
