/-
  The small living call: what has changed, and what is come to, in plain words.
-/
import Derived.Test.YteaglbfodeineaaTopO
import Derived.Test.YteaglbfodeineaaTopE
namespace Go.Proofs.Yteaglbfodeineaa
open Go.RowKit

/-- The two dumps of the living call, wherever their lists lie. -/
def lvD (p q : Nat) (s : ByteArray) : DumpV :=
  ⟨⟨some ⟨p, 0, none⟩, 1, 1, [⟨1, 0, true, 0, false, false, 1⟩]⟩, ⟨none, 0, 0, []⟩, ⟨none, 0, 0, []⟩, ⟨none, 0, 0, []⟩, ⟨some ⟨q, 0, none⟩, 1, 1, [⟨3, false, false, s⟩]⟩, ⟨none, 0, 0, []⟩, ⟨none, 0, 0, []⟩, 0, 0, 0, 0, 0⟩

theorem rsl_none {α : Type} {size : Nat} {R : World → List Value → α → Prop} {w : World} : RSl size R w ⟨none, 0, 0, []⟩ :=
  ⟨Nat.le_refl _, Nat.zero_le _, fun _ => ⟨rfl, rfl⟩, rfl, fun i x hx => by simp at hx⟩

theorem rsl_one {α : Type} {size : Nat} {R : World → List Value → α → Prop} {w : World} {b : Nat} {x : α} {cs : List Value} {e : TypeId} {z : Nat × Nat} (hb : w.heap[b]? = some (.cells cs.toArray e z)) (hl : cs.length = size) (hR : R w cs x) : RSl size R w ⟨some ⟨b, 0, none⟩, 1, 1, [x]⟩ := by
  refine ⟨Nat.le_refl _, by unfold maxLen; show 1 ≤ _; omega, fun e => by simp at e, rfl, fun i y hy => ?_⟩
  have hi := (List.getElem?_eq_some_iff.1 hy).1
  simp at hi
  subst hi
  simp at hy
  subst hy
  refine ⟨b, 0, cs, rfl, hl, fun j u hj => ?_, hR⟩
  simp [World.cell?, hb, hj]

theorem lv_rd {w : World} {p q : Nat} {s : ByteArray} {e e' : TypeId} {z z' : Nat × Nat} (hs : s.size ≤ maxLen) (hp : w.heap[p]? = some (.cells #[.int .i64 1, .int .i64 0, .bool true, .int .i64 0, .bool false, .bool false, .int .i64 1] e z)) (hq : w.heap[q]? = some (.cells #[.int .i64 3, .bool false, .bool false, .string s] e' z')) : RDump w (lvD p q s) :=
  ⟨rsl_one (cs := [.int .i64 1, .int .i64 0, .bool true, .int .i64 0, .bool false, .bool false, .int .i64 1]) hp rfl ⟨rfl, rfl, rfl⟩, rsl_none, rsl_none, rsl_one (cs := [.int .i64 3, .bool false, .bool false, .string s]) hq rfl ⟨rfl, rfl, hs⟩, rsl_none, rsl_none⟩

theorem lv_cut (p q : Nat) (s : ByteArray) : Cut (lvD p q s) := by
  constructor <;> simp [lvD]

theorem lv_eff {p q p' q' : Nat} {s s' : ByteArray} (hs : (s == s') = false) (o : Ob) : EffT (lvD p q s) (lvD p' q' s') o ↔ o = (5, 3) := by
  obtain ⟨k, n⟩ := o
  unfold EffT Chg
  have h1 : (lvD p q s).inodeIds = [] := rfl
  have h2 : (lvD p q s).sockIds = [] := rfl
  have h3 : (lvD p q s).pipeIds = [3] := rfl
  have h4 : (lvD p q s).procIds = [1] := rfl
  have h3' : (lvD p' q' s').pipeIds = [3] := rfl
  have h4' : (lvD p' q' s').procIds = [1] := rfl
  rw [h1, h2, h3, h4, h3', h4']
  constructor
  · rintro (⟨_, i, hi, _⟩ | ⟨hk, i, hi, _⟩ | ⟨_, i, hi, _⟩ | ⟨_, i, hi, hc⟩)
    · simp [ixOf] at hi
    · simp only at hk hi
      by_cases e : (3 : Int) = n
      · subst e; rw [hk]
      · simp [ixOf, e] at hi
    · simp [ixOf] at hi
    · simp only at hi hc
      by_cases e : (1 : Int) = n
      · subst e
        simp [ixOf] at hi hc
        subst hi
        simp [sameProc, lvD, procEq] at hc
      · simp [ixOf, e] at hi
  · intro h
    cases h
    refine .inr (.inl ⟨rfl, 0, by simp [ixOf], fun k hk => ?_⟩)
    simp [ixOf] at hk
    subst hk
    simp [samePipe, lvD, pipeEq, hs]

theorem lv_auth {p q : Nat} {s : ByteArray} (o : Ob) : Auth (lvD p q s) 1 o ↔ o = (1, 1) ∨ o = (7, 1) := by
  have hat : atProc (lvD p q s) 1 = some ⟨1, 0, true, 0, false, false, 1⟩ := rfl
  have hhd : ∀ n, heldOf (lvD p q s) n = [] := fun n => rfl
  constructor
  · intro h
    induction h with
    | start => exact .inr rfl
    | step _ hm ih =>
      rcases ih with rfl | rfl
      · rcases hm with ⟨h7, _⟩ | ⟨h6, _⟩
        · simp at h7
        · simp at h6
      · rcases hm with ⟨_, hm⟩ | ⟨h6, _⟩
        · rcases hm with ⟨x, hx, _, rfl⟩ | ⟨n, hn, _⟩
          · rw [hat] at hx; cases hx; exact .inl rfl
          · rw [hhd] at hn; simp at hn
        · simp at h6
  · rintro (rfl | rfl)
    · exact .step .start (.inl ⟨rfl, .inl ⟨_, hat, by decide, rfl⟩⟩)
    · exact .start

end Go.Proofs.Yteaglbfodeineaa
