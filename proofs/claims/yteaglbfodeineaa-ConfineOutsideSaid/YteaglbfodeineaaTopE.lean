/-
  Effects: the walk.
-/
import Derived.Test.YteaglbfodeineaaEffs
namespace Go.Proofs.Yteaglbfodeineaa
open Go.RowKit

set_option maxRecDepth 100000 in
set_option maxHeartbeats 2000000 in
theorem effects_top {w : World} {D E : DumpV} (hD : RDump w D) (hE : RDump w E) (hcD : Cut D) (hcE : Cut E) :
    Calls Try.prog 24 #[D.v, E.v] w fun e w' => ∃ v l, e = .returned v ∧ Srt l ∧ OwnL w' w.heap.size v l ∧ Turned [] w w' ∧ l.length ≤ 36 ∧ ∀ o, o ∈ l ↔ EffT D E o := by
  have HC : Hid (∀ w1, Turned [] w w1 → Calls Try.prog 32 #[D.v, E.v] w1 fun e w' => ∃ v l, e = .returned v ∧ Srt l ∧ OwnL w' w1.heap.size v l ∧ Turned [] w1 w' ∧ l.length ≤ 36 ∧ ∀ o, o ∈ l ↔ EffT D E o) := Lib.hid fun w1 h => effects_any (hD.stays h) (hE.stays h) hcD hcE
  clear hD hE hcD hcE
  simp only [DumpV.v, DumpV.cells, Sl.v] at HC ⊢
  go_enter Try.func24, Try.ntmps24
  go_wp2_with fail
  generalize hW : World.alloc (World.alloc w _) _ = W
  have HT := Lib.hid (show Turned [] w W by rw [← hW]; exact ((Turned.refl [] w).alloc _).alloc _)
  clear hW
  refine (HC.out _ HT.out).mono ?_
  rintro e w2 ⟨v, l, rfl, hs, ho, ht2, hlen, hm⟩
  have HS := Lib.hid hs
  have HO := Lib.hid ho
  have HT2 := Lib.hid ht2
  have HL := Lib.hid hlen
  have HM := Lib.hid hm
  clear hs ho ht2 hlen hm
  go_wp2
  go_ret
  exact ⟨_, l, rfl, HS.out, HO.out.mono HT.out.size, HT.out.trans HT2.out, HL.out, HM.out⟩
end Go.Proofs.Yteaglbfodeineaa
