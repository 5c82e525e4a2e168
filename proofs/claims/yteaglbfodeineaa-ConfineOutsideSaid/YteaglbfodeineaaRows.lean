/-
  No cell of these rows narrows 'for every input' (looked for: loops, veiled, ifaces, maps, wideKeys, modest, calm, conditions, laid).
  DERIVED. THE GIVEN ROWS OF THIS SEAT. 8 by the template 'for every input the law returns true; each argument reads behind the call as it read before'; 0 by the template 'total and deterministic' (their statements: YteaglbfodeineaaTotals.lean).
  GIVEN WITH THE SEED: the statements are not yours to turn. If you find one false, say at which input.
  Laid BY PROGRAM, IN A SANDBOX (cutbox-rows.mjs): the forced cells as the released guide's own fill.sh prints them over the translation 3d4f6bc4cf2b2085… (all of the seat's roots in one cut). By AI agents, Wed Nov 11 2026. No macro, syntax, notation, axiom, sorry.
-/
import Derived.Test.YteaglbfodeineaaChecked
import GoSem.Claim
import GoSem.ClaimJoined
import GoSem.ClaimMapViews
import Derived.JoinedTies
import Derived.KernelRfl
namespace Go.Proofs.Yteaglbfodeineaa
/- THE CELL 'sum', in the pinned program and in every row, IS THE sha256 OF THE DUMP (.gsa) THAT YteaglbfodeineaaProg.lean LOADS. Nothing in Lean hashes anything: it is a label: what it is worth is what the hold of that sum in a sandbox is worth. -/
noncomputable def Try.pinned : Pinned := { name := "yteaglbfodeineaa", sum := "3d4f6bc4cf2b208512a3703fc44b2a58bc6c6016ca5a4aba8137a32820c1b509", checked := Try.checked }
namespace Rows
def none {H : Type} : Left H := { results := [], args := [] }

/-- 'purlieulaw09.RingOrder': WHATEVER THE INPUT: true; the input reads as it did. -/
def ringOrderSpec : ChangeSpec := { name := "ringOrder", fn := fun _ => fun
  | [d1, d2] => { results := [.lit (.bool true)], args := [d1, d2] }
  | _ => none }
def ringOrderRow : OpenClaim := { program := "yteaglbfodeineaa", sum := "3d4f6bc4cf2b208512a3703fc44b2a58bc6c6016ca5a4aba8137a32820c1b509", func := "purlieu/purlieulaw09.RingOrder", spec := "ringOrder", plainKeys := false, apart := false }
def RingOrderSaid : Prop := ringOrderRow.holds Try.pinned (OpenSpec.ofChange ringOrderSpec)

/-- ITS FALSE NEIGHBOUR: 'it returns false'. Refute it at one input. -/
def ringOrderWrong : ChangeSpec := { name := "ringOrder", fn := fun _ => fun
  | [d1, d2] => { results := [.lit (.bool false)], args := [d1, d2] }
  | _ => none }
def RingOrderWrongFalsely : Prop := ringOrderRow.holds Try.pinned (OpenSpec.ofChange ringOrderWrong)

/-- 'purlieulaw09.RingApart': WHATEVER THE INPUT: true; the input reads as it did. -/
def ringApartSpec : ChangeSpec := { name := "ringApart", fn := fun _ => fun
  | [d1, d2] => { results := [.lit (.bool true)], args := [d1, d2] }
  | _ => none }
def ringApartRow : OpenClaim := { program := "yteaglbfodeineaa", sum := "3d4f6bc4cf2b208512a3703fc44b2a58bc6c6016ca5a4aba8137a32820c1b509", func := "purlieu/purlieulaw09.RingApart", spec := "ringApart", plainKeys := false, apart := false }
def RingApartSaid : Prop := ringApartRow.holds Try.pinned (OpenSpec.ofChange ringApartSpec)

/-- ITS FALSE NEIGHBOUR: 'it returns false'. Refute it at one input. -/
def ringApartWrong : ChangeSpec := { name := "ringApart", fn := fun _ => fun
  | [d1, d2] => { results := [.lit (.bool false)], args := [d1, d2] }
  | _ => none }
def RingApartWrongFalsely : Prop := ringApartRow.holds Try.pinned (OpenSpec.ofChange ringApartWrong)

/-- 'purlieulaw09.RingActs': WHATEVER THE INPUT: true; the input reads as it did. -/
def ringActsSpec : ChangeSpec := { name := "ringActs", fn := fun _ => fun
  | [d1, d2] => { results := [.lit (.bool true)], args := [d1, d2] }
  | _ => none }
def ringActsRow : OpenClaim := { program := "yteaglbfodeineaa", sum := "3d4f6bc4cf2b208512a3703fc44b2a58bc6c6016ca5a4aba8137a32820c1b509", func := "purlieu/purlieulaw09.RingActs", spec := "ringActs", plainKeys := false, apart := false }
def RingActsSaid : Prop := ringActsRow.holds Try.pinned (OpenSpec.ofChange ringActsSpec)

/-- ITS FALSE NEIGHBOUR: 'it returns false'. Refute it at one input. -/
def ringActsWrong : ChangeSpec := { name := "ringActs", fn := fun _ => fun
  | [d1, d2] => { results := [.lit (.bool false)], args := [d1, d2] }
  | _ => none }
def RingActsWrongFalsely : Prop := ringActsRow.holds Try.pinned (OpenSpec.ofChange ringActsWrong)

/-- 'purlieulaw09.RingNews': WHATEVER THE INPUT: true; the input reads as it did. -/
def ringNewsSpec : ChangeSpec := { name := "ringNews", fn := fun _ => fun
  | [d1, d2, d3] => { results := [.lit (.bool true)], args := [d1, d2, d3] }
  | _ => none }
def ringNewsRow : OpenClaim := { program := "yteaglbfodeineaa", sum := "3d4f6bc4cf2b208512a3703fc44b2a58bc6c6016ca5a4aba8137a32820c1b509", func := "purlieu/purlieulaw09.RingNews", spec := "ringNews", plainKeys := false, apart := false }
def RingNewsSaid : Prop := ringNewsRow.holds Try.pinned (OpenSpec.ofChange ringNewsSpec)

/-- ITS FALSE NEIGHBOUR: 'it returns false'. Refute it at one input. -/
def ringNewsWrong : ChangeSpec := { name := "ringNews", fn := fun _ => fun
  | [d1, d2, d3] => { results := [.lit (.bool false)], args := [d1, d2, d3] }
  | _ => none }
def RingNewsWrongFalsely : Prop := ringNewsRow.holds Try.pinned (OpenSpec.ofChange ringNewsWrong)

/-- 'purlieulaw28.ConfineEffects': WHATEVER THE INPUT: true; the input reads as it did. -/
def confineEffectsSpec : ChangeSpec := { name := "confineEffects", fn := fun _ => fun
  | [d1, d2] => { results := [.lit (.bool true)], args := [d1, d2] }
  | _ => none }
def confineEffectsRow : OpenClaim := { program := "yteaglbfodeineaa", sum := "3d4f6bc4cf2b208512a3703fc44b2a58bc6c6016ca5a4aba8137a32820c1b509", func := "purlieu/purlieulaw28.ConfineEffects", spec := "confineEffects", unfollowed := true, recurses := true, plainKeys := false, apart := false }
def ConfineEffectsSaid : Prop := confineEffectsRow.holds Try.pinned (OpenSpec.ofChange confineEffectsSpec)

/-- ITS FALSE NEIGHBOUR: 'it returns false'. Refute it at one input. -/
def confineEffectsWrong : ChangeSpec := { name := "confineEffects", fn := fun _ => fun
  | [d1, d2] => { results := [.lit (.bool false)], args := [d1, d2] }
  | _ => none }
def ConfineEffectsWrongFalsely : Prop := confineEffectsRow.holds Try.pinned (OpenSpec.ofChange confineEffectsWrong)

/-- 'purlieulaw28.ConfineAuthority': WHATEVER THE INPUT: true; the input reads as it did. -/
def confineAuthoritySpec : ChangeSpec := { name := "confineAuthority", fn := fun _ => fun
  | [d1, d2] => { results := [.lit (.bool true)], args := [d1, d2] }
  | _ => none }
def confineAuthorityRow : OpenClaim := { program := "yteaglbfodeineaa", sum := "3d4f6bc4cf2b208512a3703fc44b2a58bc6c6016ca5a4aba8137a32820c1b509", func := "purlieu/purlieulaw28.ConfineAuthority", spec := "confineAuthority", unfollowed := true, recurses := true, plainKeys := false, apart := false }
def ConfineAuthoritySaid : Prop := confineAuthorityRow.holds Try.pinned (OpenSpec.ofChange confineAuthoritySpec)

/-- ITS FALSE NEIGHBOUR: 'it returns false'. Refute it at one input. -/
def confineAuthorityWrong : ChangeSpec := { name := "confineAuthority", fn := fun _ => fun
  | [d1, d2] => { results := [.lit (.bool false)], args := [d1, d2] }
  | _ => none }
def ConfineAuthorityWrongFalsely : Prop := confineAuthorityRow.holds Try.pinned (OpenSpec.ofChange confineAuthorityWrong)

/-- 'purlieulaw28.ConfineOutside': WHATEVER THE INPUT: true; the input reads as it did. -/
def confineOutsideSpec : ChangeSpec := { name := "confineOutside", fn := fun _ => fun
  | [d1, d2, d3] => { results := [.lit (.bool true)], args := [d1, d2, d3] }
  | _ => none }
def confineOutsideRow : OpenClaim := { program := "yteaglbfodeineaa", sum := "3d4f6bc4cf2b208512a3703fc44b2a58bc6c6016ca5a4aba8137a32820c1b509", func := "purlieu/purlieulaw28.ConfineOutside", spec := "confineOutside", unfollowed := true, recurses := true, plainKeys := false, apart := false }
def ConfineOutsideSaid : Prop := confineOutsideRow.holds Try.pinned (OpenSpec.ofChange confineOutsideSpec)

/-- ITS FALSE NEIGHBOUR: 'it returns false'. Refute it at one input. -/
def confineOutsideWrong : ChangeSpec := { name := "confineOutside", fn := fun _ => fun
  | [d1, d2, d3] => { results := [.lit (.bool false)], args := [d1, d2, d3] }
  | _ => none }
def ConfineOutsideWrongFalsely : Prop := confineOutsideRow.holds Try.pinned (OpenSpec.ofChange confineOutsideWrong)

/-- 'purlieulaw28.ConfineMore': WHATEVER THE INPUT: true; the input reads as it did. -/
def confineMoreSpec : ChangeSpec := { name := "confineMore", fn := fun _ => fun
  | [d1, d2, d3] => { results := [.lit (.bool true)], args := [d1, d2, d3] }
  | _ => none }
def confineMoreRow : OpenClaim := { program := "yteaglbfodeineaa", sum := "3d4f6bc4cf2b208512a3703fc44b2a58bc6c6016ca5a4aba8137a32820c1b509", func := "purlieu/purlieulaw28.ConfineMore", spec := "confineMore", unfollowed := true, recurses := true, plainKeys := false, apart := false }
def ConfineMoreSaid : Prop := confineMoreRow.holds Try.pinned (OpenSpec.ofChange confineMoreSpec)

/-- ITS FALSE NEIGHBOUR: 'it returns false'. Refute it at one input. -/
def confineMoreWrong : ChangeSpec := { name := "confineMore", fn := fun _ => fun
  | [d1, d2, d3] => { results := [.lit (.bool false)], args := [d1, d2, d3] }
  | _ => none }
def ConfineMoreWrongFalsely : Prop := confineMoreRow.holds Try.pinned (OpenSpec.ofChange confineMoreWrong)

/- THE SECOND FORM. 'bulk': how many values and letters a reading holds, each counted each time it is reached (what is shared counts as often as it is met; a slice's spare places count too). A statement '..UptoSaid' is the law's where the arguments, and the package variables that the reading takes, are together of bulk at most 1048576: NARROWER than '..Said'. Prove '..Said' where nothing that the law and all that it calls make is longer than what came in: it says more and counts as full. Else prove '..UptoSaid'. A law counts once. -/
mutual
def uptoBulk {H : Type} : DataW H → Nat
  | .lit (.string bytes) => bytes.length + 1
  | .lit _ => 1
  | .nil => 1
  | .ptr d => uptoBulk d + 1
  | .slice elems spare => uptoBulkAll elems + uptoBulkAll spare + 1
  | .agg parts => uptoBulkAll parts + 1
  | .iface _ d => uptoBulk d + 1
  | .map entries => uptoBulkEntries entries + 1
  | .held _ => 1
def uptoBulkAll {H : Type} : List (DataW H) → Nat
  | [] => 0
  | d :: r => uptoBulk d + uptoBulkAll r
def uptoBulkEntries {H : Type} : List (Lit × DataW H) → Nat
  | [] => 0
  | x :: r => uptoBulkEntry x + uptoBulkEntries r
def uptoBulkEntry {H : Type} : Lit × DataW H → Nat
  | (.string bytes, d) => bytes.length + uptoBulk d + 1
  | (_, d) => uptoBulk d + 1
 end
def uptoSmall : (H : Type) → List (DataW H) → Bool := fun _ ds => decide (uptoBulkAll ds ≤ 1048576)
def OpenSpec.upto (s : _root_.Go.ChangeSpec) : _root_.Go.OpenSpec := { _root_.Go.OpenSpec.ofChange s with cond := some uptoSmall }

/-- 'purlieulaw09.RingOrder', WHERE WHAT IT READS IS OF BULK AT MOST 1048576: true; the input reads as it did. -/
def ringOrderUptoRow : OpenClaim := { program := "yteaglbfodeineaa", sum := "3d4f6bc4cf2b208512a3703fc44b2a58bc6c6016ca5a4aba8137a32820c1b509", func := "purlieu/purlieulaw09.RingOrder", spec := "ringOrder", plainKeys := false, apart := false, narrowed := true }
def RingOrderUptoSaid : Prop := ringOrderUptoRow.holds Try.pinned (OpenSpec.upto ringOrderSpec)

/-- 'purlieulaw09.RingApart', WHERE WHAT IT READS IS OF BULK AT MOST 1048576: true; the input reads as it did. -/
def ringApartUptoRow : OpenClaim := { program := "yteaglbfodeineaa", sum := "3d4f6bc4cf2b208512a3703fc44b2a58bc6c6016ca5a4aba8137a32820c1b509", func := "purlieu/purlieulaw09.RingApart", spec := "ringApart", plainKeys := false, apart := false, narrowed := true }
def RingApartUptoSaid : Prop := ringApartUptoRow.holds Try.pinned (OpenSpec.upto ringApartSpec)

/-- 'purlieulaw09.RingActs', WHERE WHAT IT READS IS OF BULK AT MOST 1048576: true; the input reads as it did. -/
def ringActsUptoRow : OpenClaim := { program := "yteaglbfodeineaa", sum := "3d4f6bc4cf2b208512a3703fc44b2a58bc6c6016ca5a4aba8137a32820c1b509", func := "purlieu/purlieulaw09.RingActs", spec := "ringActs", plainKeys := false, apart := false, narrowed := true }
def RingActsUptoSaid : Prop := ringActsUptoRow.holds Try.pinned (OpenSpec.upto ringActsSpec)

/-- 'purlieulaw09.RingNews', WHERE WHAT IT READS IS OF BULK AT MOST 1048576: true; the input reads as it did. -/
def ringNewsUptoRow : OpenClaim := { program := "yteaglbfodeineaa", sum := "3d4f6bc4cf2b208512a3703fc44b2a58bc6c6016ca5a4aba8137a32820c1b509", func := "purlieu/purlieulaw09.RingNews", spec := "ringNews", plainKeys := false, apart := false, narrowed := true }
def RingNewsUptoSaid : Prop := ringNewsUptoRow.holds Try.pinned (OpenSpec.upto ringNewsSpec)

/-- 'purlieulaw28.ConfineEffects', WHERE WHAT IT READS IS OF BULK AT MOST 1048576: true; the input reads as it did. -/
def confineEffectsUptoRow : OpenClaim := { program := "yteaglbfodeineaa", sum := "3d4f6bc4cf2b208512a3703fc44b2a58bc6c6016ca5a4aba8137a32820c1b509", func := "purlieu/purlieulaw28.ConfineEffects", spec := "confineEffects", unfollowed := true, recurses := true, plainKeys := false, apart := false, narrowed := true }
def ConfineEffectsUptoSaid : Prop := confineEffectsUptoRow.holds Try.pinned (OpenSpec.upto confineEffectsSpec)

/-- 'purlieulaw28.ConfineAuthority', WHERE WHAT IT READS IS OF BULK AT MOST 1048576: true; the input reads as it did. -/
def confineAuthorityUptoRow : OpenClaim := { program := "yteaglbfodeineaa", sum := "3d4f6bc4cf2b208512a3703fc44b2a58bc6c6016ca5a4aba8137a32820c1b509", func := "purlieu/purlieulaw28.ConfineAuthority", spec := "confineAuthority", unfollowed := true, recurses := true, plainKeys := false, apart := false, narrowed := true }
def ConfineAuthorityUptoSaid : Prop := confineAuthorityUptoRow.holds Try.pinned (OpenSpec.upto confineAuthoritySpec)

/-- 'purlieulaw28.ConfineOutside', WHERE WHAT IT READS IS OF BULK AT MOST 1048576: true; the input reads as it did. -/
def confineOutsideUptoRow : OpenClaim := { program := "yteaglbfodeineaa", sum := "3d4f6bc4cf2b208512a3703fc44b2a58bc6c6016ca5a4aba8137a32820c1b509", func := "purlieu/purlieulaw28.ConfineOutside", spec := "confineOutside", unfollowed := true, recurses := true, plainKeys := false, apart := false, narrowed := true }
def ConfineOutsideUptoSaid : Prop := confineOutsideUptoRow.holds Try.pinned (OpenSpec.upto confineOutsideSpec)

/-- 'purlieulaw28.ConfineMore', WHERE WHAT IT READS IS OF BULK AT MOST 1048576: true; the input reads as it did. -/
def confineMoreUptoRow : OpenClaim := { program := "yteaglbfodeineaa", sum := "3d4f6bc4cf2b208512a3703fc44b2a58bc6c6016ca5a4aba8137a32820c1b509", func := "purlieu/purlieulaw28.ConfineMore", spec := "confineMore", unfollowed := true, recurses := true, plainKeys := false, apart := false, narrowed := true }
def ConfineMoreUptoSaid : Prop := confineMoreUptoRow.holds Try.pinned (OpenSpec.upto confineMoreSpec)

end Rows
end Go.Proofs.Yteaglbfodeineaa
