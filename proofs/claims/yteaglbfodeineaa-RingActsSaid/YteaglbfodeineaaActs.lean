/-
  The acts that came in, out of the form's reading.
-/
import Derived.Test.YteaglbfodeineaaRi
import Derived.Test.YteaglbfodeineaaRead
namespace Go.Proofs.Yteaglbfodeineaa
open Go.RowKit Go.ChangeShapes Go.WideShapes Go.Deep

/-- An act's three cells. -/
def RAct : World → List Value → ActV → Prop := fun w cs A =>
  cs = [.int .i64 A.kind, .int .i64 A.n, .slice A.a A.len A.cap] ∧ A.len ≤ A.cap ∧ A.cap ≤ maxLen ∧ (A.a = none → A.len = 0 ∧ A.cap = 0) ∧ Lies w A.a A.len A.z []

theorem RSl.lies {w : World} {s : Sl Int} (h : RSl 1 (RInt .u8) w s) : Lies w s.a s.len s.xs [] := by
  refine ⟨h.n, ?_⟩
  by_cases h0 : s.len = 0
  · exact .inl h0
  · have hn := h.n
    have key : ∀ i, i < s.len → ∃ b o, s.a = some ⟨b, o, none⟩ ∧ w.cell? ⟨b, o + i, none⟩ = some (.int .u8 (s.xs.getD i 0)) := fun i hi => by
      obtain ⟨b, o, cs, h1, h2, h3, h4, _⟩ := h.at_ i _ (List.getElem?_eq_getElem (show i < s.xs.length by omega))
      refine ⟨b, o, h1, ?_⟩
      have := h3 0 _ (by rw [h4]; rfl)
      rw [Nat.mul_one, Nat.add_zero] at this
      rw [this, List.getD_eq_getElem?_getD, List.getElem?_eq_getElem (show i < s.xs.length by omega)]
      rfl
    obtain ⟨b, o, h1, _⟩ := key 0 (by omega)
    refine .inr ⟨b, o, h1, by simp, fun j hj => ?_⟩
    obtain ⟨b', o', h2, h3⟩ := key j hj
    rw [h1] at h2
    obtain ⟨rfl, rfl⟩ : b = b' ∧ o = o' := by simpa using h2
    exact h3

section
variable {H : Type} {enc : TypeId × Value → H} {w : World}

theorem down_bytes : Down enc Try.prog w 26 (RSlv 1 (RInt .u8)) := down_slice Try.underlying26 (by kernel_rfl) (by omega) (down_int Try.underlying5)

theorem Try.cells28 : Try.prog.cellsOf 28 = 3 := by kernel_rfl
theorem Try.cells3 : Try.prog.cellsOf 3 = 1 := by kernel_rfl
theorem Try.cells26 : Try.prog.cellsOf 26 = 1 := by kernel_rfl

set_option maxRecDepth 100000 in
theorem down_act : Down enc Try.prog w 28 RAct := fun fuel cs x h => by
  obtain ⟨xs, n, _, _, hlen, hxs, hf⟩ := DataW.trod_struct Try.underlying28 h
  rw [Try.cells28] at hlen
  match cs, hlen, xs, hxs with
  | [c0, c1, c2], _, [y0, y1, y2], _ =>
    have f0 : DataW.trod enc Try.prog w 0 (fun _ => true) true n 3 (([c0, c1, c2].drop 0).take (Try.prog.cellsOf 3)) = some y0 := hf 0 _ rfl
    have f1 : DataW.trod enc Try.prog w 0 (fun _ => true) true n 3 (([c0, c1, c2].drop 1).take (Try.prog.cellsOf 3)) = some y1 := hf 1 _ rfl
    have f2 : DataW.trod enc Try.prog w 0 (fun _ => true) true n 26 (([c0, c1, c2].drop 2).take (Try.prog.cellsOf 26)) = some y2 := hf 2 _ rfl
    rw [Try.cells3] at f0 f1
    rw [Try.cells26] at f2
    obtain ⟨k, e0, _⟩ := down_int Try.underlying3 _ _ _ f0
    obtain ⟨m, e1, _⟩ := down_int Try.underlying3 _ _ _ f1
    obtain ⟨s, e2, hs⟩ := down_bytes _ _ _ f2
    refine ⟨⟨k, m, s.a, s.len, s.cap, s.xs⟩, ?_, hs.lc, hs.cm, hs.nil, hs.lies⟩
    obtain rfl : c0 = _ := (List.cons.inj e0).1
    obtain rfl : c1 = _ := (List.cons.inj e1).1
    obtain rfl : c2 = _ := (List.cons.inj e2).1
    rfl

/-- The slice of acts that came in. -/
theorem acts_at {s : Sl ActV} (h : RSl 3 RAct w s) : ActsAt w s.a s.len s.xs := by
  have hn := h.n
  have key : ∀ i, i < s.len → ElemAt 3 RAct w s.a i (s.xs.getD i default) := fun i hi => by
    have := h.at_ i _ (List.getElem?_eq_getElem (show i < s.xs.length by omega))
    rwa [List.getD_eq_getElem?_getD, List.getElem?_eq_getElem (show i < s.xs.length by omega), Option.getD_some]
  refine ⟨hn, ?_, fun i hi => ?_⟩
  · by_cases h0 : s.len = 0
    · exact .inl h0
    · obtain ⟨b, o, cs, h1, _⟩ := key 0 (by omega)
      refine .inr ⟨b, o, h1, fun i hi => ?_⟩
      obtain ⟨b', o', cs', h2, h3, h4, h5, _⟩ := key i hi
      rw [h1] at h2
      obtain ⟨rfl, rfl⟩ : b = b' ∧ o = o' := by simpa using h2
      subst h5
      exact ⟨h4 0 _ rfl, h4 1 _ rfl, h4 2 _ rfl⟩
  · obtain ⟨b', o', cs', _, _, _, _, h6, h7, h8, h9⟩ := key i hi
    exact ⟨h6, h7, h8, h9⟩

theorem acts_down {a : Option Addr} {len cap : Nat} {d : DataW H} {p : List MemPlace} (h : DataW.Trod enc Try.prog w 0 (fun _ => true) true 23 (.slice a len cap) d p) : ∃ acts, ActsAt w a len acts := by
  obtain ⟨fuel, hf⟩ := h
  obtain ⟨s, hv, hs⟩ := down_slice (enc := enc) (w := w) Try.underlying23 Try.cells28 (by omega) down_act _ _ _ hf
  simp only [Value.cells, Sl.v] at hv
  simp at hv
  obtain ⟨rfl, rfl, rfl⟩ := hv
  exact ⟨s.xs, acts_at hs⟩

end

end Go.Proofs.Yteaglbfodeineaa
