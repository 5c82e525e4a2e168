/-
  A list of descriptors in memory of the call's own; one more at its end.
-/
import Derived.Test.YteaglbfodeineaaFewA
import Derived.Test.YteaglbfodeineaaTopA
namespace Go.Proofs.Yteaglbfodeineaa
open Go.RowKit

/-- A list of elements of seven cells each, in a block of the call's own. -/
structure Own7 {α : Type} (cells : α → List Value) (e : TypeId) (R : World → List Value → α → Prop) (w0 w : World) (base : Nat) (v : Value) (l : List α) : Prop where
  own : w.ownsRow base e 7 v l.length (l.flatMap cells)
  rd : ∀ x ∈ l, R w0 (cells x) x

section
variable {α : Type} {cells : α → List Value} {e : TypeId} {R : World → List Value → α → Prop} {w0 w w' : World} {base : Nat} {v : Value} {l : List α}

theorem flat7_get (h7 : ∀ x, (cells x).length = 7) : ∀ {l : List α} {i : Nat} {x : α} {j : Nat} {u : Value}, l[i]? = some x → (cells x)[j]? = some u → (l.flatMap cells)[i * 7 + j]? = some u
  | [], _, _, _, _, h, _ => by simp at h
  | y :: l, 0, x, j, u, h, hu => by
    simp at h; subst h
    rw [List.flatMap_cons, Nat.zero_mul, Nat.zero_add, List.getElem?_append_left (by have := (List.getElem?_eq_some_iff.1 hu).1; omega)]
    exact hu
  | y :: l, i + 1, x, j, u, h, hu => by
    rw [List.flatMap_cons, List.getElem?_append_right (by rw [h7]; omega), h7, show (i + 1) * 7 + j - 7 = i * 7 + j by omega]
    exact flat7_get h7 (by simpa using h) hu

theorem flat7_len (h7 : ∀ x, (cells x).length = 7) : ∀ l : List α, (l.flatMap cells).length = l.length * 7
  | [] => by simp
  | x :: l => by rw [List.flatMap_cons, List.length_append, h7, flat7_len h7 l, List.length_cons]; omega

theorem flat7_set (h7 : ∀ x, (cells x).length = 7) : ∀ {l : List α} {i : Nat} {x y : α} {j : Nat} {u : Value}, l[i]? = some x → j < 7 → cells y = (cells x).set j u → (l.set i y).flatMap cells = (l.flatMap cells).set (i * 7 + j) u
  | [], _, _, _, _, _, h, _, _ => by simp at h
  | z :: l, 0, x, y, j, u, h, hj, hc => by
    simp at h; subst h
    rw [List.set_cons_zero, List.flatMap_cons, List.flatMap_cons, hc, Nat.zero_mul, Nat.zero_add, List.set_append_left _ _ (by rw [h7]; exact hj)]
  | z :: l, i + 1, x, y, j, u, h, hj, hc => by
    rw [List.set_cons_succ, List.flatMap_cons, List.flatMap_cons, List.set_append_right _ _ (by rw [h7]; omega), h7, show (i + 1) * 7 + j - 7 = i * 7 + j by omega, flat7_set h7 (by simpa using h) hj hc]

theorem Own7.keep (h : Own7 cells e R w0 w base v l) (ht : Turned [] w w') : Own7 cells e R w0 w' base v l := ⟨ht.owns h.own (fun k _ => by simp), h.rd⟩

theorem Own7.kept {S : List Nat} (h : Own7 cells e R w0 w base v l) (ht : Turned S w w') (hS : ∀ k, v.ownBlock = some k → k ∉ S) : Own7 cells e R w0 w' base v l := ⟨ht.owns h.own hS, h.rd⟩

/-- Where the list lies, as long as it is not empty. -/
theorem Own7.shape (h : Own7 cells e R w0 w base v l) (hl : 0 < l.length) : ∃ g cap cur, v = .slice (some ⟨g, 0, none⟩) l.length cap ∧ base ≤ g ∧ w.heap[g]? = some (.cells cur e (0, 0)) ∧ l.length ≤ cap ∧ cap ≤ maxLen ∧ cur.size = cap * 7 ∧ cur.toList.take (l.length * 7) = l.flatMap cells := by
  rcases h.own.2 with ⟨rfl, h0⟩ | ⟨g, cap, cur, rfl, hg, hb, h1, h2, h3, h4⟩
  · omega
  · exact ⟨g, cap, cur, rfl, hg, hb, h1, h2, h3, h4⟩

theorem Own7.cell (h7 : ∀ x, (cells x).length = 7) {g n cap : Nat} (h : Own7 cells e R w0 w base (.slice (some ⟨g, 0, none⟩) n cap) l) {i : Nat} {x : α} {j : Nat} {u : Value} (hi : l[i]? = some x) (hu : (cells x)[j]? = some u) :
    w.cell? ⟨g, i * 7 + j, none⟩ = some u := by
  have hil := (List.getElem?_eq_some_iff.1 hi).1
  have hjl := (List.getElem?_eq_some_iff.1 hu).1
  rw [h7] at hjl
  obtain ⟨g', cap', cur, hv, hg, hb, h1, h2, h3, h4⟩ := h.shape (by omega)
  cases hv
  have h5 := flat7_get h7 hi hu
  rw [← h4, List.getElem?_take_of_lt (by omega), Array.getElem?_toList] at h5
  simp [World.cell?, hb, h5]

theorem Own7.free {g n cap : Nat} (h : Own7 cells e R w0 w base (.slice (some ⟨g, 0, none⟩) n cap) l) (hl : 0 < l.length) (k : Nat) : w.frozen? ⟨g, k, none⟩ = false := by
  obtain ⟨g', cap', cur, hv, hg, hb, h1, h2, h3, h4⟩ := h.shape hl
  cases hv
  exact block_free hb k

/-- A cell of an element is stored. -/
theorem Own7.set (h7 : ∀ x, (cells x).length = 7) {g n cap : Nat} (h : Own7 cells e R w0 w base (.slice (some ⟨g, 0, none⟩) n cap) l) {i : Nat} {x y : α} {j : Nat} {u : Value} (hi : l[i]? = some x) (hj : j < 7) (hc : cells y = (cells x).set j u) (hy : R w0 (cells y) y) :
    Own7 cells e R w0 (w.setCell ⟨g, i * 7 + j, none⟩ u) base (.slice (some ⟨g, 0, none⟩) n cap) (l.set i y) := by
  have hil := (List.getElem?_eq_some_iff.1 hi).1
  obtain ⟨g', cap', cur, hv, hg, hb, h1, h2, h3, h4⟩ := h.shape (by omega)
  cases hv
  refine ⟨⟨?_, .inr ⟨g, cap, _, by rw [List.length_set], hg, heap_same_set hb u, by rw [List.length_set]; exact h1, h2, by simp [h3], ?_⟩⟩, fun z hz => ?_⟩
  · rw [flat7_len h7]
  · rw [flat7_set h7 hi hj hc, ← h4, List.length_set, Array.toList_setIfInBounds, List.take_set]
  · rcases List.mem_or_eq_of_mem_set hz with hz | rfl
    · exact h.rd z hz
    · exact hy

/-- The list, read. -/
theorem Own7.sl (h7 : ∀ x, (cells x).length = 7) (hR : Stays R) (h : Own7 cells e R w0 w base v l) (ht : Turned [] w0 w) : ∃ s : Sl α, v = s.v ∧ s.xs = l ∧ s.len = l.length ∧ RSl 7 R w s := by
  rcases h.own.2 with ⟨rfl, h0⟩ | ⟨g, cap, cur, rfl, hg, hb, h1, h2, h3, h4⟩
  · exact ⟨⟨none, 0, 0, l⟩, rfl, rfl, h0.symm, Nat.le_refl _, Nat.zero_le _, fun _ => ⟨rfl, rfl⟩, h0, fun i x hx => by have := (List.getElem?_eq_some_iff.1 hx).1; simp only at this; omega⟩
  · refine ⟨⟨some ⟨g, 0, none⟩, l.length, cap, l⟩, rfl, rfl, rfl, h1, h2, fun e => by simp at e, rfl, fun i x hx => ?_⟩
    refine ⟨g, 0, cells x, rfl, h7 x, fun j u hj => ?_, hR _ _ _ _ ht (h.rd x (List.mem_of_getElem? hx))⟩
    rw [Nat.zero_add]
    exact h.cell h7 hx hj

/-- A slice that came in, as the source of append. -/
theorem src7 (h7 : ∀ x, (cells x).length = 7) (hcs : ∀ w cs x, R w cs x → cs = cells x) {s : Sl α} (h : RSl 7 R w s) : CellsAt w s.a (s.xs.flatMap cells) := fun j u hj => by
  have hjl := (List.getElem?_eq_some_iff.1 hj).1
  rw [flat7_len h7] at hjl
  have hil : j / 7 < s.xs.length := by omega
  obtain ⟨b, o, cs, ha, hl, hc, hr⟩ := h.at_ (j / 7) s.xs[j / 7] (by simp)
  obtain rfl := hcs _ _ _ hr
  refine ⟨_, ha, ?_⟩
  rw [show (⟨b, o, none⟩ : Addr).add j = ⟨b, o + j, none⟩ by unfold Addr.add; split <;> simp_all]
  have hjm : (cells s.xs[j / 7])[j % 7]? = some u := by
    have hlt : j % 7 < (cells s.xs[j / 7]).length := by rw [h7]; omega
    have h1 := flat7_get h7 (l := s.xs) (i := j / 7) (x := s.xs[j / 7]) (j := j % 7) (u := (cells s.xs[j / 7])[j % 7]) (by simp) (by simp)
    rw [show j / 7 * 7 + j % 7 = j by omega, hj] at h1
    rw [List.getElem?_eq_getElem hlt, Option.some.inj h1]
  have := hc _ _ hjm
  rwa [show o + j / 7 * 7 + j % 7 = o + j by omega] at this

theorem rd_of7 {s : Sl α} (hcs : ∀ w cs x, R w cs x → cs = cells x) (h : RSl 7 R w s) : ∀ x ∈ s.xs, R w (cells x) x := fun x hx => by
  obtain ⟨i, hi⟩ := List.getElem?_of_mem hx
  obtain ⟨b, o, cs, ha, hl, hc, hr⟩ := h.at_ i x hi
  obtain rfl := hcs _ _ _ hr
  exact hr
end

theorem Own7.ge {α : Type} {cells : α → List Value} {e : TypeId} {R : World → List Value → α → Prop} {w0 w : World} {base g n cap : Nat} {l : List α} (h : Own7 cells e R w0 w base (.slice (some ⟨g, 0, none⟩) n cap) l) : base ≤ g := by
  rcases h.own.2 with ⟨h1, _⟩ | ⟨g', cap', cur, hv, hg, _⟩
  · cases h1
  · cases hv; exact hg
theorem Own7.rsl {α : Type} {cells : α → List Value} {e : TypeId} {R : World → List Value → α → Prop} {w0 w : World} {base g n cap : Nat} {l : List α} (h7 : ∀ x, (cells x).length = 7) (hR : Stays R)
    (h : Own7 cells e R w0 w base (.slice (some ⟨g, 0, none⟩) n cap) l) (ht : Turned [] w0 w) (hn : l.length = n) : RSl 7 R w ⟨some ⟨g, 0, none⟩, n, cap, l⟩ := by
  have h' := h
  rcases h.own.2 with ⟨h1, _⟩ | ⟨g', cap', cur, hv, hg, hb, h1, h2, h3, h4⟩
  · cases h1
  · cases hv
    refine ⟨by omega, h2, fun e => by simp at e, hn, fun i x hx => ?_⟩
    refine ⟨g, 0, cells x, rfl, h7 x, fun j u hj => ?_, hR _ _ _ _ ht (h.rd x (List.mem_of_getElem? hx))⟩
    rw [Nat.zero_add]
    exact h'.cell h7 hx hj

def HeldV.cells (h : HeldV) : List Value := .int .i64 h.pid :: .int .i64 h.fd :: h.slot.cells
theorem held7 (x : HeldV) : x.cells.length = 7 := rfl
theorem heldCs (w : World) (cs : List Value) (x : HeldV) (h : RHeld w cs x) : cs = x.cells := h.1
theorem held_one (x : HeldV) : ∀ u ∈ x.cells, u.oneCell' = true := fun u hu => by
  simp [HeldV.cells, PassedV.cells, Sl.v] at hu
  rcases hu with rfl | rfl | rfl | rfl | rfl | rfl | rfl <;> rfl
theorem helds_one (l : List HeldV) : ∀ u ∈ l.flatMap HeldV.cells, u.oneCell' = true := fun u hu => by
  obtain ⟨x, _, hx⟩ := List.mem_flatMap.1 hu
  exact held_one x u hx

theorem Try.info67 : (Try.prog.info? 67).map (fun i => (i.zero, i.size, i.bytes)) = some (some (.agg #[.int .i64 0, .int .i64 0, .int .i64 0, .int .u32 0, .bool false, .slice none 0 0, .int .i64 0]), 7, 72) := by kernel_rfl

/-- All that came in, onto an empty list. -/
theorem step_append_held {ops : Array Oper} {o : Oper} {a : Act} {K : Act → World → Prop} {Q : Exit → Act → World → Prop} {E : Prop} (hgd : o.guard = none) (s0 x : Operand)
    (ho : o.op = .call { callee := .builtin .append, args := #[s0, x], argTypes := #[40, 40] }) {w0 w : World} {base b : Nat}
    (hs0 : a.eval s0 = .slice (some ⟨b, 0, none⟩) 0 0) (hbase : base ≤ b)
    {s : Sl HeldV} (hx : a.eval x = .slice s.a s.len s.cap) (hs : RSl 7 RHeld w0 s) (hl : s.len ≤ 1000) (hst : RSl 7 RHeld w s) (hb : w.heap[b]? = some (.cells #[] 67 (0, 0)))
    (h : ∀ g cap w', Own7 HeldV.cells 67 RHeld w0 w' base (.slice (some ⟨g, 0, none⟩) s.len cap) s.xs → w.grownBy w' (some b) → K (a.put o.dst (.slice (some ⟨g, 0, none⟩) s.len cap)) w') :
    if Region.wanted o (yielded ops a.tmps) = true then Oper.wp Try.prog o a w K Q else E := by
  have hw : Region.wanted o (yielded ops a.tmps) = true := by simp [Region.wanted, hgd]
  rw [if_pos hw]
  obtain ⟨i0, hi, hz0, hz1, hz2⟩ := info_parts Try.info67
  have hbl := lt_of_heap hb
  obtain ⟨v', w', hr, r1, r2, r3, r4⟩ := run_append_any (P := Try.prog) w base 40 o.type 67 i0 _ 7 72 Try.underlying40 hi hz0 hz1 hz2 rfl (by omega) (.slice (some ⟨b, 0, none⟩) 0 0) 0 [] ⟨rfl, .inr ⟨b, 0, #[], rfl, hbase, hb, Nat.le_refl _, by unfold maxLen; omega, rfl, rfl⟩⟩
    s.a s.len s.cap (s.xs.flatMap HeldV.cells) (by rw [flat7_len held7, hst.n]) hst.nil (src7 held7 heldCs hst) (helds_one _) (by unfold maxLen; omega) (by omega) (by omega)
  rw [Nat.zero_add, List.nil_append] at r1
  have hne : v' ≠ .slice none 0 0 := fun e => by
    have := r3.1 e
    simp at this
  rcases r1.2 with ⟨rfl, _⟩ | ⟨g, cap, cur, rfl, hrest⟩
  · exact absurd rfl hne
  · unfold Oper.wp
    simp [execOp, ho, resolve, invoke, builtin, hs0, hx, hr, Result.andThen]
    exact h g cap w' ⟨by rw [hst.n]; exact r1, rd_of7 heldCs hs⟩ r2

/-- One more. -/
theorem step_append_one {ops : Array Oper} {o : Oper} {a : Act} {K : Act → World → Prop} {Q : Exit → Act → World → Prop} {E : Prop} (hgd : o.guard = none) (s0 x : Operand)
    (ho : o.op = .call { callee := .builtin .append, args := #[s0, x], argTypes := #[40, 40] }) {w0 w : World} {base g n cap : Nat} {l : List HeldV}
    (hs0 : a.eval s0 = .slice (some ⟨g, 0, none⟩) n cap) (hown : Own7 HeldV.cells 67 RHeld w0 w base (.slice (some ⟨g, 0, none⟩) n cap) l) (hn : l.length = n) (hl : n ≤ 1000)
    {b : Nat} {y : HeldV} (hx : a.eval x = .slice (some ⟨b, 0, none⟩) 1 1) (hy : RHeld w0 y.cells y) (hb : ∃ z, w.heap[b]? = some (.cells y.cells.toArray 67 z)) (hbase : base ≤ w.heap.size)
    (h : ∀ g' cap' w', Own7 HeldV.cells 67 RHeld w0 w' base (.slice (some ⟨g', 0, none⟩) (n + 1) cap') (l ++ [y]) → w.grownBy w' (some g) → K (a.put o.dst (.slice (some ⟨g', 0, none⟩) (n + 1) cap')) w') :
    if Region.wanted o (yielded ops a.tmps) = true then Oper.wp Try.prog o a w K Q else E := by
  have hw : Region.wanted o (yielded ops a.tmps) = true := by simp [Region.wanted, hgd]
  rw [if_pos hw]
  obtain ⟨i0, hi, hz0, hz1, hz2⟩ := info_parts Try.info67
  obtain ⟨z, hb⟩ := hb
  subst hn
  obtain ⟨v', w', hr, r1, r2, r3, r4⟩ := run_append_any (P := Try.prog) w base 40 o.type 67 i0 _ 7 72 Try.underlying40 hi hz0 hz1 hz2 rfl (by omega) _ l.length _ hown.own
    (some ⟨b, 0, none⟩) 1 1 y.cells rfl (by simp) (fun j u hj => ⟨_, rfl, by
      rw [show (⟨b, 0, none⟩ : Addr).add j = ⟨b, 0 + j, none⟩ by unfold Addr.add; split <;> simp_all]
      simp [World.cell?, hb, hj]⟩) (held_one y) (by unfold maxLen; omega) (by omega) hbase
  rcases r1.2 with ⟨rfl, h0⟩ | ⟨g', cap', cur, rfl, hrest⟩
  · omega
  · unfold Oper.wp
    simp [execOp, ho, resolve, invoke, builtin, hs0, hx, hr, Result.andThen]
    refine h g' cap' w' ⟨?_, fun x hx => ?_⟩ r2
    · rw [List.flatMap_append, List.length_append]
      simpa using r1
    · rcases List.mem_append.1 hx with hx | hx
      · exact hown.rd x hx
      · simp at hx; subst hx; exact hy

end Go.Proofs.Yteaglbfodeineaa
