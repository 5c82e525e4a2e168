/-
  Lists of things that a call itself makes: in memory, and read.
-/
import Derived.Test.YteaglbfodeineaaGoer
import Derived.Test.YteaglbfodeineaaApp
namespace Go.Proofs.Yteaglbfodeineaa
open Go.RowKit

/-- A list of things in a block of the call's own, from 'base' on. -/
def OwnL (w : World) (base : Nat) (v : Value) (l : List Ob) : Prop := w.ownsRow base 70 2 v l.length (obCells l)

theorem OwnL.nil (w : World) (base : Nat) : OwnL w base (.slice none 0 0) [] := World.ownsRow_nil _ _ _ _

theorem OwnL.kept {w w' : World} {base : Nat} {v : Value} {l : List Ob} {S : List Nat} (h : OwnL w base v l) (ht : Turned S w w') (hS : ∀ k ∈ S, k < base) : OwnL w' base v l :=
  ht.owns h (fun k hk hn => by have := (World.ownsRow.lt h k hk).1; have := hS k hn; omega)

theorem OwnL.keep {w w' : World} {base : Nat} {v : Value} {l : List Ob} (h : OwnL w base v l) (ht : Turned [] w w') : OwnL w' base v l := h.kept ht (by simp)

theorem OwnL.mono {w : World} {base base' : Nat} {v : Value} {l : List Ob} (h : OwnL w base v l) (hb : base' ≤ base) : OwnL w base' v l := by
  obtain ⟨h1, h2⟩ := h
  refine ⟨h1, ?_⟩
  rcases h2 with h2 | ⟨g, cap, cur, hv, hg, r⟩
  · exact .inl h2
  · exact .inr ⟨g, cap, cur, hv, by omega, r⟩

theorem obCells_get {l : List Ob} {i : Nat} {x : Ob} (h : l[i]? = some x) : (obCells l)[i * 2]? = some (.int .i64 x.1) ∧ (obCells l)[i * 2 + 1]? = some (.int .i64 x.2) := by
  induction l generalizing i with
  | nil => simp at h
  | cons y l ih =>
    rw [obCells_cons]
    cases i with
    | zero => simp at h; subst h; simp
    | succ i =>
      have := ih (i := i) (by simpa using h)
      rw [show (i + 1) * 2 = i * 2 + 2 by omega]
      simpa using this

/-- The list, read. -/
theorem OwnL.sl {w : World} {base : Nat} {v : Value} {l : List Ob} (h : OwnL w base v l) (hw : ∀ o ∈ l, KObj.dom o) : ∃ s : Sl Ob, v = s.v ∧ s.xs = l ∧ RSl 2 RObj w s := by
  rcases (QRow.of_owns h).2 with ⟨rfl, h0⟩ | ⟨g, off, cap, cur, rfl, _, hb, hc1, hc2, _, hc3⟩
  · exact ⟨⟨none, 0, 0, l⟩, rfl, rfl, Nat.le_refl _, Nat.zero_le _, fun _ => ⟨rfl, rfl⟩, h0, fun i x hx => by have := (List.getElem?_eq_some_iff.1 hx).1; simp only at this; omega⟩
  · refine ⟨⟨some ⟨g, off, none⟩, l.length, cap, l⟩, rfl, rfl, hc1, hc2, fun e => by simp at e, rfl, fun i x hx => ?_⟩
    obtain ⟨h1, h2⟩ := obCells_get hx
    refine ⟨g, off, [.int .i64 x.1, .int .i64 x.2], rfl, rfl, fun j u hj => ?_, rfl, hw x (List.mem_of_getElem? hx)⟩
    have c0 := hc3 _ _ h1
    have c1 := hc3 _ _ h2
    match j, hj with
    | 0, hj => simp at hj; subst hj; simp [World.cell?, hb]; exact c0
    | 1, hj => simp at hj; subst hj; simp [World.cell?, hb]; rw [Nat.add_assoc]; exact c1

/-- One thing more, at the operation. -/
theorem wpList_append_ob {w : World} {ops : Array Oper} {rest : List Oper} {o : Oper} {a : Act} {Q : Exit → Act → World → Prop} (hw : Region.wanted o (yielded ops a.tmps) = true) (s x : Operand)
    (ho : o.op = .call { callee := .builtin .append, args := #[s, x], argTypes := #[52, 52] })
    {base : Nat} {v : Value} {l : List Ob} (hs : a.eval s = v) (hown : OwnL w base v l) (p : Ob) (b c : Nat) (hx : a.eval x = .slice (some ⟨b, 0, none⟩) 1 c)
    (hb : ∃ z, w.heap[b]? = some (.cells #[.int .i64 p.1, .int .i64 p.2] 70 z)) (hl : l.length ≤ 2000000) (hbase : base ≤ w.heap.size)
    (h : ∀ v' w', OwnL w' base v' (l ++ [p]) → w.grownBy w' v.ownBlock → wpList Try.prog ops Q rest (a.put o.dst v') w') :
    wpList Try.prog ops Q (o :: rest) a w := by
  obtain ⟨i0, hi, hz0, hz1, hz2⟩ := info_parts Try.info70
  obtain ⟨z, hb⟩ := hb
  refine wpList_append_any hw s x 52 ho base 70 i0 _ 2 16 Try.underlying52 hi hz0 hz1 hz2 rfl (by omega) v l.length _ hs hown (some ⟨b, 0, none⟩) 1 c [.int .i64 p.1, .int .i64 p.2] hx (by rfl) (by simp)
    (fun j u hj => ⟨_, rfl, ?_⟩) (by simp [Value.oneCell']) (by unfold maxLen; omega) (by omega) hbase (fun v' w' h1 h2 _ _ => h v' w' ?_ h2)
  · match j, hj with
    | 0, hj => simp at hj; subst hj; simp [World.cell?, Addr.add, hb]
    | 1, hj => simp at hj; subst hj; simp [World.cell?, Addr.add, hb]
  · unfold OwnL; rw [obCells_append, List.length_append]; exact h1

theorem dom_of {l : List Ob} {k : Int} {D : List Int} (hk : I64 k) (hD : ∀ n ∈ D, I64 n) (h : ∀ o ∈ l, o.1 = k ∧ o.2 ∈ D) : ∀ o ∈ l, KObj.dom o := fun o ho => ⟨by rw [(h o ho).1]; exact hk, hD _ (h o ho).2⟩

end Go.Proofs.Yteaglbfodeineaa
