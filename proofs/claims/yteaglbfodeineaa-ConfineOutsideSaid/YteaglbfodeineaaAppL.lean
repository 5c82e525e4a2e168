/-
  append of one list of the call's own onto another: at an operation, and as a step of a region.
-/
import Derived.Test.YteaglbfodeineaaLists
namespace Go.Proofs.Yteaglbfodeineaa
open Go.RowKit

theorem run_append_list {w : World} {base base2 : Nat} {ty : TypeId} {v v2 : Value} {l l2 : List Ob} (h : OwnL w base v l) (h2 : OwnL w base2 v2 l2) (hl : l.length + l2.length ≤ 4000000) (hbase : base ≤ w.heap.size) :
    ∃ v' w', (Builtin.append_ #[52, 52] ty #[v, v2]).run Try.prog w = .ok v' w' ∧ OwnL w' base v' (l ++ l2) ∧ w.grownBy w' v.ownBlock := by
  obtain ⟨i0, hi, hz0, hz1, hz2⟩ := info_parts Try.info70
  obtain ⟨a, m, c, rfl, hnil, hc, hm⟩ : ∃ a m c, v2 = .slice a m c ∧ (a = none → m = 0 ∧ c = 0) ∧ CellsAt w a (obCells l2) ∧ m = l2.length := by
    rcases (QRow.of_owns h2).2 with ⟨rfl, h0⟩ | ⟨g, off, cap, cur, rfl, _, hb, _, _, _, hc3⟩
    · have : l2 = [] := List.eq_nil_of_length_eq_zero h0
      subst this
      exact ⟨none, 0, 0, rfl, fun _ => ⟨rfl, rfl⟩, fun j u hj => by simp [obCells] at hj, rfl⟩
    · refine ⟨some ⟨g, off, none⟩, l2.length, cap, rfl, fun e => (by cases e), fun j u hj => ⟨⟨g, off, none⟩, rfl, ?_⟩, rfl⟩
      rw [show (⟨g, off, none⟩ : Addr).add j = ⟨g, off + j, none⟩ by unfold Addr.add; split <;> simp_all]
      simp [World.cell?, hb, hc3 j u hj]
  subst hm
  have h1 : ∀ u ∈ obCells l2, u.oneCell' = true := fun u hu => by
    unfold obCells at hu
    obtain ⟨x, _, hx⟩ := List.mem_flatMap.1 hu
    simp at hx
    rcases hx with rfl | rfl <;> rfl
  obtain ⟨v', w', hr, r1, r2, _, _⟩ := run_append_any (P := Try.prog) w base 52 ty 70 i0 _ 2 16 Try.underlying52 hi hz0 hz1 hz2 rfl (by omega) v l.length _ h a l2.length c (obCells l2) (by rw [obCells_length]) hnil hc h1
    (by unfold maxLen; omega) (by omega) hbase
  refine ⟨v', w', hr, ?_, r2⟩
  unfold OwnL
  rw [obCells_append, List.length_append]
  exact r1

theorem wpList_append_list {w : World} {ops : Array Oper} {rest : List Oper} {o : Oper} {a : Act} {Q : Exit → Act → World → Prop} (hw : Region.wanted o (yielded ops a.tmps) = true) (s x : Operand)
    (ho : o.op = .call { callee := .builtin .append, args := #[s, x], argTypes := #[52, 52] })
    {base base2 : Nat} {v v2 : Value} {l l2 : List Ob} (hs : a.eval s = v) (hown : OwnL w base v l) (hx : a.eval x = v2) (hown2 : OwnL w base2 v2 l2) (hl : l.length + l2.length ≤ 4000000) (hbase : base ≤ w.heap.size)
    (h : ∀ v' w', OwnL w' base v' (l ++ l2) → w.grownBy w' v.ownBlock → wpList Try.prog ops Q rest (a.put o.dst v') w') :
    wpList Try.prog ops Q (o :: rest) a w := by
  obtain ⟨v', w', hr, h2, h3⟩ := run_append_list (ty := o.type) hown hown2 hl hbase
  refine wpList_step (fun K hK => ?_)
  rw [if_pos hw]
  unfold Oper.wp execOp
  simp only [ho, resolve, invoke, builtin, Sem.run_bind, Sem.run_pure, Result.andThen_ok, List.map_toArray, List.map_cons, List.map_nil, hs, hx, hr]
  exact hK _ _ (h v' w' h2 h3)

theorem step_append_list {w : World} {ops : Array Oper} {o : Oper} {a : Act} {K : Act → World → Prop} {Q : Exit → Act → World → Prop} {E : Prop} (hgd : o.guard = none) (s x : Operand)
    (ho : o.op = .call { callee := .builtin .append, args := #[s, x], argTypes := #[52, 52] })
    {base base2 : Nat} {v v2 : Value} {l l2 : List Ob} (hs : a.eval s = v) (hown : OwnL w base v l) (hx : a.eval x = v2) (hown2 : OwnL w base2 v2 l2) (hl : l.length + l2.length ≤ 4000000) (hbase : base ≤ w.heap.size)
    (h : ∀ v' w', OwnL w' base v' (l ++ l2) → w.grownBy w' v.ownBlock → K (a.put o.dst v') w') :
    if Region.wanted o (yielded ops a.tmps) = true then Oper.wp Try.prog o a w K Q else E := by
  have hw : Region.wanted o (yielded ops a.tmps) = true := by simp [Region.wanted, hgd]
  rw [if_pos hw]
  obtain ⟨v', w', hr, h2, h3⟩ := run_append_list (ty := o.type) hown hown2 hl hbase
  unfold Oper.wp
  simp [execOp, ho, resolve, invoke, builtin, hs, hx, hr, Result.andThen]
  exact h v' w' h2 h3

theorem Turned.list {w w' w'' : World} {S : List Nat} {base : Nat} {v : Value} {l : List Ob} (ht : Turned S w w') (h : OwnL w' base v l) (hg : w'.grownBy w'' v.ownBlock) (hb : w.heap.size ≤ base) : Turned S w w'' :=
  ht.grown hg (fun k hk => .inr (Nat.le_trans hb (World.ownsRow.lt h k hk).1))

end Go.Proofs.Yteaglbfodeineaa
