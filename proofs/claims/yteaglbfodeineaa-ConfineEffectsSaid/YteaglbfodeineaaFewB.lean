/-
  append onto an empty list: of sockets, of inodes.
-/
import Derived.Test.YteaglbfodeineaaFewA
import Derived.Test.YteaglbfodeineaaTopA
namespace Go.Proofs.Yteaglbfodeineaa
open Go.RowKit

theorem Try.info77 : (Try.prog.info? 77).map (fun i => (i.zero, i.size, i.bytes)) = some (some (.agg #[.int .i64 0, .int .i64 0, .int .i64 0, .int .i64 0, .int .i64 0, .slice none 0 0, .bool false, .bool false, .slice none 0 0]), 9, 96) := by kernel_rfl
theorem Try.info87 : (Try.prog.info? 87).map (fun i => (i.zero, i.size, i.bytes)) = some (some (.agg #[.int .i64 0, .int .i64 0, .int .i64 0, .int .i64 0, .int .i64 0, .string ⟨#[]⟩, .int .i64 0, .slice none 0 0, .slice none 0 0]), 9, 112) := by kernel_rfl

theorem run_append9 {α : Type} {cells : α → List Value} {t e ty : TypeId} {R : World → List Value → α → Prop} {bytes : Nat} {z : Value} (ht : Try.prog.underlying t = some (.slice e)) (hinfo : (Try.prog.info? e).map (fun i => (i.zero, i.size, i.bytes)) = some (some z, 9, bytes))
    (hzs : z.cells.size = 9) (hby : bytes ≤ 1000) (h9 : ∀ x, (cells x).length = 9) (h1 : ∀ x, ∀ u ∈ cells x, u.oneCell' = true) (hcs : ∀ w cs x, R w cs x → cs = cells x) {w0 w : World} {base b : Nat} (hb : w.heap[b]? = some (.cells #[] e (0, 0))) (hbase : base ≤ b)
    {s : Sl α} (hs0 : RSl 9 R w0 s) (hs : RSl 9 R w s) (hl : s.len ≤ 1000) :
    ∃ g cap w', (Builtin.append_ #[t, t] ty #[.slice (some ⟨b, 0, none⟩) 0 0, s.v]).run Try.prog w = .ok (.slice (some ⟨g, 0, none⟩) s.len cap) w' ∧ Own9 cells e R w0 w' base (.slice (some ⟨g, 0, none⟩) s.len cap) s.xs ∧ w.grownBy w' (some b) := by
  obtain ⟨i0, hi, hz0, hz1, hz2⟩ := info_parts hinfo
  have hbl := lt_of_heap hb
  have hm : (0 + s.len) * bytes ≤ 140737488355328 := by
    have : (0 + s.len) * bytes ≤ 1000 * 1000 := Nat.mul_le_mul (by omega) hby
    omega
  obtain ⟨v', w', hr, r1, r2, r3, r4⟩ := run_append_any (P := Try.prog) w base t ty e i0 z 9 bytes ht hi hz0 hz1 hz2 hzs (by omega) (.slice (some ⟨b, 0, none⟩) 0 0) 0 [] ⟨rfl, .inr ⟨b, 0, #[], rfl, hbase, hb, Nat.le_refl _, by unfold maxLen; omega, rfl, rfl⟩⟩
    s.a s.len s.cap (s.xs.flatMap cells) (by rw [flat9_len h9, hs.n]) hs.nil (src9 h9 hcs hs) (cells_one9 h1 _) (by unfold maxLen; omega) hm (by omega)
  rw [Nat.zero_add, List.nil_append] at r1
  have hne : v' ≠ .slice none 0 0 := fun e => by
    have := r3.1 e
    simp at this
  rcases r1.2 with ⟨rfl, _⟩ | ⟨g, cap, cur, rfl, hrest⟩
  · exact absurd rfl hne
  · refine ⟨g, cap, w', hr, ⟨by rw [hs.n]; exact r1, rd_of hcs hs0⟩, r2⟩

theorem step_append9 {α : Type} {cells : α → List Value} {t e : TypeId} {R : World → List Value → α → Prop} {bytes : Nat} {z : Value} {ops : Array Oper} {o : Oper} {a : Act} {K : Act → World → Prop} {Q : Exit → Act → World → Prop} {E : Prop} (hgd : o.guard = none) (s0 x : Operand)
    (ho : o.op = .call { callee := .builtin .append, args := #[s0, x], argTypes := #[t, t] })
    (ht : Try.prog.underlying t = some (.slice e)) (hinfo : (Try.prog.info? e).map (fun i => (i.zero, i.size, i.bytes)) = some (some z, 9, bytes))
    (hzs : z.cells.size = 9) (hby : bytes ≤ 1000) (h9 : ∀ x, (cells x).length = 9) (h1 : ∀ x, ∀ u ∈ cells x, u.oneCell' = true) (hcs : ∀ w cs x, R w cs x → cs = cells x) {w0 w : World} {base b : Nat}
    (hs0 : a.eval s0 = .slice (some ⟨b, 0, none⟩) 0 0) (hbase : base ≤ b)
    {s : Sl α} (hx : a.eval x = .slice s.a s.len s.cap) (hs : RSl 9 R w0 s) (hl : s.len ≤ 1000) (hst : RSl 9 R w s) (hb : w.heap[b]? = some (.cells #[] e (0, 0)))
    (h : ∀ g cap w', Own9 cells e R w0 w' base (.slice (some ⟨g, 0, none⟩) s.len cap) s.xs → w.grownBy w' (some b) → w.heap[b]? = some (.cells #[] e (0, 0)) → K (a.put o.dst (.slice (some ⟨g, 0, none⟩) s.len cap)) w') :
    if Region.wanted o (yielded ops a.tmps) = true then Oper.wp Try.prog o a w K Q else E := by
  have hw : Region.wanted o (yielded ops a.tmps) = true := by simp [Region.wanted, hgd]
  rw [if_pos hw]
  obtain ⟨g, cap, w', hr, h2, h3⟩ := run_append9 (ty := o.type) ht hinfo hzs hby h9 h1 hcs hb hbase hs hst hl
  unfold Sl.v at hr
  unfold Oper.wp
  simp [execOp, ho, resolve, invoke, builtin, hs0, hx, hr, Result.andThen]
  exact h g cap w' h2 h3 hb

/-- The other list's first block turns. -/
theorem Own9.grown {α : Type} {cells : α → List Value} {e e' : TypeId} {R : World → List Value → α → Prop} {w0 w w' : World} {base b : Nat} {v : Value} {l : List α} (h : Own9 cells e R w0 w base v l) (hg : w.grownBy w' (some b)) (hb : w.heap[b]? = some (.cells #[] e' (0, 0))) (he : e ≠ e') :
    Own9 cells e R w0 w' base v l := by
  refine ⟨World.ownsRow.kept h.own hg ?_, h.rd⟩
  rcases h.own.2 with ⟨rfl, _⟩ | ⟨g, cap, cur, rfl, _, hh, _⟩
  · exact .inl rfl
  · refine .inr (fun e1 => ?_)
    simp [Value.ownBlock] at e1
    rw [e1, hb] at hh
    simp at hh
    exact he hh.2.symm

end Go.Proofs.Yteaglbfodeineaa
