/-
  A dump is stored whole; a function hands a dump back.
-/
import Derived.Test.YteaglbfodeineaaEff
import Derived.Laws.Tables
import Derived.Laws.Rows
namespace Go.Proofs.Yteaglbfodeineaa
open Go.RowKit

theorem Try.size48 : (Try.prog.info? 48).map (·.size) = some 12 := by kernel_rfl

theorem dump_one (D : DumpV) : D.cells.toArray.all (·.oneCell') = true := by simp [DumpV.cells, Sl.v, Value.oneCell']

theorem setRow_turned {w : World} {b : Nat} {old cells : Array Value} (hb : w.heap[b]? = some (.cells old 48 (0, 0))) : (w.setRow b cells).heap[b]? = some (.cells cells 48 (0, 0)) ∧ Turned [b] w (w.setRow b cells) := by
  have hlt := lt_of_heap hb
  unfold World.setRow
  refine ⟨by simp [Array.getElem?_modify, hb], rfl, rfl, rfl, by simp, fun k hk hS => ?_⟩
  have hne : b ≠ k := fun e => hS (by simp [e])
  simp [Array.getElem?_modify, hne]

theorem wpList_store_dump {w : World} {ops : Array Oper} {rest : List Oper} {o : Oper} {a : Act} {Q : Exit → Act → World → Prop} (hgd : o.guard = none) (p x : Operand) (ho : o.op = .store 48 p x)
    {b : Nat} {Z D : DumpV} (hp : a.eval p = .pointer (some ⟨b, 0, none⟩)) (hx : a.eval x = .agg D.cells.toArray) (hb : w.heap[b]? = some (.cells Z.cells.toArray 48 (0, 0)))
    (h : ∀ w', w'.heap[b]? = some (.cells D.cells.toArray 48 (0, 0)) → Turned [b] w w' → wpList Try.prog ops Q rest (a.put o.dst undef) w') : wpList Try.prog ops Q (o :: rest) a w := by
  refine wpList_plain hgd fun K hK => ?_
  obtain ⟨h1, h2⟩ := setRow_turned (cells := D.cells.toArray) hb
  refine wp_store_row 48 p x ho b D.cells.toArray hp hx 48 Z.cells.toArray hb Try.size48 rfl (dump_one D) ?_
  exact hK _ _ (h _ h1 h2)

theorem results_dump {fn : Func} {t : Tmp} (h : fn.results = #[.cell t 48]) (tmps : Array Value) (w : World) {b : Nat} {D : DumpV} {z : Nat × Nat} (hp : tmps.getD t undef = .pointer (some ⟨b, 0, none⟩)) (hb : w.heap[b]? = some (.cells D.cells.toArray 48 z)) :
    (results fn tmps).run Try.prog w = .ok D.v w := by
  have h1 := run_loadVar_row (P := Try.prog) w b 48 48 D.cells.toArray z _ hb Try.underlying48 rfl Try.size48
  have hp' : tmps[t]?.getD undef = .pointer (some ⟨b, 0, none⟩) := by rw [← hp]; simp
  simp [results, h, hp', asAddr, h1, DumpV.v]

theorem results_dump2 {fn : Func} {t u : Tmp} (h : fn.results = #[.cell t 48, .tmp u]) (tmps : Array Value) (w : World) {b : Nat} {D : DumpV} {z : Nat × Nat} {v : Value} (hp : tmps.getD t undef = .pointer (some ⟨b, 0, none⟩)) (hv : tmps.getD u undef = v) (hb : w.heap[b]? = some (.cells D.cells.toArray 48 z)) :
    (results fn tmps).run Try.prog w = .ok (.tuple #[D.v, v]) w := by
  have h1 := run_loadVar_row (P := Try.prog) w b 48 48 D.cells.toArray z _ hb Try.underlying48 rfl Try.size48
  subst hv
  have hp' : tmps[t]?.getD undef = .pointer (some ⟨b, 0, none⟩) := by rw [← hp]; simp
  simp [results, h, hp', asAddr, h1, DumpV.v]

end Go.Proofs.Yteaglbfodeineaa
