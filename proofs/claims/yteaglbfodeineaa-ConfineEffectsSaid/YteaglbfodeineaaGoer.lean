/-
  What goes from thing to thing: its state in memory, and one thing more.
-/
import Derived.Test.YteaglbfodeineaaQue
import Derived.Test.YteaglbfodeineaaIxa
import Derived.Test.YteaglbfodeineaaKeys
import Derived.Deep.RegionHeld3
import Derived.Deep.RegionLaw
import Derived.Deep.AppendLies
import Derived.Handy
namespace Go.Proofs.Yteaglbfodeineaa
open Go.RowKit

noncomputable def setOf {κ : Type} (S : List κ) : κ → Option Value := fun x => open Classical in if x ∈ S then some (.bool true) else none

theorem setOf_nil {κ : Type} : setOf ([] : List κ) = fun _ => none := by funext x; simp [setOf]
theorem setOf_in {κ : Type} {S : List κ} {x : κ} (h : x ∈ S) : (setOf S x).getD (.bool false) = .bool true := by simp [setOf, h]
theorem setOf_out {κ : Type} {S : List κ} {x : κ} (h : x ∉ S) : (setOf S x).getD (.bool false) = .bool false := by simp [setOf, h]
theorem setOf_put {κ : Type} {S : List κ} {x : κ} : upd (setOf S) x (.bool true) = setOf (S ++ [x]) := by
  funext y
  unfold upd setOf
  by_cases h : y = x
  · subst h; simp
  · by_cases hS : y ∈ S <;> simp [h, hS]

/-- Things' cells, one after the other. -/
def obCells (l : List Ob) : List Value := l.flatMap fun x => [.int .i64 x.1, .int .i64 x.2]
theorem obCells_append (l m : List Ob) : obCells (l ++ m) = obCells l ++ obCells m := by simp [obCells]
theorem obCells_cons (x : Ob) (l : List Ob) : obCells (x :: l) = .int .i64 x.1 :: .int .i64 x.2 :: obCells l := by simp [obCells]
theorem obCells_length (l : List Ob) : (obCells l).length = l.length * 2 := by
  induction l with
  | nil => rfl
  | cons x l ih => rw [obCells_cons]; simp [ih]; omega

/-- The goer in memory: the index it goes by, what it has seen (S), the directories it has entered (B), what it is still to go on from (N). -/
structure GoerAt (w : World) (base G X ms mb : Nat) (v : Value) (S : List Ob) (B : List Int) (N : List Ob) : Prop where
  g : w.heap[G]? = some (.cells #[.pointer (some ⟨X, 0, none⟩), .map (some ms), .map (some mb), v] 112 (0, 0))
  q : QRow w base 70 2 v N.length (obCells N)
  s : IsMapAt KObj w ms S.length (setOf S)
  b : IsMapAt KInt w mb B.length (setOf B)
  l1 : G < base
  l2 : ms < base
  l3 : mb < base
  l4 : base ≤ w.heap.size
  n1 : ms ≠ mb

/-- What a step may have turned. -/
structure Moved (w w' : World) (G ms mb : Nat) (v v' : Value) : Prop where
  t : Turned (G :: ms :: mb :: v.ownBlock.toList) w w'
  o : v'.ownBlock = v.ownBlock ∨ ∃ k, v'.ownBlock = some k ∧ w.heap.size ≤ k

theorem Moved.refl (w : World) (G ms mb : Nat) (v : Value) : Moved w w G ms mb v v := ⟨Turned.refl _ _, .inl rfl⟩

theorem Moved.trans {w w1 w2 : World} {G ms mb : Nat} {v v1 v2 : Value} (h : Moved w w1 G ms mb v v1) (k : Moved w1 w2 G ms mb v1 v2) : Moved w w2 G ms mb v v2 := by
  refine ⟨h.t.step k.t (fun i hi => ?_), ?_⟩
  · simp only [List.mem_cons] at hi ⊢
    rcases hi with hi | hi | hi | hi
    · exact .inl (.inl hi)
    · exact .inl (.inr (.inl hi))
    · exact .inl (.inr (.inr (.inl hi)))
    · rcases h.o with h1 | ⟨q, h1, h2⟩
      · rw [h1] at hi; exact .inl (.inr (.inr (.inr hi)))
      · rw [h1] at hi
        simp at hi; subst hi
        exact .inr h2
  · rcases k.o with h1 | ⟨q, h1, h2⟩
    · rw [h1]; exact h.o
    · exact .inr ⟨q, h1, Nat.le_trans h.t.size h2⟩

theorem Turned.moved {w w' : World} {G ms mb : Nat} {v : Value} (h : Turned [] w w') : Moved w w' G ms mb v v := ⟨h.mono (by simp), .inl rfl⟩

theorem GoerAt.kept {w w' : World} {base G X ms mb : Nat} {v : Value} {S N : List Ob} {B : List Int} (h : GoerAt w base G X ms mb v S B N) (ht : Turned [] w w') : GoerAt w' base G X ms mb v S B N :=
  ⟨ht.keep h.g (by simp), h.q.kept ht (by simp), h.s.kept ht (by simp), h.b.kept ht (by simp), h.l1, h.l2, h.l3, Nat.le_trans h.l4 ht.size, h.n1⟩

theorem IsMapAt.not_cells {κ : Type} {A : KeyK κ} {w : World} {b n G : Nat} {f : κ → Option Value} {cs : Array Value} {e : TypeId} {z : Nat × Nat} (h : IsMapAt A w b n f) (hG : w.heap[G]? = some (.cells cs e z)) : b ≠ G := fun e => by
  obtain ⟨D, ⟨es, clock, hb, _⟩, _⟩ := h
  rw [e, hG] at hb
  simp at hb

/-- The step's end: the thing is put, the queue is stored. -/
theorem GoerAt.added {w w2 w3 : World} {base G X ms mb gg off cap : Nat} {v : Value} {S N : List Ob} {B : List Int} {o : Ob} (h : GoerAt w base G X ms mb v S B N)
    (ht2 : Turned [ms] w w2) (hm : IsMapAt KObj w2 ms (S.length + 1) (upd (setOf S) o (.bool true))) (ht3 : Turned v.ownBlock.toList w2 w3)
    (hq : QRow w3 base 70 2 (.slice (some ⟨gg, off, none⟩) (N.length + 1) cap) (N.length + 1) (obCells N ++ [.int .i64 o.1, .int .i64 o.2])) (hat : v.ownBlock = some gg ∨ w2.heap.size + 1 ≤ gg) :
    GoerAt (w3.setCell ⟨G, 3, none⟩ (.slice (some ⟨gg, off, none⟩) (N.length + 1) cap)) base G X ms mb (.slice (some ⟨gg, off, none⟩) (N.length + 1) cap) (S ++ [o]) B (N ++ [o]) ∧
      Moved w (w3.setCell ⟨G, 3, none⟩ (.slice (some ⟨gg, off, none⟩) (N.length + 1) cap)) G ms mb v (.slice (some ⟨gg, off, none⟩) (N.length + 1) cap) := by
  have hv : ∀ k, k < base → k ∉ v.ownBlock.toList := fun k hk e => by
    simp at e
    have := (h.q.lt k e).1
    omega
  have h1 := h.l1
  have h2 := h.l2
  have h3 := h.l3
  have d1 := h.s.not_cells h.g
  have d2 := h.b.not_cells h.g
  have b2 := ht2.keep h.g (by simpa using Ne.symm d1)
  have b3 := ht3.keep b2 (hv G h1)
  have t4 : Turned [G] w3 (w3.setCell ⟨G, 3, none⟩ (.slice (some ⟨gg, off, none⟩) (N.length + 1) cap)) := (Turned.refl [G] w3).setCell (.inl (by simp)) _
  have hgg := (hq.lt gg rfl).1
  refine ⟨⟨?_, ?_, ?_, ?_, h1, h2, h3, Nat.le_trans h.l4 (Nat.le_trans ht2.size (Nat.le_trans ht3.size t4.size)), h.n1⟩, ?_, ?_⟩
  · rw [heap_same_set b3]; rfl
  · rw [obCells_append, List.length_append]
    exact hq.kept t4 (fun k hk => by simp [Value.ownBlock] at hk; simp; omega)
  · rw [← setOf_put, List.length_append]
    exact (hm.kept ht3 (hv ms h2)).kept t4 (by simpa using d1)
  · exact ((h.b.kept ht2 (by simpa using Ne.symm h.n1)).kept ht3 (hv mb h3)).kept t4 (by simpa using d2)
  · exact ((ht2.mono (by simp)).trans (ht3.mono (fun k hk => by simp at hk; simp [hk]))).trans (t4.mono (by simp))
  · rcases hat with e | e
    · exact .inl e.symm
    · have := ht2.size
      exact .inr ⟨gg, rfl, by omega⟩

/-- S with o. -/
noncomputable def news (S : List Ob) (o : Ob) : List Ob := open Classical in if o ∈ S then [] else [o]

theorem Try.info70 : (Try.prog.info? 70).map (fun i => (i.zero, i.size, i.bytes)) = some (some (.agg #[.int .i64 0, .int .i64 0]), 2, 16) := by kernel_rfl

set_option maxHeartbeats 2000000 in
theorem add_any {w : World} {base G X ms mb : Nat} {v : Value} {S N : List Ob} {B : List Int} (h : GoerAt w base G X ms mb v S B N) {kind id : Int} (hk : I64 kind) (hi : I64 id) (hS : S.length ≤ 1000000) (hN : N.length ≤ 1000000) :
    Calls Try.prog 54 #[.pointer (some ⟨G, 0, none⟩), .int .i64 kind, .int .i64 id] w fun e w' => e = .returned (.tuple #[]) ∧ ∃ v', GoerAt w' base G X ms mb v' (S ++ news S (kind, id)) B (N ++ news S (kind, id)) ∧ Moved w w' G ms mb v v' := by
  have HA := Lib.hid h
  have HK := Lib.hid (show KObj.dom (kind, id) from ⟨hk, hi⟩)
  clear h hk hi
  go_enter Try.func54, Try.ntmps54
  go_wp2
  generalize hV : World.alloc w _ = V
  have HTV := Lib.hid (show Turned [] w V by rw [← hV]; exact (Turned.refl _ _).alloc _)
  have o0 : V.cell? ⟨w.heap.size, 0, none⟩ = some (.int .i64 kind) := by rw [← hV]; exact World.cell?_alloc_mark _ _ _ _ _
  have o1 : V.cell? ⟨w.heap.size, 1, none⟩ = some (.int .i64 id) := by rw [← hV]; exact World.cell?_alloc_mark _ _ _ _ _
  have hVs : w.heap.size < V.heap.size := by rw [← hV]; simp
  have HVB : Hid (∃ cs, V.heap[w.heap.size]? = some (.cells cs 70 (0, 0))) := Lib.hid ⟨_, by rw [← hV]; exact heap_alloc_new _ _⟩
  clear hV
  have HGV := Lib.hid (HA.out.kept HTV.out)
  have g1 : V.cell? ⟨G, 1, none⟩ = some (.map (some ms)) := block_cell HGV.out.g rfl
  by_cases hin : (kind, id) ∈ S
  · have hlk : ∀ nq, (Instr.lookup 93 (.map (some ms)) (.agg #[.int .i64 kind, .int .i64 id]) false).run Try.prog (V.drewN nq) = .ok (.bool true) (V.drewN nq) := fun nq => by
      have := (HGV.out.s.kept ((Turned.refl [] V).drewN nq) (by simp)).look (x := (kind, id)) Try.underlying93 (z := .bool false) (by exact Try.zeroValue4 _) HK.out
      rw [setOf_in hin] at this
      exact this
    have HIN := Lib.hid hin
    clear hin
    go_quiet (fail)
    go_wp2
    go_end0
    rw [show news S (kind, id) = [] by simp [news, HIN.out], List.append_nil, List.append_nil]
    exact ⟨rfl, v, HGV.out.kept ((Turned.refl _ _).drewN _), (HTV.out.trans ((Turned.refl _ _).drewN _)).moved⟩
  · have hlk : ∀ nq, (Instr.lookup 93 (.map (some ms)) (.agg #[.int .i64 kind, .int .i64 id]) false).run Try.prog (V.drewN nq) = .ok (.bool false) (V.drewN nq) := fun nq => by
      have := (HGV.out.s.kept ((Turned.refl [] V).drewN nq) (by simp)).look (x := (kind, id)) Try.underlying93 (z := .bool false) (by exact Try.zeroValue4 _) HK.out
      rw [setOf_out hin] at this
      exact this
    have HIN := Lib.hid hin
    clear hin
    go_quiet (fail)
    go_wp2
    obtain ⟨V1, hV1⟩ : ∃ V1, V1 = V.drewN nq := ⟨_, rfl⟩
    rw [← hV1]
    have HT1 := Lib.hid (show Turned [] V V1 by rw [hV1]; exact (Turned.refl _ _).drewN _)
    have HO0 := Lib.hid o0
    have HO1 := Lib.hid o1
    clear hV1 g1 hlk o0 o1
    have o0 := HT1.out.cell HO0.out (by simp)
    have o1 := HT1.out.cell HO1.out (by simp)
    have HG1 := Lib.hid (HGV.out.kept HT1.out)
    have g1 : V1.cell? ⟨G, 1, none⟩ = some (.map (some ms)) := block_cell HG1.out.g rfl
    obtain ⟨w2, hup, hm2, hg2⟩ := (HG1.out.s.kept ((Turned.refl [] V1).drew) (by simp)).update (x := (kind, id)) Try.underlying93 (by unfold maxLen; omega) HK.out (.bool true)
    have HM2 := Lib.hid hm2
    have hup' : (Instr.mapUpdate 93 (.map (some ms)) (.agg #[.int .i64 kind, .int .i64 id]) (.bool true)).run Try.prog V1.drew = .ok () w2 := hup
    have HT2 := Lib.hid (show Turned [ms] V1 w2 from ((Turned.refl [ms] V1).drew).grown hg2 (fun q hq => by cases hq; exact .inl (by simp)))
    have bO : (some ms : Option Nat) ≠ some w.heap.size := by have := HA.out.s.lt; simp; omega
    have bG : (some ms : Option Nat) ≠ some G := by
      intro e; simp at e
      obtain ⟨D, ⟨es, clock, hb, _⟩, _⟩ := HG1.out.s
      have := HG1.out.g
      rw [← e, hb] at this
      simp at this
    clear hup hm2
    go_region_held3 (fun w' => w'.cell? ⟨w.heap.size, 0, none⟩ = some (.int .i64 kind) ∧ w'.cell? ⟨w.heap.size, 1, none⟩ = some (.int .i64 id) ∧ w'.cell? ⟨G, 1, none⟩ = some (.map (some ms)))
      (first | go_keep | (go_split_ands; exact ⟨keepc hg2 bO (by assumption), keepc hg2 bO (by assumption), keepc hg2 bG (by assumption)⟩))
      (fail)
    go_wp2
    have HM2' := HM2
    have o0 : w2.cell? ⟨w.heap.size, 0, none⟩ = some (.int .i64 kind) := HT2.out.cell ((HT1.out.cell HO0.out (by simp))) (by simpa using fun e => bO (by rw [e]))
    have o1 : w2.cell? ⟨w.heap.size, 1, none⟩ = some (.int .i64 id) := HT2.out.cell ((HT1.out.cell HO1.out (by simp))) (by simpa using fun e => bO (by rw [e]))
    have HB2 := Lib.hid (HT2.out.keep HG1.out.g (by simpa using fun e => bG (by rw [e])))
    have g3 : w2.cell? ⟨G, 3, none⟩ = some v := block_cell HB2.out rfl
    have l1 := HA.out.l1
    have l2 := HA.out.l2
    have l3 := HA.out.l3
    have l4 := HA.out.l4
    have HQ2 := Lib.hid (HG1.out.q.kept HT2.out (fun q hq e => by have := (HG1.out.q.lt q hq).1; simp at e; omega))
    have aO : v.ownBlock ≠ some w.heap.size := fun e => by have := (HA.out.q.lt _ e).2; omega
    have aG : v.ownBlock ≠ some G := fun e => by have := (HA.out.q.lt _ e).1; omega
    have hne : ¬ G = w.heap.size := by omega
    have hne' : ¬ w.heap.size = G := by omega
    have hs2 : V1.heap.size ≤ w2.heap.size := HT2.out.size
    have hs1 : V.heap.size ≤ V1.heap.size := HT1.out.size
    have hGlt : G < w2.heap.size := by omega
    obtain ⟨i0, hi, hz0, hz1, hz2⟩ := info_parts Try.info70
    clear hup' hg2 bO bG
    go_region_law
      ((refine step_append_que rfl _ _ _ (by rfl) base 70 i0 _ 2 16 Try.underlying52 hi hz0 hz1 hz2 rfl (by omega) v N.length _ (by rfl) (HQ2.out.kept (((Turned.refl [] w2).alloc _).drew) (by simp))
            (some ⟨w2.heap.size, 0, none⟩) 1 1 [.int .i64 kind, .int .i64 id] (by rfl) (by rfl) (by simp) (fun j u hj => ⟨_, rfl, World.news_of_block (cs := #[.int .i64 kind, .int .i64 id]) (t := 70) (fr := (0, 0)) (heap_alloc_new w2 _) j u hj⟩) (by simp [Value.oneCell'])
            (by omega) (by unfold maxLen; omega) (by omega) (by simp; omega) (w2.heap.size + 1) (by simp) ?_; intro gg off cap w3 hq3 hgrow hat hlt3; have ht3 : Turned v.ownBlock.toList w2 w3 := (((Turned.refl _ w2).alloc _).drew).grown hgrow (fun q hq => .inl (by simp [hq])); have hb3 := Lib.hid (ht3.keep HB2.out (by simpa using fun e => aG e)); have g3' : w3.cell? ⟨G, 3, none⟩ = some v := block_cell hb3.out rfl; have f3 := block_free hb3.out 3; have HQ3 := Lib.hid hq3; have HT3 := Lib.hid ht3; clear hq3 ht3))
    all_goals
      go_wp2
      go_end0
      rw [show news S (kind, id) = [(kind, id)] by simp [news, HIN.out]]
      obtain ⟨r1, r2⟩ := HG1.out.added HT2.out HM2.out HT3.out HQ3.out hat
      exact ⟨rfl, _, r1, ((HTV.out.trans HT1.out).moved).trans r2⟩
end Go.Proofs.Yteaglbfodeineaa
