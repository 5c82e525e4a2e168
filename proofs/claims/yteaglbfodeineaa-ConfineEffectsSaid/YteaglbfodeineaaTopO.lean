/-
  Outside: the walk.
-/
import Derived.Test.YteaglbfodeineaaTopA
import Derived.Test.YteaglbfodeineaaEffs
namespace Go.Proofs.Yteaglbfodeineaa
open Go.RowKit

/-- Those of l that are not in S. -/
def outOf (S l : List Ob) : List Ob := l.filter fun o => decide (o ∉ S)

theorem outOf_in {S l : List Ob} {k : Nat} {x : Ob} (h : l[k]? = some x) (hx : x ∈ S) : outOf S (l.take (k + 1)) = outOf S (l.take k) := by
  rw [List.take_add_one, h]
  simp [outOf, List.filter_append, hx]
theorem outOf_out {S l : List Ob} {k : Nat} {x : Ob} (h : l[k]? = some x) (hx : x ∉ S) : outOf S (l.take (k + 1)) = outOf S (l.take k) ++ [x] := by
  rw [List.take_add_one, h]
  simp [outOf, List.filter_append, hx]
theorem outOf_len (S l : List Ob) (k : Nat) : (outOf S (l.take k)).length ≤ l.length := by
  have h1 := List.length_filter_le (fun o => decide (o ∉ S)) (l.take k)
  have h2 : (l.take k).length ≤ l.length := by simp; omega
  exact Nat.le_trans h1 h2

set_option maxRecDepth 100000 in
set_option maxHeartbeats 4000000 in
theorem outside_top {w : World} {D E : DumpV} (hD : RDump w D) (hE : RDump w E) (hcD : Cut D) (hcE : Cut E) {pid : Int} (hp : I64 pid) :
    Calls Try.prog 28 #[D.v, E.v, .int .i64 pid] w fun e w' => ∃ v l, e = .returned v ∧ Srt l ∧ OwnL w' w.heap.size v l ∧ Turned [] w w' ∧ l.length ≤ 36 ∧ ∀ o, o ∈ l ↔ EffT D E o ∧ ¬ Auth D pid o := by
  have HWF := Lib.hid (fun o (h : EffT D E o) => EffT.wf hD h)
  have HC1 : Hid (∀ w1, Turned [] w w1 → Calls Try.prog 41 #[D.v, .int .i64 pid] w1 fun e w' => ∃ ms S, e = .returned (.map (some ms)) ∧ IsMapAt KObj w' ms S.length (setOf S) ∧ Turned [] w1 w' ∧ w1.heap.size ≤ ms ∧ (∀ o, o ∈ S ↔ Auth D pid o) ∧ (∀ o ∈ S, KObj.dom o) ∧ S.Nodup ∧ S.length ≤ 100000) := Lib.hid fun w1 h => authority_any (hcD.small hD) (hD.stays h) hp
  have HC2 : Hid (∀ w1, Turned [] w w1 → Calls Try.prog 32 #[D.v, E.v] w1 fun e w' => ∃ v l, e = .returned v ∧ Srt l ∧ OwnL w' w1.heap.size v l ∧ Turned [] w1 w' ∧ l.length ≤ 36 ∧ ∀ o, o ∈ l ↔ EffT D E o) := Lib.hid fun w1 h => effects_any (hD.stays h) (hE.stays h) hcD hcE
  clear hD hE hcD hcE hp
  simp only [DumpV.v, DumpV.cells, Sl.v] at HC1 HC2 ⊢
  go_enter Try.func28, Try.ntmps28
  go_wp2_with fail
  have hb1 : (w.alloc (.cells D.cells.toArray 48 (0, 0))).heap[w.heap.size]? = some (.cells D.cells.toArray 48 (0, 0)) := heap_alloc_new _ _
  have hb2 : ((w.alloc (.cells D.cells.toArray 48 (0, 0))).alloc (.cells E.cells.toArray 48 (0, 0))).heap[w.heap.size + 1]? = some (.cells E.cells.toArray 48 (0, 0)) := heap_alloc_second _ _ _
  generalize hW0 : World.alloc (World.alloc w _) _ = W
  have hW : W = (w.alloc (.cells D.cells.toArray 48 (0, 0))).alloc (.cells E.cells.toArray 48 (0, 0)) := hW0.symm
  clear hW0
  have hb3 := ((Turned.refl [] (w.alloc (.cells D.cells.toArray 48 (0, 0)))).alloc (.cells E.cells.toArray 48 (0, 0))).keep hb1 (by simp)
  rw [← hW] at hb2 hb3
  have HB1 := Lib.hid hb3
  have HB2 := Lib.hid hb2
  have HTW := Lib.hid (show Turned [] w W by rw [hW]; exact ((Turned.refl _ _).alloc _).alloc _)
  clear hb1 hb2 hb3 hW
  refine (HC1.out _ HTW.out).mono ?_
  rintro e w2 ⟨ms, S, rfl, hm, ht2, hb, hmem, hdom, hnd, hlen⟩
  have HM := Lib.hid hm
  have HT2 := Lib.hid (HTW.out.trans ht2)
  have HMEM := Lib.hid hmem
  obtain ⟨d0, d1, d2, d3, d4, d5, d6, d7, d8, d9, d10, d11⟩ := box_cells (ht2.keep HB1.out (by simp))
  obtain ⟨e0, e1, e2, e3, e4, e5, e6, e7, e8, e9, e10, e11⟩ := box_cells (ht2.keep HB2.out (by simp))
  simp only [Sl.v] at d0 d1 d2 d3 d4 d5 d6 e0 e1 e2 e3 e4 e5 e6
  clear hm ht2 hb hmem hdom hnd hlen
  go_wp2_with fail
  refine (HC2.out _ HT2.out).mono ?_
  rintro e V ⟨v0, l0, rfl, hs, ho, htV, hl0, hef⟩
  have HS := Lib.hid hs
  have HTV := Lib.hid htV
  have HEF := Lib.hid hef
  obtain ⟨s, rfl, hx, hr⟩ := ho.sl (fun o ho => HWF.out o ((hef o).1 ho))
  obtain ⟨a, n, c, xs⟩ := s
  simp only at hx
  subst hx
  have HAT := Lib.hid hr.at_
  have hlc := hr.lc
  have hcm := hr.cm
  have hn := hr.n
  simp only at hlc hcm hn
  unfold maxLen at hcm
  have HMV := Lib.hid (HM.out.kept htV (by simp))
  have HDOM : Hid (∀ o ∈ xs, KObj.dom o) := Lib.hid fun o ho => HWF.out o ((hef o).1 ho)
  clear hs ho htV hef hr d0 d1 d2 d3 d4 d5 d6 d7 d8 d9 d10 d11 e0 e1 e2 e3 e4 e5 e6 e7 e8 e9 e10 e11
  simp only [Sl.v]
  go_wp2
  go_loopw [8, 18] (fun v i wr => ∃ k : Nat, k ≤ n ∧ i = .int .i64 k ∧ OwnL wr V.heap.size v (outOf S (xs.take k)) ∧ Turned [] V wr) (fun _ i _ => n - (intOf i).toNat)
  case atStart => exact ⟨0, by omega, rfl, OwnL.nil _ _, Turned.refl _ _⟩
  case round =>
    obtain ⟨k, hk, rfl, hown, hT⟩ := hrel
    have HOWN := Lib.hid hown
    have HT := Lib.hid hT
    have hlen := outOf_len S xs k
    have hVs := hT.size
    clear hown hT
    by_cases hlt : k < n
    · obtain ⟨x, hx⟩ : ∃ x, xs[k]? = some x := ⟨xs[k], by simp⟩
      have HX := Lib.hid hx
      obtain ⟨b, o, rfl, e0, e1, -⟩ := obj_cells ((HAT.out k x hx).stays stays_obj HT.out)
      have HXD := Lib.hid (HDOM.out x (List.mem_of_getElem? hx))
      have hbl := World.block_lt_of_cell? wr _ e0
      have hbn : ¬ b = wr.heap.size := by simp at hbl; omega
      clear hx
      by_cases hin : x ∈ S
      · have hlk : ∀ w1, Turned [] wr w1 → (Instr.lookup 93 (.map (some ms)) (.agg #[.int .i64 x.1, .int .i64 x.2]) false).run Try.prog w1 = .ok (.bool true) w1 := fun w1 h => by
          have := ((HMV.out.kept HT.out (by simp)).kept h (by simp)).look (x := x) Try.underlying93 (z := .bool false) (by exact Try.zeroValue4 _) HXD.out
          rw [setOf_in hin] at this
          exact this
        have hlk1 := fun o => hlk _ ((Turned.refl [] wr).alloc o)
        have HIN := Lib.hid hin
        clear hin hlk
        go_wp2
        go_roundw
        case rel => exact ⟨k + 1, by omega, by go_num, by rw [outOf_in HX.out HIN.out]; exact HOWN.out.keep ((Turned.refl [] wr).alloc _), HT.out.alloc _⟩
        case measure => simp [intOf]; omega
      · have hlk : ∀ w1, Turned [] wr w1 → (Instr.lookup 93 (.map (some ms)) (.agg #[.int .i64 x.1, .int .i64 x.2]) false).run Try.prog w1 = .ok (.bool false) w1 := fun w1 h => by
          have := ((HMV.out.kept HT.out (by simp)).kept h (by simp)).look (x := x) Try.underlying93 (z := .bool false) (by exact Try.zeroValue4 _) HXD.out
          rw [setOf_out hin] at this
          exact this
        have hlk1 := fun o => hlk _ ((Turned.refl [] wr).alloc o)
        have HIN := Lib.hid hin
        clear hin hlk
        go_wp2_with (at_builtin; refine wpList_append_ob (by rfl) _ _ rfl rfl ((HOWN.out.keep ((Turned.refl [] wr).alloc _)).keep ((Turned.refl [] _).alloc _)) x _ _ rfl ⟨_, heap_alloc_second _ _ _⟩ (by omega) (by simp; omega) ?_; intro v3 w3 ho3 hg3; have HO3 := Lib.hid ho3; have HG3 := Lib.hid hg3; clear ho3 hg3)
        have HT3 := Lib.hid (show Turned [] V w3 from ((HT.out.alloc _).alloc _).grown HG3.out (fun k hk => .inr (World.ownsRow.lt HOWN.out k hk).1))
        go_roundw
        case rel => exact ⟨k + 1, by omega, by go_num, by rw [outOf_out HX.out HIN.out]; exact HO3.out, HT3.out⟩
        case measure => simp [intOf]; omega
    · have hk' : k = n := by omega
      have hwV : w.heap.size ≤ V.heap.size := Nat.le_trans HT2.out.size HTV.out.size
      go_wp2
      go_ret
      have ho := HOWN.out
      rw [List.take_of_length_le (by omega)] at ho
      refine ⟨_, _, rfl, srt_filter HS.out _, ho.mono hwV, (HT2.out.trans HTV.out).trans HT.out, Nat.le_trans (List.length_filter_le _ _) (by omega), fun o => ?_⟩
      rw [List.mem_filter, HEF.out o, ← HMEM.out o]
      simp
end Go.Proofs.Yteaglbfodeineaa
