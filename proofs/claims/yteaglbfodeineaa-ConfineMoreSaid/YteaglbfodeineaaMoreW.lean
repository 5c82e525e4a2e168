/-
  What one comes to by a descriptor more is no less: the walk.
-/
import Derived.Test.YteaglbfodeineaaMoreP
import Derived.Test.YteaglbfodeineaaHeldA
import Derived.Test.YteaglbfodeineaaShort
import Derived.Test.YteaglbfodeineaaLives
import Derived.Deep.RegionHeld3
import Derived.Deep.DeepCutAuto
namespace Go.Proofs.Yteaglbfodeineaa
open Go.RowKit

theorem heap_alloc_first (w : World) (a b : Obj) : ((w.alloc a).alloc b).heap[w.heap.size]? = some a := ((Turned.refl [] (w.alloc a)).alloc b).keep (heap_alloc_new w a) (by simp)

set_option maxRecDepth 100000 in
set_option maxHeartbeats 8000000 in
theorem more_walk (hfew : FewSays) {w : World} {D : DumpV} {pid : Int} {h : HeldV} (hD : RDump w D) (hp : I64 pid) (hh : RHeld w h.cells h) :
    Calls Try.prog 10 #[D.v, .int .i64 pid, .agg h.cells.toArray] w fun e w' => e = .returned (.bool true) ∧ Turned [] w w' := by
  have HC : Hid (∀ w1, Turned [] w w1 → Calls Try.prog 21 #[D.v] w1 (ShortDid w w1)) := Lib.hid fun w1 h => short_any hfew h hD
  have HP := Lib.hid hp
  have HH := Lib.hid hh
  clear hD hp hh hfew
  simp only [DumpV.v, DumpV.cells, HeldV.cells, PassedV.cells, Sl.v] at HC ⊢
  go_enter Try.func10, Try.ntmps10
  go_wp2_with fail
  generalize hW0 : World.alloc (World.alloc w _) _ = W
  have hW : W = (w.alloc (.cells D.cells.toArray 48 (0, 0))).alloc (.cells h.cells.toArray 67 (0, 0)) := hW0.symm
  clear hW0
  have HB1 := Lib.hid (show W.heap[w.heap.size]? = some (.cells D.cells.toArray 48 (0, 0)) by rw [hW]; exact ((Turned.refl [] _).alloc _).keep (heap_alloc_new _ _) (by simp))
  have HB2 := Lib.hid (show W.heap[w.heap.size + 1]? = some (.cells h.cells.toArray 67 (0, 0)) by rw [hW]; exact heap_alloc_second _ _ _)
  have HTW := Lib.hid (show Turned [] w W by rw [hW]; exact ((Turned.refl _ _).alloc _).alloc _)
  have HWS := Lib.hid (show W.heap.size = w.heap.size + 2 by rw [hW]; simp)
  clear hW
  refine (HC.out _ HTW.out).mono ?_
  rintro e w1 ⟨E, b, rfl, hcE, hh, ht1, hE⟩
  have HE := Lib.hid hE
  have HCE := Lib.hid hcE
  have HHL := Lib.hid hh
  have HT1 := Lib.hid ht1
  have HB1' := Lib.hid (ht1.keep HB1.out (by simp))
  have HB2' := Lib.hid (ht1.keep HB2.out (by simp))
  clear hE hcE hh ht1 HC
  cases b with
  | false =>
    go_wp2_with (first
      | (go_at_call 22; refine lives_any.mono ?_; rintro e w3 ⟨rfl, ht3⟩; have HT3 := Lib.hid (T2.out.step (S' := []) ht3 (by simp)); clear ht3)
      | (refine wpList_store_dump (by rfl) _ _ rfl (D := E) (Z := D) rfl rfl HB1'.out ?_; intro w2 h2 t2; have H2 := Lib.hid h2; have T2 := Lib.hid t2; clear h2 t2))
    go_ret
    exact ⟨rfl, (HTW.out.trans HT1.out).step HT3.out (fun i hi => by simp at hi; right; omega)⟩
  | true =>
    go_wp2_with (refine wpList_store_dump (by rfl) _ _ rfl (D := E) (Z := D) rfl rfl HB1'.out ?_; intro w2 h2 t2; have H2 := Lib.hid h2; have T2 := Lib.hid t2; have HR2 := Lib.hid (HE.out [w.heap.size] w2 (fun k hk => by simp at hk; have := HWS.out; omega) t2); obtain ⟨d0, d1, d2, d3, d4, d5, d6, d7, d8, d9, d10, d11⟩ := box_cells h2; simp only [Sl.v] at d0 d1 d2 d3 d4 d5 d6; clear h2 t2)
    refine (show Calls Try.prog 26 #[E.v, .int .i64 pid] w2 _ from authority_top (HCE.out.small HR2.out) HR2.out HP.out).mono ?_
    rintro e w3 ⟨v, l, rfl, -, ho, ht3, -, hd, hm⟩
    obtain ⟨s, rfl, hsx, hr⟩ := ho.sl hd
    have HO3 := Lib.hid ho
    have HD3 := Lib.hid hd
    have HM3 := Lib.hid hm
    have HSX := Lib.hid hsx
    have HTS := Lib.hid ht3
    have T13 := Lib.hid (T2.out.step (S' := []) ht3 (by simp))
    have HR3 := Lib.hid (HR2.out.stays ht3)
    have HB3 := Lib.hid (ht3.keep H2.out (by simp))
    have HB4 := Lib.hid (ht3.keep (T2.out.keep HB2'.out (by simp)) (by simp))
    have HW3 := Lib.hid ((HTW.out.trans HT1.out).step T13.out (fun i hi => by simp at hi; right; omega))
    have HH3 := Lib.hid (stays_held _ _ _ _ HW3.out HH.out)
    have hsl := hr.lc
    have hsc := hr.cm
    have hsn := hr.n
    unfold maxLen at hsc
    simp only [Sl.v]
    clear ho hd hm hsx ht3 hr d0 d1 d2 d3 d4 d5 d6 d7 d8 d9 d10 d11
    have c1 : w3.cell? ⟨w.heap.size, 1, none⟩ = some (.slice E.held.a E.held.len E.held.cap) := block_cell HB3.out rfl
    have z1 := block_free HB3.out 1
    have g0 : w3.cell? ⟨w.heap.size + 1, 0, none⟩ = some (.int .i64 h.pid) := block_cell HB4.out rfl
    have g1 : w3.cell? ⟨w.heap.size + 1, 1, none⟩ = some (.int .i64 h.fd) := block_cell HB4.out rfl
    have g2 : w3.cell? ⟨w.heap.size + 1, 2, none⟩ = some (.int .i64 h.slot.file) := block_cell HB4.out rfl
    have g3 : w3.cell? ⟨w.heap.size + 1, 3, none⟩ = some (.int .u32 h.slot.rights) := block_cell HB4.out rfl
    have g4 : w3.cell? ⟨w.heap.size + 1, 4, none⟩ = some (.bool h.slot.all) := block_cell HB4.out rfl
    have g5 : w3.cell? ⟨w.heap.size + 1, 5, none⟩ = some (.slice h.slot.l.a h.slot.l.len h.slot.l.cap) := block_cell HB4.out rfl
    have g6 : w3.cell? ⟨w.heap.size + 1, 6, none⟩ = some (.int .i64 h.slot.fcntls) := block_cell HB4.out rfl
    have hlt := lt_of_heap HB3.out
    have hlt' := lt_of_heap HB4.out
    have hhl := HHL.out
    go_upto_region 5 with fail
    go_cut [] (fun wx => ∃ g k, wx.heap[w.heap.size]? = some (.cells (E.hold ⟨some ⟨g, 0, none⟩, E.held.len + 1, k, E.held.xs ++ [h]⟩).cells.toArray 48 (0, 0)) ∧ Own7 HeldV.cells 67 RHeld w3 wx w3.heap.size (.slice (some ⟨g, 0, none⟩) (E.held.len + 1) k) (E.held.xs ++ [h]) ∧ Turned [w.heap.size] w3 wx)
    case first =>
      go_region_law
        (first
        | ((refine step_append_held (w0 := w3) (base := w3.heap.size) (by rfl) _ _ (by rfl) (by rfl) (by first | omega | (simp; omega)) (by rfl) HR3.out.held (by omega) (HR3.out.held.stays stays_held (by (repeat (first | exact Turned.refl _ _ | exact HTA.out | exact HTB.out | refine Turned.drew ?_ | refine Turned.drewN ?_ _ | refine Turned.alloc ?_ _)))) (by (first | exact heap_alloc_new _ _ | exact heap_alloc_first _ _ _ | exact heap_alloc_second _ _ _)) ?_; intro ga ka wa hoa hga; have HOA := Lib.hid hoa; have HTA := Lib.hid (show Turned [] w3 wa from Turned.grown (by (repeat (first | exact Turned.refl _ _ | exact HTA.out | exact HTB.out | refine Turned.drew ?_ | refine Turned.drewN ?_ _ | refine Turned.alloc ?_ _))) hga (fun q hq => by cases hq; first | exact .inr (by first | omega | (simp; omega)))); have HGA := Lib.hid hga; have hsza : w3.heap.size ≤ wa.heap.size := (by have := hga.size; first | omega | (simp at this; omega)); clear hoa hga c1 g0 g1 g2 g3 g4 g5 g6; have c1 : wa.cell? ⟨w.heap.size, 1, none⟩ = some (.slice E.held.a E.held.len E.held.cap) := HTA.out.cell (block_cell HB3.out rfl) (by simp); have g0 : wa.cell? ⟨w.heap.size + 1, 0, none⟩ = some (.int .i64 h.pid) := HTA.out.cell (block_cell HB4.out rfl) (by simp); have g1 : wa.cell? ⟨w.heap.size + 1, 1, none⟩ = some (.int .i64 h.fd) := HTA.out.cell (block_cell HB4.out rfl) (by simp); have g2 : wa.cell? ⟨w.heap.size + 1, 2, none⟩ = some (.int .i64 h.slot.file) := HTA.out.cell (block_cell HB4.out rfl) (by simp); have g3 : wa.cell? ⟨w.heap.size + 1, 3, none⟩ = some (.int .u32 h.slot.rights) := HTA.out.cell (block_cell HB4.out rfl) (by simp); have g4 : wa.cell? ⟨w.heap.size + 1, 4, none⟩ = some (.bool h.slot.all) := HTA.out.cell (block_cell HB4.out rfl) (by simp); have g5 : wa.cell? ⟨w.heap.size + 1, 5, none⟩ = some (.slice h.slot.l.a h.slot.l.len h.slot.l.cap) := HTA.out.cell (block_cell HB4.out rfl) (by simp); have g6 : wa.cell? ⟨w.heap.size + 1, 6, none⟩ = some (.int .i64 h.slot.fcntls) := HTA.out.cell (block_cell HB4.out rfl) (by simp)))
        | ((refine step_append_one (w0 := w3) (base := w3.heap.size) (by rfl) _ _ (by rfl) (by rfl) (HOA.out.keep (by (repeat (first | exact Turned.refl _ _ | refine Turned.drew ?_ | refine Turned.drewN ?_ _ | refine Turned.alloc ?_ _)))) HR3.out.held.n (by omega) (y := h) (by rfl) HH3.out (by (first | exact ⟨_, heap_alloc_new _ _⟩ | exact ⟨_, (HGA.out.block _ (by simp <;> omega) (by simp <;> omega)).trans (heap_alloc_new _ _)⟩ | exact ⟨_, (HGA.out.block _ (by simp <;> omega) (by simp <;> omega)).trans (heap_alloc_second _ _ _)⟩ | exact ⟨_, (HGA.out.block _ (by simp <;> omega) (by simp <;> omega)).trans (heap_alloc_first _ _ _)⟩)) (by first | omega | (simp; omega)) ?_; intro gb kb wb hob hgb; have HOB := Lib.hid hob; have HTB := Lib.hid (show Turned [] w3 wb from Turned.grown (by (repeat (first | exact Turned.refl _ _ | exact HTA.out | exact HTB.out | refine Turned.drew ?_ | refine Turned.drewN ?_ _ | refine Turned.alloc ?_ _))) hgb (fun q hq => by cases hq; exact .inr HOA.out.ge)); have f1 := block_free (HTB.out.keep HB3.out (by simp)) 1; have c1b : wb.cell? ⟨w.heap.size, 1, none⟩ = some (.slice E.held.a E.held.len E.held.cap) := HTB.out.cell (block_cell HB3.out rfl) (by simp); clear hob hgb)))
      all_goals (go_wp2_with fail; go_meet; exact ⟨_, _, by (rw [heap_same_set (HTB.out.keep HB3.out (by simp))]; rfl), HOB.out.kept ((Turned.refl [w.heap.size] _).setCell (.inl (by simp)) _) (fun q hq hq' => by simp [Value.ownBlock] at hq hq'; have := HOB.out.ge; omega), (HTB.out.mono (by simp)).setCell (.inl (by simp)) _⟩)
    case rest =>
    obtain ⟨g, k, hb, ho, ht⟩ := hcut
    have hr5 := HE.out [w.heap.size] wc (fun k hk => by simp at hk; have := HWS.out; omega) (T13.out.trans ht)
    have hww : Turned [] w wc := HW3.out.step ht (fun i hi => by simp at hi; right; omega)
    have hrd : RDump wc (E.hold ⟨some ⟨g, 0, none⟩, E.held.len + 1, k, E.held.xs ++ [h]⟩) :=
      ⟨hr5.procs, Own7.rsl held7 stays_held (w0 := wc) ⟨ho.own, fun x hx => by
        rcases List.mem_append.1 hx with hx | hx
        · exact rd_of7 heldCs hr5.held x hx
        · simp at hx; subst hx; exact stays_held _ _ _ _ hww HH.out⟩ (Turned.refl _ _) (by have := hr5.held.n; simp; omega), hr5.files, hr5.pipes, hr5.socks, hr5.inodes⟩
    have hcut2 : Cut (E.hold ⟨some ⟨g, 0, none⟩, E.held.len + 1, k, E.held.xs ++ [h]⟩) := ⟨HCE.out.procs, by show E.held.len + 1 ≤ 13; omega, HCE.out.files, HCE.out.pipes, HCE.out.socks, HCE.out.inodes, HCE.out.inos, HCE.out.waits⟩
    have HAU := Lib.hid (authority_top (hcut2.small hrd) hrd HP.out)
    have HMONO := Lib.hid (fun o (ha : Auth E pid o) => auth_more (D := E) (H := ⟨some ⟨g, 0, none⟩, E.held.len + 1, k, E.held.xs ++ [h]⟩) (pid := pid) (o := o) (fun i x hx => by
      show (E.held.xs ++ [h])[i]? = some x
      rw [List.getElem?_append_left (List.getElem?_eq_some_iff.1 hx).1]; exact hx) (Nat.le_succ _) ha)
    obtain ⟨d0, d1, d2, d3, d4, d5, d6, d7, d8, d9, d10, d11⟩ := box_cells hb
    simp only [Sl.v, DumpV.hold] at d0 d1 d2 d3 d4 d5 d6 d7 d8 d9 d10 d11
    have HT5 := Lib.hid ht
    have HW5 := Lib.hid hww
    simp only [DumpV.v, DumpV.cells, Sl.v, DumpV.hold] at HAU
    clear hb ho ht hr5 hrd hcut2 hww c1 z1 g0 g1 g2 g3 g4 g5 g6
    go_wp2_with fail
    refine HAU.out.mono ?_
    rintro e w6 ⟨v, l2, rfl, -, ho, ht6, -, hd, hm⟩
    obtain ⟨t, rfl, htx, hr⟩ := ho.sl hd
    have HT6 := Lib.hid ht6
    have HR6 := Lib.hid hr
    have HIN := Lib.hid (show ∀ o ∈ s.xs, o ∈ t.xs from fun o ho => by
      rw [htx, hm]
      exact HMONO.out o ((HM3.out o).1 (by rw [← HSX.out]; exact ho)))
    have HS6 : Hid (∀ w7, Turned [] w6 w7 → RSl 2 RObj w7 s) := Lib.hid fun w7 h7 => by
      have h1 := HO3.out.kept (HT5.out.trans ((ht6.trans h7).mono (by simp))) (fun k hk => by simp at hk; have := lt_of_heap H2.out; omega)
      obtain ⟨s', hv, hx, hr'⟩ := h1.sl HD3.out
      have : s = s' := by
        obtain ⟨a, n, c, xs⟩ := s
        obtain ⟨a', n', c', xs'⟩ := s'
        simp [Sl.v] at hv
        simp only at hx HSX
        have := HSX.out
        obtain ⟨rfl, rfl, rfl⟩ := hv
        subst hx; subst this; rfl
      rw [this]; exact hr'
    clear ho hd hm hr ht6 htx HAU HMONO d0 d1 d2 d3 d4 d5 d6 d7 d8 d9 d10 d11
    have htl := HR6.out.lc
    simp only [Sl.v]
    go_wp2
    go_loopw [10] (fun i wr => ∃ k : Nat, k ≤ s.len ∧ i = .int .i64 k ∧ Turned [] w6 wr) (fun i _ => s.len - (intOf i).toNat)
    case atStart => exact ⟨0, by omega, rfl, Turned.refl _ _⟩
    case round =>
      obtain ⟨k, hk, rfl, hT⟩ := hrel
      have HT := Lib.hid hT
      clear hT
      by_cases hlt : k < s.len
      · obtain ⟨x, hx⟩ : ∃ x, s.xs[k]? = some x := ⟨s.xs[k]'(by omega), by simp⟩
        obtain ⟨b, o, hab, e0, e1, -⟩ := obj_cells ((HS6.out wr HT.out).at_ k x hx)
        have HCL := Lib.hid (show Calls Try.prog 30 #[t.v, .agg #[.int .i64 x.1, .int .i64 x.2]] wr fun e w' => e = .returned (.bool true) ∧ Turned [] wr w' from by
          have h1 := in_objs (z := x) (HR6.out.stays stays_obj HT.out)
          rw [show decide (x ∈ t.xs) = true by simpa using HIN.out x (List.mem_of_getElem? hx)] at h1
          exact h1)
        simp only [Sl.v] at HCL
        rw [hab]
        clear hx hab
        go_wp2_with (go_at_call 30; refine HCL.out.mono ?_; rintro e w7 ⟨rfl, ht7⟩; have HT7 := Lib.hid ht7; clear ht7)
        go_roundw
        case rel => exact ⟨k + 1, by omega, by go_num, HT.out.trans HT7.out⟩
        case measure => simp [intOf]; omega
      · have hk' : k = s.len := by omega
        go_wp2_with (go_at_call 22; refine lives_any.mono ?_; rintro e w8 ⟨rfl, ht8⟩; have HT8 := Lib.hid ht8; clear ht8)
        go_ret
        exact ⟨rfl, ((HW5.out.trans HT6.out).trans HT.out).trans HT8.out⟩
end Go.Proofs.Yteaglbfodeineaa
