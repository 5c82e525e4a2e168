/-
  What has changed between any two dumps: the walk.
-/
import Derived.Test.YteaglbfodeineaaRefE
import Derived.Test.YteaglbfodeineaaTopE
import Derived.Test.YteaglbfodeineaaShort
import Derived.Test.YteaglbfodeineaaLives
import Derived.Deep.RegionHeld3
namespace Go.Proofs.Yteaglbfodeineaa
open Go.RowKit

theorem chg_same {ids : List Int} {same : Nat → Nat → Bool} (h : ∀ i id, ixOf ids id = some i → same i i = true) (id : Int) : ¬ Chg ids ids same id := by
  rintro ⟨i, hi, hk⟩
  have h1 := hk i hi
  rw [h i id hi] at h1
  cases h1

/-- Nothing has changed between a dump and itself. -/
theorem eff_none {E : DumpV} {o : Ob} : ¬ EffT E E o := by
  rintro (⟨-, h⟩ | ⟨-, h⟩ | ⟨-, h⟩ | ⟨-, h⟩)
  · refine chg_same (fun i id hi => ?_) _ h
    have h1 := (ixOf_some.1 hi).1
    unfold DumpV.inodeIds at h1
    rw [List.getElem?_map] at h1
    obtain ⟨x, hx, _⟩ := Option.map_eq_some_iff.1 h1
    simp [sameIno, hx, inodeEq]
  · refine chg_same (fun i id hi => ?_) _ h
    have h1 := (ixOf_some.1 hi).1
    unfold DumpV.pipeIds at h1
    rw [List.getElem?_map] at h1
    obtain ⟨x, hx, _⟩ := Option.map_eq_some_iff.1 h1
    simp [samePipe, hx, pipeEq]
    rw [beq_toListBytes]; simp
  · refine chg_same (fun i id hi => ?_) _ h
    have h1 := (ixOf_some.1 hi).1
    unfold DumpV.sockIds at h1
    rw [List.getElem?_map] at h1
    obtain ⟨x, hx, _⟩ := Option.map_eq_some_iff.1 h1
    simp [sameSock, hx]
  · refine chg_same (fun i id hi => ?_) _ h
    have h1 := (ixOf_some.1 hi).1
    unfold DumpV.procIds at h1
    rw [List.getElem?_map] at h1
    obtain ⟨x, hx, _⟩ := Option.map_eq_some_iff.1 h1
    simp [sameProc, hx, procEq]

set_option maxRecDepth 100000 in
set_option maxHeartbeats 8000000 in
theorem effects_walk (hfew : FewSays) {w : World} {D E : DumpV} (hD : RDump w D) (hE : RDump w E) :
    Calls Try.prog 7 #[D.v, E.v] w fun e w' => e = .returned (.bool true) ∧ Turned [] w w' := by
  have HC : Hid (∀ w1, Turned [] w w1 → Calls Try.prog 21 #[D.v] w1 (ShortDid w w1)) := Lib.hid fun w1 h => short_any hfew h hD
  have HCE : Hid (∀ w1, Turned [] w w1 → Calls Try.prog 21 #[E.v] w1 (ShortDid w w1)) := Lib.hid fun w1 h => short_any hfew h hE

  clear hD hE hfew
  simp only [DumpV.v, DumpV.cells, Sl.v] at HC HCE ⊢
  go_enter Try.func7, Try.ntmps7
  go_wp2_with fail
  generalize hW0 : World.alloc (World.alloc w _) _ = W
  have hW : W = (w.alloc (.cells D.cells.toArray 48 (0, 0))).alloc (.cells E.cells.toArray 48 (0, 0)) := hW0.symm
  clear hW0
  have HB1 := Lib.hid (show W.heap[w.heap.size]? = some (.cells D.cells.toArray 48 (0, 0)) by rw [hW]; exact ((Turned.refl [] _).alloc _).keep (heap_alloc_new w _) (by simp))
  have HB2 := Lib.hid (show W.heap[w.heap.size + 1]? = some (.cells E.cells.toArray 48 (0, 0)) by rw [hW]; exact heap_alloc_second w _ _)
  have HTW := Lib.hid (show Turned [] w W by rw [hW]; exact ((Turned.refl _ _).alloc _).alloc _)
  have HWS := Lib.hid (show W.heap.size = w.heap.size + 2 by rw [hW]; simp)
  clear hW
  refine (HC.out _ HTW.out).mono ?_
  rintro e w1 ⟨D1, b1, rfl, hcD, -, ht1, hD1⟩
  have HD1 := Lib.hid hD1
  have HCD1 := Lib.hid hcD
  have HT1 := Lib.hid ht1
  have HB1' := Lib.hid (ht1.keep HB1.out (by simp))
  have HB2' := Lib.hid (ht1.keep HB2.out (by simp))
  obtain ⟨e0, e1, e2, e3, e4, e5, e6, e7, e8, e9, e10, e11⟩ := box_cells HB2'.out
  simp only [Sl.v] at e0 e1 e2 e3 e4 e5 e6
  clear hD1 hcD ht1 HC
  go_wp2_with (refine wpList_store_dump (by rfl) _ _ rfl (D := D1) (Z := D) rfl rfl HB1'.out ?_; intro w2 h2 t2; have H2 := Lib.hid h2; have T2 := Lib.hid t2; clear h2 t2; have HB2x := Lib.hid (T2.out.keep HB2'.out (by simp)); clear e0 e1 e2 e3 e4 e5 e6 e7 e8 e9 e10 e11; obtain ⟨e0, e1, e2, e3, e4, e5, e6, e7, e8, e9, e10, e11⟩ := box_cells HB2x.out; simp only [Sl.v] at e0 e1 e2 e3 e4 e5 e6)
  have HW2 := Lib.hid (show Turned [] w w2 from (HTW.out.trans HT1.out).step T2.out (fun i hi => by simp at hi; right; omega))
  refine (HCE.out _ HW2.out).mono ?_
  rintro e w3 ⟨E1, b2, rfl, hcE, -, ht3, hE1⟩
  have HE1 := Lib.hid hE1
  have HCE1 := Lib.hid hcE
  have HT3 := Lib.hid ht3
  have HB2'' := Lib.hid (ht3.keep HB2x.out (by simp))
  have H3 := Lib.hid (ht3.keep H2.out (by simp))
  clear hE1 hcE ht3 HCE e0 e1 e2 e3 e4 e5 e6 e7 e8 e9 e10 e11
  have hs12 := HT1.out.size
  have hs23 := T2.out.size
  have hws := HWS.out
  cases b1 with
  | false =>
    go_wp2_with (first
      | (go_at_call 22; refine lives_any.mono ?_; rintro e w5 ⟨rfl, ht5⟩; have HT5 := Lib.hid (T4.out.step (S' := []) ht5 (by simp)); clear ht5)
      | (refine wpList_store_dump (by rfl) _ _ rfl (D := E1) (Z := E) rfl rfl HB2''.out ?_; intro w4 h4 t4; have H4 := Lib.hid h4; have T4 := Lib.hid t4; clear h4 t4))
    go_ret
    exact ⟨rfl, (HW2.out.trans HT3.out).step HT5.out (fun i hi => by simp at hi; right; omega)⟩
  | true =>
  cases b2 with
  | false =>
    go_wp2_with (first
      | (go_at_call 22; refine lives_any.mono ?_; rintro e w5 ⟨rfl, ht5⟩; have HT5 := Lib.hid (T4.out.step (S' := []) ht5 (by simp)); clear ht5)
      | (refine wpList_store_dump (by rfl) _ _ rfl (D := E1) (Z := E) rfl rfl HB2''.out ?_; intro w4 h4 t4; have H4 := Lib.hid h4; have T4 := Lib.hid t4; clear h4 t4))
    go_ret
    exact ⟨rfl, (HW2.out.trans HT3.out).step HT5.out (fun i hi => by simp at hi; right; omega)⟩
  | true =>
    go_wp2_with (refine wpList_store_dump (by rfl) _ _ rfl (D := E1) (Z := E) rfl rfl HB2''.out ?_; intro w4 h4 t4; have H4 := Lib.hid h4; have T4 := Lib.hid t4; clear h4 t4)
    have HRE := Lib.hid (HE1.out [w.heap.size + 1] w4 (fun k hk => by simp at hk; omega) T4.out)
    have HRD := Lib.hid (HD1.out [w.heap.size, w.heap.size + 1] w4 (fun k hk => by simp at hk; omega) (((T2.out.mono (by simp)).trans (HT3.out.mono (by simp))).trans (T4.out.mono (by simp))))
    have HX1 := Lib.hid (T4.out.keep H3.out (by simp))
    have HKEEP : Hid (∀ w', Turned [] w4 w' → w'.cell? ⟨w.heap.size, 0, none⟩ = some (.slice D1.procs.a D1.procs.len D1.procs.cap) ∧ w'.cell? ⟨w.heap.size, 1, none⟩ = some (.slice D1.held.a D1.held.len D1.held.cap) ∧ w'.cell? ⟨w.heap.size, 2, none⟩ = some (.slice D1.parks.a D1.parks.len D1.parks.cap) ∧ w'.cell? ⟨w.heap.size, 3, none⟩ = some (.slice D1.files.a D1.files.len D1.files.cap) ∧ w'.cell? ⟨w.heap.size, 4, none⟩ = some (.slice D1.pipes.a D1.pipes.len D1.pipes.cap) ∧ w'.cell? ⟨w.heap.size, 5, none⟩ = some (.slice D1.socks.a D1.socks.len D1.socks.cap) ∧ w'.cell? ⟨w.heap.size, 6, none⟩ = some (.slice D1.inodes.a D1.inodes.len D1.inodes.cap) ∧ w'.cell? ⟨w.heap.size, 7, none⟩ = some (.int .i64 D1.n0) ∧ w'.cell? ⟨w.heap.size, 8, none⟩ = some (.int .i64 D1.n1) ∧ w'.cell? ⟨w.heap.size, 9, none⟩ = some (.int .i64 D1.n2) ∧ w'.cell? ⟨w.heap.size, 10, none⟩ = some (.int .i64 D1.n3) ∧ w'.cell? ⟨w.heap.size, 11, none⟩ = some (.int .i64 D1.n4) ∧ w'.cell? ⟨w.heap.size + 1, 0, none⟩ = some (.slice E1.procs.a E1.procs.len E1.procs.cap) ∧ w'.cell? ⟨w.heap.size + 1, 1, none⟩ = some (.slice E1.held.a E1.held.len E1.held.cap) ∧ w'.cell? ⟨w.heap.size + 1, 2, none⟩ = some (.slice E1.parks.a E1.parks.len E1.parks.cap) ∧ w'.cell? ⟨w.heap.size + 1, 3, none⟩ = some (.slice E1.files.a E1.files.len E1.files.cap) ∧ w'.cell? ⟨w.heap.size + 1, 4, none⟩ = some (.slice E1.pipes.a E1.pipes.len E1.pipes.cap) ∧ w'.cell? ⟨w.heap.size + 1, 5, none⟩ = some (.slice E1.socks.a E1.socks.len E1.socks.cap) ∧ w'.cell? ⟨w.heap.size + 1, 6, none⟩ = some (.slice E1.inodes.a E1.inodes.len E1.inodes.cap) ∧ w'.cell? ⟨w.heap.size + 1, 7, none⟩ = some (.int .i64 E1.n0) ∧ w'.cell? ⟨w.heap.size + 1, 8, none⟩ = some (.int .i64 E1.n1) ∧ w'.cell? ⟨w.heap.size + 1, 9, none⟩ = some (.int .i64 E1.n2) ∧ w'.cell? ⟨w.heap.size + 1, 10, none⟩ = some (.int .i64 E1.n3) ∧ w'.cell? ⟨w.heap.size + 1, 11, none⟩ = some (.int .i64 E1.n4)) := Lib.hid fun w' h => by
      have h1 := box_cells (h.keep HX1.out (by simp))
      have h2 := box_cells (h.keep H4.out (by simp))
      simp only [Sl.v] at h1 h2
      obtain ⟨d0, d1, d2, d3, d4, d5, d6, d7, d8, d9, d10, d11⟩ := h1
      obtain ⟨e0, e1, e2, e3, e4, e5, e6, e7, e8, e9, e10, e11⟩ := h2
      exact ⟨d0, d1, d2, d3, d4, d5, d6, d7, d8, d9, d10, d11, e0, e1, e2, e3, e4, e5, e6, e7, e8, e9, e10, e11⟩
    have HA : Hid (∀ w', Turned [] w4 w' → Calls Try.prog 24 #[D1.v, E1.v] w' fun e w'' => ∃ s : Sl Ob, e = .returned (.slice s.a s.len s.cap) ∧ RSl 2 RObj w'' s ∧ Turned [] w' w'' ∧ Srt s.xs ∧ ∀ o, o ∈ s.xs ↔ EffT D1 E1 o) := Lib.hid fun w' ht => (effects_top (HRD.out.stays ht) (HRE.out.stays ht) HCD1.out HCE1.out).mono (by
      rintro e w3 ⟨v, l, rfl, hs, ho, ht3, -, hm⟩
      obtain ⟨s, rfl, rfl, hr⟩ := ho.sl (fun o ho => EffT.wf HRD.out ((hm o).1 ho))
      exact ⟨s, rfl, hr, ht3, hs, hm⟩)
    have HR : Hid (∀ w', Turned [] w4 w' → Calls Try.prog 25 #[D1.v, E1.v] w' fun e w'' => ∃ s : Sl Ob, e = .returned (.slice s.a s.len s.cap) ∧ RSl 2 RObj w'' s ∧ Turned [] w' w'' ∧ Srt s.xs ∧ ∀ o, o ∈ s.xs ↔ EffT D1 E1 o) := Lib.hid fun w' ht => (ref_effects (HRD.out.stays ht) (HRE.out.stays ht) HCD1.out).mono (by
      rintro e w3 ⟨s, rfl, ho, ht3, -, hm⟩
      exact ⟨s, rfl, ho.rd, ht3, ho.srt, hm⟩)
    have HN : Hid (∀ w', Turned [] w4 w' → Calls Try.prog 24 #[E1.v, E1.v] w' fun e w'' => ∃ a c, e = .returned (.slice a 0 c) ∧ Turned [] w' w'') := Lib.hid fun w' ht => (effects_top (HRE.out.stays ht) (HRE.out.stays ht) HCE1.out HCE1.out).mono (by
      rintro e w3 ⟨v, l, rfl, hs, ho, ht3, -, hm⟩
      obtain ⟨s, rfl, rfl, hr⟩ := ho.sl (fun o ho => EffT.wf HRE.out ((hm o).1 ho))
      have h0 : s.xs = [] := List.eq_nil_iff_forall_not_mem.2 fun o ho => eff_none ((hm o).1 ho)
      have hl : s.len = 0 := by rw [← hr.n, h0]; rfl
      exact ⟨s.a, s.cap, by rw [Sl.v, hl], ht3⟩)
    have HSAME : Hid (∀ w' (s t : Sl Ob), RSl 2 RObj w' s → RSl 2 RObj w' t → Srt s.xs → Srt t.xs → (∀ o, o ∈ s.xs ↔ EffT D1 E1 o) → (∀ o, o ∈ t.xs ↔ EffT D1 E1 o) → Calls Try.prog 23 #[.slice s.a s.len s.cap, .slice t.a t.len t.cap] w' fun e w'' => e = .returned (.bool true) ∧ Turned [] w' w'') := Lib.hid fun w' s t hs ht h1 h2 h3 h4 => by
      have h := same_objs hs ht
      rw [show decide (s.xs = t.xs) = true by simpa using srt_ext h1 h2 (fun o => (h3 o).trans (h4 o).symm)] at h
      exact h
    simp only [DumpV.v, DumpV.cells, Sl.v] at HA HR HN
    go_region_held3 (fun w' => w'.cell? ⟨w.heap.size, 0, none⟩ = some (.slice D1.procs.a D1.procs.len D1.procs.cap) ∧ w'.cell? ⟨w.heap.size, 1, none⟩ = some (.slice D1.held.a D1.held.len D1.held.cap) ∧ w'.cell? ⟨w.heap.size, 2, none⟩ = some (.slice D1.parks.a D1.parks.len D1.parks.cap) ∧ w'.cell? ⟨w.heap.size, 3, none⟩ = some (.slice D1.files.a D1.files.len D1.files.cap) ∧ w'.cell? ⟨w.heap.size, 4, none⟩ = some (.slice D1.pipes.a D1.pipes.len D1.pipes.cap) ∧ w'.cell? ⟨w.heap.size, 5, none⟩ = some (.slice D1.socks.a D1.socks.len D1.socks.cap) ∧ w'.cell? ⟨w.heap.size, 6, none⟩ = some (.slice D1.inodes.a D1.inodes.len D1.inodes.cap) ∧ w'.cell? ⟨w.heap.size, 7, none⟩ = some (.int .i64 D1.n0) ∧ w'.cell? ⟨w.heap.size, 8, none⟩ = some (.int .i64 D1.n1) ∧ w'.cell? ⟨w.heap.size, 9, none⟩ = some (.int .i64 D1.n2) ∧ w'.cell? ⟨w.heap.size, 10, none⟩ = some (.int .i64 D1.n3) ∧ w'.cell? ⟨w.heap.size, 11, none⟩ = some (.int .i64 D1.n4) ∧ w'.cell? ⟨w.heap.size + 1, 0, none⟩ = some (.slice E1.procs.a E1.procs.len E1.procs.cap) ∧ w'.cell? ⟨w.heap.size + 1, 1, none⟩ = some (.slice E1.held.a E1.held.len E1.held.cap) ∧ w'.cell? ⟨w.heap.size + 1, 2, none⟩ = some (.slice E1.parks.a E1.parks.len E1.parks.cap) ∧ w'.cell? ⟨w.heap.size + 1, 3, none⟩ = some (.slice E1.files.a E1.files.len E1.files.cap) ∧ w'.cell? ⟨w.heap.size + 1, 4, none⟩ = some (.slice E1.pipes.a E1.pipes.len E1.pipes.cap) ∧ w'.cell? ⟨w.heap.size + 1, 5, none⟩ = some (.slice E1.socks.a E1.socks.len E1.socks.cap) ∧ w'.cell? ⟨w.heap.size + 1, 6, none⟩ = some (.slice E1.inodes.a E1.inodes.len E1.inodes.cap) ∧ w'.cell? ⟨w.heap.size + 1, 7, none⟩ = some (.int .i64 E1.n0) ∧ w'.cell? ⟨w.heap.size + 1, 8, none⟩ = some (.int .i64 E1.n1) ∧ w'.cell? ⟨w.heap.size + 1, 9, none⟩ = some (.int .i64 E1.n2) ∧ w'.cell? ⟨w.heap.size + 1, 10, none⟩ = some (.int .i64 E1.n3) ∧ w'.cell? ⟨w.heap.size + 1, 11, none⟩ = some (.int .i64 E1.n4))
      ((refine HKEEP.out _ ?_; (repeat (first | exact Turned.refl _ _ | exact HTL.out | exact HTN.out | exact HTC.out | exact HT2.out | exact HTA.out | exact HTB.out | refine Turned.drew ?_ | refine Turned.drewN ?_ _ | refine Turned.alloc ?_ _))))
      ((first
        | (go_at_call 24; have hq := HTC; refine (HN.out _ (by (repeat (first | exact Turned.refl _ _ | exact HTL.out | exact HTN.out | exact HTC.out | exact HT2.out | exact HTA.out | exact HTB.out | refine Turned.drew ?_ | refine Turned.drewN ?_ _ | refine Turned.alloc ?_ _)))).mono ?_; rintro e w6 ⟨a6, c6, rfl, ht⟩; have HTN := Lib.hid (HTC.out.trans ht); clear hq ht)
        | (go_at_call 24; have hq := HTB; refine (HA.out _ (by (repeat (first | exact Turned.refl _ _ | exact HTL.out | exact HTN.out | exact HTC.out | exact HT2.out | exact HTA.out | exact HTB.out | refine Turned.drew ?_ | refine Turned.drewN ?_ _ | refine Turned.alloc ?_ _)))).mono ?_; rintro e wA ⟨s, rfl, hr, ht, hs, hm⟩; have HT2 := Lib.hid (HTB.out.trans (Turned.trans (by exact Turned.refl _ _) ht)); have HRA := Lib.hid hr; have HRB2 := Lib.hid (HRB.out.stays stays_obj ht); have HSA := Lib.hid (And.intro hs hm); have HRA2 := HRA; clear hq hr ht hs hm)
        | (go_at_call 25; have hq := HTA; refine (HR.out _ (by (repeat (first | exact Turned.refl _ _ | exact HTL.out | exact HTN.out | exact HTC.out | exact HT2.out | exact HTA.out | exact HTB.out | refine Turned.drew ?_ | refine Turned.drewN ?_ _ | refine Turned.alloc ?_ _)))).mono ?_; rintro e wB ⟨t, rfl, hr, ht, hs, hm⟩; have HT2 := Lib.hid (HTA.out.trans (Turned.trans (by exact Turned.refl _ _) ht)); have HRB := Lib.hid hr; have HRA2 := Lib.hid (HRA.out.stays stays_obj ht); have HSB := Lib.hid (And.intro hs hm); have HRB2 := HRB; clear hq hr ht hs hm)
        | (go_at_call 24; refine (HA.out _ ((Turned.refl [] w4).drewN 1)).mono ?_; rintro e wA ⟨s, rfl, hr, ht, hs, hm⟩; have HTA := Lib.hid (((Turned.refl [] w4).drewN 1).trans ht); have HRA := Lib.hid hr; have HSA := Lib.hid (And.intro hs hm); clear hr ht hs hm)
        | (go_at_call 25; refine (HR.out _ ((Turned.refl [] w4).drewN 1)).mono ?_; rintro e wB ⟨t, rfl, hr, ht, hs, hm⟩; have HTB := Lib.hid (((Turned.refl [] w4).drewN 1).trans ht); have HRB := Lib.hid hr; have HSB := Lib.hid (And.intro hs hm); clear hr ht hs hm)
        | (go_at_call 23; refine (HSAME.out _ _ _ HRA2.out HRB2.out HSA.out.1 HSB.out.1 HSA.out.2 HSB.out.2).mono ?_; rintro e w5 ⟨rfl, ht⟩; have HTC := Lib.hid (HT2.out.trans ht); clear ht)
        | (go_at_call 22; refine lives_any.mono ?_; rintro e w7 ⟨rfl, ht⟩; have HTL := Lib.hid (HTN.out.trans ht); clear ht)))
    all_goals
      go_wp2_with fail
      go_ret
      exact ⟨rfl, (HW2.out.trans HT3.out).step (T4.out.step (S' := []) HTL.out (by simp)) (fun i hi => by simp at hi; right; omega)⟩
end Go.Proofs.Yteaglbfodeineaa
