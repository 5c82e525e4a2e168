/-
  The small living call: the walk of lives.
-/
import Derived.Test.YteaglbfodeineaaLivesA
import Derived.Deep.DeepCutAuto
namespace Go.Proofs.Yteaglbfodeineaa
open Go.RowKit

theorem five_blocks (w : World) (a b c d e : Obj) : (((((w.alloc a).alloc b).alloc c).alloc d).alloc e).heap[w.heap.size]? = some a ∧ (((((w.alloc a).alloc b).alloc c).alloc d).alloc e).heap[w.heap.size + 1]? = some b ∧
    (((((w.alloc a).alloc b).alloc c).alloc d).alloc e).heap[w.heap.size + 1 + 1]? = some c ∧ (((((w.alloc a).alloc b).alloc c).alloc d).alloc e).heap[w.heap.size + 1 + 1 + 1]? = some d ∧ (((((w.alloc a).alloc b).alloc c).alloc d).alloc e).heap[w.heap.size + 1 + 1 + 1 + 1]? = some e := by
  have h2 := heap_alloc_second (w.alloc a) b c
  have h3 := heap_alloc_second ((w.alloc a).alloc b) c d
  have h4 := heap_alloc_second (((w.alloc a).alloc b).alloc c) d e
  have s1 : (w.alloc a).heap.size = w.heap.size + 1 := by simp
  have s2 : ((w.alloc a).alloc b).heap.size = w.heap.size + 1 + 1 := by simp
  have s3 : (((w.alloc a).alloc b).alloc c).heap.size = w.heap.size + 1 + 1 + 1 := by simp
  rw [s1] at h2
  rw [s2] at h3
  rw [s3] at h4
  exact ⟨((((Turned.refl [] _).alloc b).alloc c).alloc d |>.alloc e).keep (heap_alloc_new w a) (by simp), (((Turned.refl [] _).alloc c).alloc d |>.alloc e).keep (heap_alloc_second w a b) (by simp), ((Turned.refl [] _).alloc d |>.alloc e).keep h2 (by simp), ((Turned.refl [] _).alloc e).keep h3 (by simp), h4⟩

theorem rsl_two {w : World} {b : Nat} {x y : Ob} {z : Nat × Nat} (hb : w.heap[b]? = some (.cells #[.int .i64 x.1, .int .i64 x.2, .int .i64 y.1, .int .i64 y.2] 70 z)) (hx : KObj.dom x) (hy : KObj.dom y) : RSl 2 RObj w ⟨some ⟨b, 0, none⟩, 2, 2, [x, y]⟩ := by
  refine ⟨Nat.le_refl _, by unfold maxLen; show 2 ≤ _; omega, fun e => by simp at e, rfl, fun i u hu => ?_⟩
  have hi := (List.getElem?_eq_some_iff.1 hu).1
  simp at hi
  rcases (show i = 0 ∨ i = 1 by omega) with rfl | rfl
  · simp at hu; subst hu
    refine ⟨b, 0, [.int .i64 x.1, .int .i64 x.2], rfl, rfl, fun j v hj => ?_, rfl, hx⟩
    match j, hj with
    | 0, hj => simp at hj; subst hj; simp [World.cell?, hb]
    | 1, hj => simp at hj; subst hj; simp [World.cell?, hb]
  · simp at hu; subst hu
    refine ⟨b, 0, [.int .i64 y.1, .int .i64 y.2], rfl, rfl, fun j v hj => ?_, rfl, hy⟩
    match j, hj with
    | 0, hj => simp at hj; subst hj; simp [World.cell?, hb]
    | 1, hj => simp at hj; subst hj; simp [World.cell?, hb]

theorem srt_lv : Srt [(1, 1), (7, 1)] := by
  unfold Srt
  simp [Lt2]

set_option maxRecDepth 100000 in
set_option maxHeartbeats 8000000 in
theorem lives_any {w : World} : Calls Try.prog 22 #[] w fun e w' => e = .returned (.bool true) ∧ Turned [] w w' := by
  go_enter Try.func22, Try.ntmps22
  go_upto_region 3 with fail
  generalize hW : World.alloc (World.alloc (World.alloc (World.alloc (World.alloc w _) _) _) _) _ = W
  have HTW := Lib.hid (show Turned [] w W by rw [← hW]; exact ((((Turned.refl [] w).alloc _).alloc _).alloc _).alloc _ |>.alloc _)
  obtain ⟨f0, f1, f2, f3, f4⟩ := five_blocks w _ _ _ _ _
  rw [hW] at f0 f1 f2 f3 f4
  have HB1 := Lib.hid (show W.heap[w.heap.size + 1 + 1]? = some (.cells (lvD w.heap.size (w.heap.size + 1) ⟨#[97]⟩).cells.toArray 48 (0, 0)) from f2)
  have HB2 := Lib.hid (show W.heap[w.heap.size + 1 + 1 + 1 + 1]? = some (.cells (lvD w.heap.size (w.heap.size + 1 + 1 + 1) ⟨#[]⟩).cells.toArray 48 (0, 0)) from f4)
  have HD := Lib.hid (lv_rd (s := ⟨#[97]⟩) (by unfold maxLen; decide) f0 f1)
  have HE := Lib.hid (lv_rd (s := ⟨#[]⟩) (by unfold maxLen; decide) f0 f3)
  have HEF := Lib.hid (fun o => lv_eff (p := w.heap.size) (q := w.heap.size + 1) (p' := w.heap.size) (q' := w.heap.size + 1 + 1 + 1) (s := ⟨#[97]⟩) (s' := ⟨#[]⟩) (by decide) o)
  have HAU := Lib.hid (fun o => lv_auth (p := w.heap.size) (q := w.heap.size + 1) (s := ⟨#[97]⟩) o)
  clear hW f0 f1 f2 f3 f4
  have HC24 : Hid (∀ w1, Turned [] W w1 → Calls Try.prog 24 #[(lvD w.heap.size (w.heap.size + 1) ⟨#[97]⟩).v, (lvD w.heap.size (w.heap.size + 1 + 1 + 1) ⟨#[]⟩).v] w1 fun e w' => ∃ s : Sl Ob, e = .returned (.slice s.a s.len s.cap) ∧ RSl 2 RObj w' s ∧ s.xs = [(5, 3)] ∧ Turned [] w1 w') := Lib.hid fun w1 h =>
    (effects_top (HD.out.stays h) (HE.out.stays h) (lv_cut _ _ _) (lv_cut _ _ _)).mono (by
      rintro e w' ⟨v, l, rfl, hs, ho, ht, _, hm⟩
      have hl : l = [(5, 3)] := srt_ext hs (List.pairwise_singleton _ _) (fun o => by rw [hm, HEF.out]; simp)
      obtain ⟨s, rfl, hx, hr⟩ := ho.sl (fun o ho => EffT.wf HD.out ((hm o).1 ho))
      exact ⟨s, rfl, hr, by rw [hx, hl], ht⟩)
  have HC26 : Hid (∀ w1, Turned [] W w1 → Calls Try.prog 26 #[(lvD w.heap.size (w.heap.size + 1) ⟨#[97]⟩).v, .int .i64 1] w1 fun e w' => ∃ s : Sl Ob, e = .returned (.slice s.a s.len s.cap) ∧ RSl 2 RObj w' s ∧ s.xs = [(1, 1), (7, 1)] ∧ Turned [] w1 w') := Lib.hid fun w1 h =>
    (authority_top ((lv_cut _ _ _).small HD.out) (HD.out.stays h) (pid := 1) rfl).mono (by
      rintro e w' ⟨v, l, rfl, hs, ho, ht, _, hd, hm⟩
      have hl : l = [(1, 1), (7, 1)] := srt_ext hs srt_lv (fun o => by rw [hm, HAU.out]; simp)
      obtain ⟨s, rfl, hx, hr⟩ := ho.sl hd
      exact ⟨s, rfl, hr, by rw [hx, hl], ht⟩)
  have HC28 : Hid (∀ w1, Turned [] W w1 → Calls Try.prog 28 #[(lvD w.heap.size (w.heap.size + 1) ⟨#[97]⟩).v, (lvD w.heap.size (w.heap.size + 1 + 1 + 1) ⟨#[]⟩).v, .int .i64 1] w1 fun e w' => ∃ a c, e = .returned (.slice a 1 c) ∧ Turned [] w1 w') := Lib.hid fun w1 h =>
    (outside_top (HD.out.stays h) (HE.out.stays h) (lv_cut _ _ _) (lv_cut _ _ _) (pid := 1) rfl).mono (by
      rintro e w' ⟨v, l, rfl, hs, ho, ht, _, hm⟩
      have hl : l = [(5, 3)] := srt_ext hs (List.pairwise_singleton _ _) (fun o => by
        rw [hm, HEF.out, HAU.out]
        constructor
        · intro h; simp [h.1]
        · intro h; simp at h; subst h; simp)
      subst hl
      obtain ⟨s, rfl, hx, hr⟩ := ho.sl (fun o ho => EffT.wf HD.out ((hm o).1 ho).1)
      have := hr.n
      rw [hx] at this
      obtain ⟨a, n, c, xs⟩ := s
      simp at this
      subst this
      exact ⟨a, c, rfl, ht⟩)
  clear HD HE HEF HAU
  simp only [DumpV.v, DumpV.cells, Sl.v, lvD] at HC24 HC26 HC28
  go_cut [3, 4] (fun s3 s4 wx => ∃ s t : Sl Ob, s3 = .slice s.a s.len s.cap ∧ s4 = .slice t.a t.len t.cap ∧ RSl 2 RObj wx s ∧ s.xs = [(5, 3)] ∧ RSl 2 RObj wx t ∧ t.xs = [(1, 1), (7, 1)] ∧ Turned [] W wx)
  case first =>
    obtain ⟨d0, d1, d2, d3, d4, d5, d6, d7, d8, d9, d10, d11⟩ := box_cells HB1.out
    obtain ⟨e0, e1, e2, e3, e4, e5, e6, e7, e8, e9, e10, e11⟩ := box_cells HB2.out
    simp only [Sl.v, lvD] at d0 d1 d2 d3 d4 d5 d6 d7 d8 d9 d10 d11 e0 e1 e2 e3 e4 e5 e6 e7 e8 e9 e10 e11
    go_region_with (first
      | (go_at_call 24; have hq := HT2; refine (HC24.out _ HT2.out).mono ?_; rintro e w1 ⟨s, rfl, hr, hx, ht⟩; have HT1 := Lib.hid (HT2.out.trans ht); have HR1 := Lib.hid hr; have HX1 := Lib.hid hx; have HR2' := Lib.hid (HR2.out.stays stays_obj ht); clear hr hx ht)
      | (go_at_call 24; refine (HC24.out (W.drewN 1) ((Turned.refl [] W).drewN 1)).mono ?_; rintro e w1 ⟨s, rfl, hr, hx, ht⟩; have HT1 := Lib.hid (((Turned.refl [] W).drewN 1).trans ht); have HR1 := Lib.hid hr; have HX1 := Lib.hid hx; clear hr hx ht d0 d1 d2 d3 d4 d5 d6 d7 d8 d9 d10 d11; obtain ⟨d0, d1, d2, d3, d4, d5, d6, d7, d8, d9, d10, d11⟩ := box_cells (HT1.out.keep HB1.out (by simp)); simp only [Sl.v, lvD] at d0 d1 d2 d3 d4 d5 d6 d7 d8 d9 d10 d11)
      | (go_at_call 26; have hq := HT1; refine (HC26.out _ HT1.out).mono ?_; rintro e w2 ⟨t, rfl, hr, hx, ht⟩; have HT2 := Lib.hid (HT1.out.trans ht); have HR2 := Lib.hid hr; have HX2 := Lib.hid hx; have HR1' := Lib.hid (HR1.out.stays stays_obj ht); clear hr hx ht)
      | (go_at_call 26; refine (HC26.out (W.drewN 1) ((Turned.refl [] W).drewN 1)).mono ?_; rintro e w2 ⟨t, rfl, hr, hx, ht⟩; have HT2 := Lib.hid (((Turned.refl [] W).drewN 1).trans ht); have HR2 := Lib.hid hr; have HX2 := Lib.hid hx; clear hr hx ht d0 d1 d2 d3 d4 d5 d6 d7 d8 d9 d10 d11 e0 e1 e2 e3 e4 e5 e6 e7 e8 e9 e10 e11; obtain ⟨d0, d1, d2, d3, d4, d5, d6, d7, d8, d9, d10, d11⟩ := box_cells (HT2.out.keep HB1.out (by simp)); obtain ⟨e0, e1, e2, e3, e4, e5, e6, e7, e8, e9, e10, e11⟩ := box_cells (HT2.out.keep HB2.out (by simp)); simp only [Sl.v, lvD] at d0 d1 d2 d3 d4 d5 d6 d7 d8 d9 d10 d11 e0 e1 e2 e3 e4 e5 e6 e7 e8 e9 e10 e11))
    all_goals (go_wp2_with fail; go_meet; first | exact ⟨_, _, rfl, rfl, HR1'.out, HX1.out, HR2.out, HX2.out, HT2.out⟩ | exact ⟨_, _, rfl, rfl, HR1.out, HX1.out, HR2'.out, HX2.out, HT1.out⟩)
  case rest =>
  obtain ⟨s, t, rfl, rfl, hs, hsx, ht, htx, hT⟩ := hcut
  have HT := Lib.hid hT
  have H23 : Hid (∀ w1 b z, Turned [] wc w1 → w1.heap[b]? = some (.cells #[.int .i64 5, .int .i64 3] 70 z) → Calls Try.prog 23 #[.slice s.a s.len s.cap, .slice (some ⟨b, 0, none⟩) 1 1] w1 fun e w' => e = .returned (.bool true) ∧ Turned [] w1 w') := Lib.hid fun w1 b z h hb =>
    (same_objs (s := s) (t := ⟨some ⟨b, 0, none⟩, 1, 1, [(5, 3)]⟩) (hs.stays stays_obj h) (rsl_one (cs := [.int .i64 5, .int .i64 3]) hb rfl ⟨rfl, rfl, rfl⟩)).mono (by
      rintro e w' ⟨rfl, h⟩
      exact ⟨by rw [hsx]; rfl, h⟩)
  have H23' : Hid (∀ w1 b z, Turned [] wc w1 → w1.heap[b]? = some (.cells #[.int .i64 1, .int .i64 1, .int .i64 7, .int .i64 1] 70 z) → Calls Try.prog 23 #[.slice t.a t.len t.cap, .slice (some ⟨b, 0, none⟩) 2 2] w1 fun e w' => e = .returned (.bool true) ∧ Turned [] w1 w') := Lib.hid fun w1 b z h hb =>
    (same_objs (s := t) (t := ⟨some ⟨b, 0, none⟩, 2, 2, [(1, 1), (7, 1)]⟩) (ht.stays stays_obj h) (rsl_two hb ⟨rfl, rfl⟩ ⟨rfl, rfl⟩)).mono (by
      rintro e w' ⟨rfl, h⟩
      exact ⟨by rw [htx]; rfl, h⟩)
  clear hs hsx ht htx hT HC24 HC26
  go_wp2_with (first
    | (go_at_call_of 23 (s.len); refine (H23.out _ _ _ ((Turned.refl [] wc).alloc _) (heap_alloc_new _ _)).mono ?_; rintro e w1 ⟨rfl, ht1⟩; have HT1 := Lib.hid (((Turned.refl [] wc).alloc _).trans ht1); clear ht1)
    | (go_at_call_of 23 (t.len); refine (H23'.out _ _ _ (HT1.out.alloc _) (heap_alloc_new _ _)).mono ?_; rintro e w2 ⟨rfl, ht2⟩; have HT2 := Lib.hid (HT.out.trans ((HT1.out.alloc _).trans ht2)); clear ht2; obtain ⟨d0, d1, d2, d3, d4, d5, d6, d7, d8, d9, d10, d11⟩ := box_cells (HT2.out.keep HB1.out (by simp)); obtain ⟨e0, e1, e2, e3, e4, e5, e6, e7, e8, e9, e10, e11⟩ := box_cells (HT2.out.keep HB2.out (by simp)); simp only [Sl.v, lvD] at d0 d1 d2 d3 d4 d5 d6 d7 d8 d9 d10 d11 e0 e1 e2 e3 e4 e5 e6 e7 e8 e9 e10 e11)
    | (go_at_call 28; refine (HC28.out _ HT2.out).mono ?_; rintro e w3 ⟨a, c, rfl, ht3⟩; have HT3 := Lib.hid (HT2.out.trans ht3); clear ht3))
  go_ret
  exact ⟨rfl, HTW.out.trans HT3.out⟩
end Go.Proofs.Yteaglbfodeineaa
