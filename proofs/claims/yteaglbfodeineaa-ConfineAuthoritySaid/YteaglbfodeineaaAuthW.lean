/-
  What any process of any dump can come to: the walk.
-/
import Derived.Test.YteaglbfodeineaaRefT
import Derived.Test.YteaglbfodeineaaShort
import Derived.Test.YteaglbfodeineaaLives
import Derived.Deep.RegionHeld3
namespace Go.Proofs.Yteaglbfodeineaa
open Go.RowKit

set_option maxRecDepth 100000 in
set_option maxHeartbeats 8000000 in
theorem authority_walk (hfew : FewSays) {w : World} {D : DumpV} {pid : Int} (hD : RDump w D) (hp : I64 pid) :
    Calls Try.prog 8 #[D.v, .int .i64 pid] w fun e w' => e = .returned (.bool true) ∧ Turned [] w w' := by
  have HC : Hid (∀ w1, Turned [] w w1 → Calls Try.prog 21 #[D.v] w1 (ShortDid w w1)) := Lib.hid fun w1 h => short_any hfew h hD
  have HP := Lib.hid hp
  clear hD hp hfew
  simp only [DumpV.v, DumpV.cells, Sl.v] at HC ⊢
  go_enter Try.func8, Try.ntmps8
  go_wp2_with fail
  generalize hW0 : World.alloc w _ = W
  have hW : W = w.alloc (.cells D.cells.toArray 48 (0, 0)) := hW0.symm
  clear hW0
  have HB1 := Lib.hid (show W.heap[w.heap.size]? = some (.cells D.cells.toArray 48 (0, 0)) by rw [hW]; exact heap_alloc_new _ _)
  have HTW := Lib.hid (show Turned [] w W by rw [hW]; exact (Turned.refl _ _).alloc _)
  have HWS := Lib.hid (show W.heap.size = w.heap.size + 1 by rw [hW]; simp)
  clear hW
  refine (HC.out _ HTW.out).mono ?_
  rintro e w1 ⟨E, b, rfl, hcE, -, ht1, hE⟩
  have HE := Lib.hid hE
  have HCE := Lib.hid hcE
  have HT1 := Lib.hid ht1
  have HB1' := Lib.hid (ht1.keep HB1.out (by simp))
  clear hE hcE ht1 HC
  cases b with
  | false =>
    go_wp2_with (first
      | (go_at_call 22; refine lives_any.mono ?_; rintro e w3 ⟨rfl, ht3⟩; have HT3 := Lib.hid (T2.out.step (S' := []) ht3 (by simp)); clear ht3)
      | (refine wpList_store_dump (by rfl) _ _ rfl (D := E) (Z := D) rfl rfl HB1'.out ?_; intro w2 h2 t2; have H2 := Lib.hid h2; have T2 := Lib.hid t2; clear h2 t2))
    go_ret
    exact ⟨rfl, (HTW.out.trans HT1.out).step HT3.out (fun i hi => by simp at hi; right; omega)⟩
  | true =>
    go_wp2_with (refine wpList_store_dump (by rfl) _ _ rfl (D := E) (Z := D) rfl rfl HB1'.out ?_; intro w2 h2 t2; have H2 := Lib.hid h2; have T2 := Lib.hid t2; have HR2 := Lib.hid (HE.out [w.heap.size] w2 (fun k hk => by simp at hk; have := HWS.out; omega) t2); clear h2 t2)
    have HA : Hid (∀ w', Turned [] w2 w' → Calls Try.prog 26 #[E.v, .int .i64 pid] w' fun e w'' => ∃ s : Sl Ob, e = .returned (.slice s.a s.len s.cap) ∧ RSl 2 RObj w'' s ∧ Turned [] w' w'' ∧ Srt s.xs ∧ ∀ o, o ∈ s.xs ↔ Auth E pid o) := Lib.hid fun w' ht => (authority_top (HCE.out.small HR2.out) (HR2.out.stays ht) HP.out).mono (by
      rintro e w3 ⟨v, l, rfl, hs, ho, ht3, -, hd, hm⟩
      obtain ⟨s, rfl, rfl, hr⟩ := ho.sl hd
      exact ⟨s, rfl, hr, ht3, hs, hm⟩)
    have HR : Hid (∀ w', Turned [] w2 w' → Calls Try.prog 27 #[E.v, .int .i64 pid] w' fun e w'' => ∃ s : Sl Ob, e = .returned (.slice s.a s.len s.cap) ∧ RSl 2 RObj w'' s ∧ Turned [] w' w'' ∧ Srt s.xs ∧ ∀ o, o ∈ s.xs ↔ Auth E pid o) := Lib.hid fun w' ht => (ref_authority (HCE.out.small HR2.out) (HR2.out.stays ht) HP.out).mono (by
      rintro e w3 ⟨s, rfl, hl, ht3, hm⟩
      exact ⟨s, rfl, hl.ord.rd, ht3, hl.ord.srt, hm⟩)
    have HSAME : Hid (∀ w' (s t : Sl Ob), RSl 2 RObj w' s → RSl 2 RObj w' t → Srt s.xs → Srt t.xs → (∀ o, o ∈ s.xs ↔ Auth E pid o) → (∀ o, o ∈ t.xs ↔ Auth E pid o) → Calls Try.prog 23 #[.slice s.a s.len s.cap, .slice t.a t.len t.cap] w' fun e w'' => e = .returned (.bool true) ∧ Turned [] w' w'') := Lib.hid fun w' s t hs ht h1 h2 h3 h4 => by
      have h := same_objs hs ht
      rw [show decide (s.xs = t.xs) = true by simpa using srt_ext h1 h2 (fun o => (h3 o).trans (h4 o).symm)] at h
      exact h
    have HKEEP : Hid (∀ w', Turned [] w2 w' → w'.cell? ⟨w.heap.size, 0, none⟩ = some (.slice E.procs.a E.procs.len E.procs.cap) ∧ w'.cell? ⟨w.heap.size, 1, none⟩ = some (.slice E.held.a E.held.len E.held.cap) ∧ w'.cell? ⟨w.heap.size, 2, none⟩ = some (.slice E.parks.a E.parks.len E.parks.cap) ∧ w'.cell? ⟨w.heap.size, 3, none⟩ = some (.slice E.files.a E.files.len E.files.cap) ∧ w'.cell? ⟨w.heap.size, 4, none⟩ = some (.slice E.pipes.a E.pipes.len E.pipes.cap) ∧ w'.cell? ⟨w.heap.size, 5, none⟩ = some (.slice E.socks.a E.socks.len E.socks.cap) ∧ w'.cell? ⟨w.heap.size, 6, none⟩ = some (.slice E.inodes.a E.inodes.len E.inodes.cap) ∧ w'.cell? ⟨w.heap.size, 7, none⟩ = some (.int .i64 E.n0) ∧ w'.cell? ⟨w.heap.size, 8, none⟩ = some (.int .i64 E.n1) ∧ w'.cell? ⟨w.heap.size, 9, none⟩ = some (.int .i64 E.n2) ∧ w'.cell? ⟨w.heap.size, 10, none⟩ = some (.int .i64 E.n3) ∧ w'.cell? ⟨w.heap.size, 11, none⟩ = some (.int .i64 E.n4)) := Lib.hid fun w' h => by
      have := box_cells (h.keep H2.out (by simp))
      simpa only [Sl.v] using this
    simp only [DumpV.v, DumpV.cells, Sl.v] at HA HR
    obtain ⟨d0, d1, d2, d3, d4, d5, d6, d7, d8, d9, d10, d11⟩ := HKEEP.out w2 (Turned.refl _ _)
    go_region_held3 (fun w' => w'.cell? ⟨w.heap.size, 0, none⟩ = some (.slice E.procs.a E.procs.len E.procs.cap) ∧ w'.cell? ⟨w.heap.size, 1, none⟩ = some (.slice E.held.a E.held.len E.held.cap) ∧ w'.cell? ⟨w.heap.size, 2, none⟩ = some (.slice E.parks.a E.parks.len E.parks.cap) ∧ w'.cell? ⟨w.heap.size, 3, none⟩ = some (.slice E.files.a E.files.len E.files.cap) ∧ w'.cell? ⟨w.heap.size, 4, none⟩ = some (.slice E.pipes.a E.pipes.len E.pipes.cap) ∧ w'.cell? ⟨w.heap.size, 5, none⟩ = some (.slice E.socks.a E.socks.len E.socks.cap) ∧ w'.cell? ⟨w.heap.size, 6, none⟩ = some (.slice E.inodes.a E.inodes.len E.inodes.cap) ∧ w'.cell? ⟨w.heap.size, 7, none⟩ = some (.int .i64 E.n0) ∧ w'.cell? ⟨w.heap.size, 8, none⟩ = some (.int .i64 E.n1) ∧ w'.cell? ⟨w.heap.size, 9, none⟩ = some (.int .i64 E.n2) ∧ w'.cell? ⟨w.heap.size, 10, none⟩ = some (.int .i64 E.n3) ∧ w'.cell? ⟨w.heap.size, 11, none⟩ = some (.int .i64 E.n4))
      (first | exact HKEEP.out _ HTD.out | exact HKEEP.out _ HTC.out | exact HKEEP.out _ HT2.out | exact HKEEP.out _ HTA.out | exact HKEEP.out _ HTB.out | exact HKEEP.out _ (Turned.refl _ _).drew | exact HKEEP.out _ ((Turned.refl _ _).drewN 1))
      ((first
        | (go_at_call 26; have hq := HTB; refine (HA.out _ HTB.out).mono ?_; rintro e w4 ⟨s, rfl, hr, ht, hs, hm⟩; have HT2 := Lib.hid (HTB.out.trans ht); have HRA := Lib.hid hr; have HRB2 := Lib.hid (HRB.out.stays stays_obj ht); have HSA := Lib.hid (And.intro hs hm); have HRA2 := HRA; clear hq hr ht hs hm)
        | (go_at_call 27; have hq := HTA; refine (HR.out _ HTA.out).mono ?_; rintro e w4 ⟨t, rfl, hr, ht, hs, hm⟩; have HT2 := Lib.hid (HTA.out.trans ht); have HRB := Lib.hid hr; have HRA2 := Lib.hid (HRA.out.stays stays_obj ht); have HSB := Lib.hid (And.intro hs hm); have HRB2 := HRB; clear hq hr ht hs hm)
        | (go_at_call 26; refine (HA.out _ ((Turned.refl [] w2).drewN 1)).mono ?_; rintro e w3 ⟨s, rfl, hr, ht, hs, hm⟩; have HTA := Lib.hid (((Turned.refl [] w2).drewN 1).trans ht); have HRA := Lib.hid hr; have HSA := Lib.hid (And.intro hs hm); clear hr ht hs hm)
        | (go_at_call 27; refine (HR.out _ ((Turned.refl [] w2).drewN 1)).mono ?_; rintro e w3 ⟨t, rfl, hr, ht, hs, hm⟩; have HTB := Lib.hid (((Turned.refl [] w2).drewN 1).trans ht); have HRB := Lib.hid hr; have HSB := Lib.hid (And.intro hs hm); clear hr ht hs hm)
        | (go_at_call 23; refine (HSAME.out _ _ _ HRA2.out HRB2.out HSA.out.1 HSB.out.1 HSA.out.2 HSB.out.2).mono ?_; rintro e w5 ⟨rfl, ht⟩; have HTC := Lib.hid (HT2.out.trans ht); clear ht)
        | (go_at_call 22; refine lives_any.mono ?_; rintro e w6 ⟨rfl, ht⟩; have HTD := Lib.hid (HTC.out.trans ht); clear ht)))
    all_goals
      go_wp2_with fail
      go_ret
      exact ⟨rfl, (HTW.out.trans HT1.out).step (T2.out.step (S' := []) HTD.out (by simp)) (fun i hi => by simp at hi; right; omega)⟩
end Go.Proofs.Yteaglbfodeineaa
