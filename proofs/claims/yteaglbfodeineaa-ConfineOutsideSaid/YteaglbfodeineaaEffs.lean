/-
  What has changed: the walk of effects, up to the order.
-/
import Derived.Test.YteaglbfodeineaaEff
import Derived.Test.YteaglbfodeineaaAppL
import Derived.Test.YteaglbfodeineaaIxb
import Derived.Test.YteaglbfodeineaaSort
import Derived.Deep.DeepCutAuto
namespace Go.Proofs.Yteaglbfodeineaa
open Go.RowKit

/-- The index in memory. -/
def IxD (w : World) (X : Nat) (D : DumpV) : Prop := ∃ m1 m2 m3 m4 m5 mb mh, IxAt w X m1 m2 m3 m4 m5 mb mh D

theorem IxD.keep {w w' : World} {X : Nat} {D : DumpV} (h : IxD w X D) (ht : Turned [] w w') : IxD w' X D := by
  obtain ⟨m1, m2, m3, m4, m5, mb, mh, h⟩ := h
  exact ⟨m1, m2, m3, m4, m5, mb, mh, h.kept ht (by simp) (by simp) (by simp) (by simp) (by simp) (by simp)⟩

theorem indexed_d {w : World} {D : DumpV} (hD : RDump w D) (hc : Cut D) : Calls Try.prog 44 #[D.v] w fun e w' => ∃ X, e = .returned (.pointer (some ⟨X, 0, none⟩)) ∧ Turned [] w w' ∧ IxD w' X D :=
  (indexed_any hD (by have := hc.socks; omega) (by have := hc.held; omega)).mono (by
    rintro e w' ⟨X, m1, m2, m3, m4, m5, mb, mh, he, ht, hi, _⟩
    exact ⟨X, he, ht, m1, m2, m3, m4, m5, mb, mh, hi⟩)

/-- What has been gathered of the changes, so far: things of kinds up to k. -/
structure Acc (V w : World) (v : Value) (l : List Ob) (k : Int) (n : Nat) (P : Ob → Prop) : Prop where
  own : OwnL w V.heap.size v l
  t : Turned [] V w
  nd : l.Nodup
  len : l.length ≤ n
  kd : ∀ o ∈ l, o.1 ≤ k
  mem : ∀ o, o ∈ l ↔ P o

theorem Acc.first {V wc w2 : World} {v : Value} {l : List Ob} {k : Int} {n : Nat} {Q : Int → Prop} (ht : Turned [] V wc) (ho : OwnL w2 wc.heap.size v l) (ht2 : Turned [] wc w2) (hnd : l.Nodup)
    (hlen : l.length ≤ n) (hmem : ∀ o, o ∈ l ↔ I64 o.2 ∧ o.1 = k ∧ Q o.2) (hQ : ∀ x, Q x → I64 x) : Acc V w2 v l k n (fun o => o.1 = k ∧ Q o.2) :=
  ⟨ho.mono ht.size, ht.trans ht2, hnd, hlen, fun o h => by have := ((hmem o).1 h).2.1; omega, fun o => (hmem o).trans ⟨fun h => h.2, fun h => ⟨hQ _ h.2, h⟩⟩⟩

theorem Acc.more {V wc w2 w3 : World} {v v3 : Value} {l l2 : List Ob} {k k2 : Int} {n m : Nat} {P : Ob → Prop} {Q : Int → Prop} (h : Acc V wc v l k n P) (ht2 : Turned [] wc w2) (hnd : l2.Nodup)
    (hlen : l2.length ≤ m) (hmem : ∀ o, o ∈ l2 ↔ I64 o.2 ∧ o.1 = k2 ∧ Q o.2) (hQ : ∀ x, Q x → I64 x) (ho3 : OwnL w3 V.heap.size v3 (l ++ l2)) (hg : w2.grownBy w3 v.ownBlock) (hk : k < k2) : Acc V w3 v3 (l ++ l2) k2 (n + m) (fun o => P o ∨ o.1 = k2 ∧ Q o.2) := by
  have hown := h.own.keep ht2
  have t3 : Turned [] V w3 := (h.t.trans ht2).list hown hg (Nat.le_refl _)
  refine ⟨ho3, t3, List.nodup_append.2 ⟨h.nd, hnd, fun a ha b hb e => ?_⟩, by have := h.len; simp; omega, fun o ho => ?_, fun o => ?_⟩
  · have := h.kd a ha
    have := ((hmem b).1 hb).2.1
    rw [e] at *; omega
  · rcases List.mem_append.1 ho with ho | ho
    · have := h.kd o ho; omega
    · have := ((hmem o).1 ho).2.1; omega
  · rw [List.mem_append, h.mem, hmem]
    exact or_congr Iff.rfl ⟨fun h => h.2, fun h => ⟨hQ _ h.2, h⟩⟩

set_option maxRecDepth 100000 in
set_option maxHeartbeats 4000000 in
theorem effects_any {w : World} {D E : DumpV} (hD : RDump w D) (hE : RDump w E) (hcD : Cut D) (hcE : Cut E) :
    Calls Try.prog 32 #[D.v, E.v] w fun e w' => ∃ v l, e = .returned v ∧ Srt l ∧ OwnL w' w.heap.size v l ∧ Turned [] w w' ∧ l.length ≤ 36 ∧ ∀ o, o ∈ l ↔ EffT D E o := by
  have HD := Lib.hid hD
  have HE := Lib.hid hE
  have HCD := Lib.hid hcD
  have HCE := Lib.hid hcE
  clear hD hE hcD hcE
  have hmf : ∀ (fn : Fn) (first cap : Array Value) (w : World), (Instr.makeFunc fn first cap).run Try.prog w = .ok (.func fn first cap) w := fun _ _ _ _ => rfl
  simp only [DumpV.v, DumpV.cells, Sl.v]
  go_enter Try.func32, Try.ntmps32
  go_wp2
  have hb1 : (w.alloc (.cells D.cells.toArray 48 (0, 0))).heap[w.heap.size]? = some (.cells D.cells.toArray 48 (0, 0)) := heap_alloc_new _ _
  have hb2 : ((w.alloc (.cells D.cells.toArray 48 (0, 0))).alloc (.cells E.cells.toArray 48 (0, 0))).heap[w.heap.size + 1]? = some (.cells E.cells.toArray 48 (0, 0)) := by
    have := heap_alloc_new (w.alloc (.cells D.cells.toArray 48 (0, 0))) (.cells E.cells.toArray 48 (0, 0))
    simpa using this
  generalize hW0 : World.alloc (World.alloc w _) _ = W
  have hW : W = (w.alloc (.cells D.cells.toArray 48 (0, 0))).alloc (.cells E.cells.toArray 48 (0, 0)) := hW0.symm
  clear hW0
  have hb3 := ((Turned.refl [] (w.alloc (.cells D.cells.toArray 48 (0, 0)))).alloc (.cells E.cells.toArray 48 (0, 0))).keep hb1 (by simp)
  rw [← hW] at hb2 hb3
  have HB1 := Lib.hid hb3
  have HB2 := Lib.hid hb2
  have HTW := Lib.hid (show Turned [] w W by rw [hW]; exact ((Turned.refl _ _).alloc _).alloc _)
  have HCA : Hid (∀ w1, Turned [] W w1 → Calls Try.prog 44 #[D.v] w1 fun e w' => ∃ X, e = .returned (.pointer (some ⟨X, 0, none⟩)) ∧ Turned [] w1 w' ∧ IxD w' X D) := Lib.hid fun w1 h => indexed_d (HD.out.stays (HTW.out.trans h)) HCD.out
  have HCB : Hid (∀ w1, Turned [] W w1 → Calls Try.prog 44 #[E.v] w1 fun e w' => ∃ X, e = .returned (.pointer (some ⟨X, 0, none⟩)) ∧ Turned [] w1 w' ∧ IxD w' X E) := Lib.hid fun w1 h => indexed_d (HE.out.stays (HTW.out.trans h)) HCE.out
  clear hb1 hb2 hb3 hW
  simp only [DumpV.v, DumpV.cells, Sl.v] at HCA HCB
  go_cut [5, 6] (fun s5 s6 wx => ∃ X Y, s5 = .pointer (some ⟨X, 0, none⟩) ∧ s6 = .pointer (some ⟨Y, 0, none⟩) ∧ Turned [] W wx ∧ IxD wx X D ∧ IxD wx Y E)
  case first =>
    obtain ⟨d0, d1, d2, d3, d4, d5, d6, d7, d8, d9, d10, d11⟩ := box_cells HB1.out
    obtain ⟨e0, e1, e2, e3, e4, e5, e6, e7, e8, e9, e10, e11⟩ := box_cells HB2.out
    simp only [Sl.v] at d0 d1 d2 d3 d4 d5 d6 e0 e1 e2 e3 e4 e5 e6
    go_region_with (first
      | (go_at_call_of 44 (D.procs.len); have hq := HTB; refine (HCA.out _ HTB.out).mono ?_; rintro e w2 ⟨X, rfl, ht2, hix⟩; have HTA := Lib.hid (HTB.out.trans ht2); have HIA := Lib.hid hix; have HIB2 := Lib.hid (HIB.out.keep ht2); clear ht2 hix)
      | (go_at_call_of 44 (D.procs.len); refine (HCA.out (W.drewN 1) ((Turned.refl [] W).drewN 1)).mono ?_; rintro e w1 ⟨X, rfl, ht2, hix⟩; have HTA := Lib.hid (((Turned.refl [] W).drewN 1).trans ht2); have HIA := Lib.hid hix; clear ht2 hix; clear e0 e1 e2 e3 e4 e5 e6 e7 e8 e9 e10 e11; obtain ⟨e0, e1, e2, e3, e4, e5, e6, e7, e8, e9, e10, e11⟩ := box_cells (HTA.out.keep HB2.out (by simp)); simp only [Sl.v] at e0 e1 e2 e3 e4 e5 e6)
      | (go_at_call_of 44 (E.procs.len); have hq := HTA; refine (HCB.out _ HTA.out).mono ?_; rintro e w2 ⟨Y, rfl, ht2, hix⟩; have HTB := Lib.hid (HTA.out.trans ht2); have HIB := Lib.hid hix; have HIA2 := Lib.hid (HIA.out.keep ht2); clear ht2 hix)
      | (go_at_call_of 44 (E.procs.len); refine (HCB.out (W.drewN 1) ((Turned.refl [] W).drewN 1)).mono ?_; rintro e w1 ⟨Y, rfl, ht2, hix⟩; have HTB := Lib.hid (((Turned.refl [] W).drewN 1).trans ht2); have HIB := Lib.hid hix; clear ht2 hix; clear d0 d1 d2 d3 d4 d5 d6 d7 d8 d9 d10 d11; obtain ⟨d0, d1, d2, d3, d4, d5, d6, d7, d8, d9, d10, d11⟩ := box_cells (HTB.out.keep HB1.out (by simp)); simp only [Sl.v] at d0 d1 d2 d3 d4 d5 d6))
    all_goals (go_wp2_with fail; go_meet; first | exact ⟨_, _, rfl, rfl, HTA.out, HIA.out, HIB2.out⟩ | exact ⟨_, _, rfl, rfl, HTB.out, HIA2.out, HIB.out⟩)
  case rest =>
  obtain ⟨X, Y, rfl, rfl, ht, ix, iy⟩ := hcut
  obtain ⟨V, hV⟩ : ∃ V : World, V = wc := ⟨_, rfl⟩
  have HIX := Lib.hid (show IxD V X D by rw [hV]; exact ix)
  have HIY := Lib.hid (show IxD V Y E by rw [hV]; exact iy)
  have HTV := Lib.hid (show Turned [] W V by rw [hV]; exact ht)
  have HT := Lib.hid (show Turned [] V wc by rw [hV]; exact Turned.refl _ _)
  clear ht ix iy hV HCA HCB
  -- inode
  go_upto_region 2 with fail
  go_cut [7] (fun s7 wx => ∃ l, Acc V wx s7 l 1 (12) (fun o => (o.1 = 1 ∧ Chg D.inodeIds E.inodeIds (sameIno D E) o.2)))
  case first =>
    have HTC := Lib.hid ((HT.out).drewN 1)
    obtain ⟨m1, m2, m3, m4, m5, mb, mh, hx0⟩ := HIX.out
    obtain ⟨k1, k2, k3, k4, k5, kb, kh, hy0⟩ := HIY.out
    have HV1 := Lib.hid (show V.cell? ⟨X, 16, none⟩ = some (.map (some m5)) from block_cell hx0.idx rfl)
    have HV2 := Lib.hid (show V.cell? ⟨Y, 16, none⟩ = some (.map (some k5)) from block_cell hy0.idx rfl)
    have hx := hx0.kept HTC.out (by simp) (by simp) (by simp) (by simp) (by simp) (by simp)
    have hy := hy0.kept HTC.out (by simp) (by simp) (by simp) (by simp) (by simp) (by simp)
    have hc1 : wc.cell? ⟨X, 16, none⟩ = some (.map (some m5)) := block_cell (w := wc.drewN 1) hx.idx rfl
    have hc2 : wc.cell? ⟨Y, 16, none⟩ = some (.map (some k5)) := block_cell (w := wc.drewN 1) hy.idx rfl
    have hch := changed_46 (w := wc.drewN 1) (kind := 1) hx.p5 hy.p5 (by have := HD.out.inodes.n; have := HCD.out.inodes; simp [DumpV.inodeIds]; omega)
      (cl_46 (HD.out.stays (HTW.out.trans (HTV.out.trans HTC.out))) (HE.out.stays (HTW.out.trans (HTV.out.trans HTC.out))) ((HTV.out.trans HTC.out).keep HB1.out (by simp)) ((HTV.out.trans HTC.out).keep HB2.out (by simp)))
    have HCH := Lib.hid hch
    have HL := Lib.hid (show D.inodeIds.length ≤ 12 by have := HD.out.inodes.n; have := HCD.out.inodes; simp [DumpV.inodeIds]; omega)
    clear hch hx hy hx0 hy0
    go_region_with (go_at_call 45; refine HCH.out.mono ?_; rintro e w2 ⟨v, l, rfl, ho, ht2, hnd, hlen, hmem⟩; have HA := Lib.hid (Acc.first HTC.out ho ht2 hnd (Nat.le_trans hlen HL.out) hmem (fun o h => h.elim (fun i hi => ids_inode HD.out _ (ix_mem hi.1)))); clear ho ht2 hnd hlen hmem)
    all_goals (go_wp2_with fail; go_meet; exact ⟨_, HA.out⟩)
  case rest =>
  obtain ⟨l1, ha⟩ := hcut
  have HA := Lib.hid ha
  clear ha HT
  -- pipe
  go_upto_region 3 with fail
  go_cut [7] (fun s7 wx => ∃ l, Acc V wx s7 l 5 (12 + 8) (fun o => ((o.1 = 1 ∧ Chg D.inodeIds E.inodeIds (sameIno D E) o.2)) ∨ (o.1 = 5 ∧ Chg D.pipeIds E.pipeIds (samePipe D E) o.2)))
  case first =>
    have HTC := Lib.hid ((HA.out.t).drewN 1)
    obtain ⟨m1, m2, m3, m4, m5, mb, mh, hx0⟩ := HIX.out
    obtain ⟨k1, k2, k3, k4, k5, kb, kh, hy0⟩ := HIY.out
    have HV1 := Lib.hid (show V.cell? ⟨X, 14, none⟩ = some (.map (some m3)) from block_cell hx0.idx rfl)
    have HV2 := Lib.hid (show V.cell? ⟨Y, 14, none⟩ = some (.map (some k3)) from block_cell hy0.idx rfl)
    have hx := hx0.kept HTC.out (by simp) (by simp) (by simp) (by simp) (by simp) (by simp)
    have hy := hy0.kept HTC.out (by simp) (by simp) (by simp) (by simp) (by simp) (by simp)
    have hc1 : wc.cell? ⟨X, 14, none⟩ = some (.map (some m3)) := block_cell (w := wc.drewN 1) hx.idx rfl
    have hc2 : wc.cell? ⟨Y, 14, none⟩ = some (.map (some k3)) := block_cell (w := wc.drewN 1) hy.idx rfl
    have hch := changed_48 (w := wc.drewN 1) (kind := 5) hx.p3 hy.p3 (by have := HD.out.pipes.n; have := HCD.out.pipes; simp [DumpV.pipeIds]; omega)
      (cl_48 (HD.out.stays (HTW.out.trans (HTV.out.trans HTC.out))) (HE.out.stays (HTW.out.trans (HTV.out.trans HTC.out))) ((HTV.out.trans HTC.out).keep HB1.out (by simp)) ((HTV.out.trans HTC.out).keep HB2.out (by simp)))
    have HCH := Lib.hid hch
    have HL := Lib.hid (show D.pipeIds.length ≤ 8 by have := HD.out.pipes.n; have := HCD.out.pipes; simp [DumpV.pipeIds]; omega)
    clear hch hx hy hx0 hy0
    have hwc := HA.out.t.size
    go_region_held3 (fun w' => w'.cell? ⟨X, 14, none⟩ = some (.map (some m3)) ∧ w'.cell? ⟨Y, 14, none⟩ = some (.map (some k3)))
      (first | go_keep | (go_split_ands; exact ⟨HA3.out.t.cell HV1.out (by simp), HA3.out.t.cell HV2.out (by simp)⟩) | (go_split_ands; exact ⟨HT2.out.cell hc1 (by simp), HT2.out.cell hc2 (by simp)⟩))
      (first
      | (go_at_call 45; refine HCH.out.mono ?_; rintro e w2 ⟨v, l, rfl, ho, ht2, hnd, hlen, hmem⟩; have HO := Lib.hid ho; have HT2 := Lib.hid (((Turned.refl [] wc).drewN 1).trans ht2); have HND := Lib.hid hnd; have HLEN := Lib.hid (Nat.le_trans hlen HL.out); have HMEM := Lib.hid hmem; clear ho ht2 hnd hlen hmem)
      | (refine step_append_list (by rfl) _ _ (by rfl) (by rfl) (HA.out.own.keep HT2.out) (by rfl) HO.out (by have := HA.out.len; have := HLEN.out; omega) (by have := HT2.out.size; omega) ?_; intro v3 w3 ho3 hg3; have HA3 := Lib.hid (HA.out.more HT2.out HND.out HLEN.out HMEM.out (fun o h => h.elim (fun i hi => ids_pipe HD.out _ (ix_mem hi.1))) ho3 hg3 (by omega)); clear ho3 hg3))
    all_goals (go_wp2_with fail; go_meet; exact ⟨_, HA3.out⟩)
  case rest =>
  obtain ⟨l2, ha⟩ := hcut
  clear HA
  have HA := Lib.hid ha
  clear ha
  -- sock
  go_upto_region 4 with fail
  go_cut [7] (fun s7 wx => ∃ l, Acc V wx s7 l 6 (12 + 8 + 8) (fun o => (((o.1 = 1 ∧ Chg D.inodeIds E.inodeIds (sameIno D E) o.2)) ∨ (o.1 = 5 ∧ Chg D.pipeIds E.pipeIds (samePipe D E) o.2)) ∨ (o.1 = 6 ∧ Chg D.sockIds E.sockIds (sameSock D E) o.2)))
  case first =>
    have HTC := Lib.hid ((HA.out.t).drewN 1)
    obtain ⟨m1, m2, m3, m4, m5, mb, mh, hx0⟩ := HIX.out
    obtain ⟨k1, k2, k3, k4, k5, kb, kh, hy0⟩ := HIY.out
    have HV1 := Lib.hid (show V.cell? ⟨X, 15, none⟩ = some (.map (some m4)) from block_cell hx0.idx rfl)
    have HV2 := Lib.hid (show V.cell? ⟨Y, 15, none⟩ = some (.map (some k4)) from block_cell hy0.idx rfl)
    have hx := hx0.kept HTC.out (by simp) (by simp) (by simp) (by simp) (by simp) (by simp)
    have hy := hy0.kept HTC.out (by simp) (by simp) (by simp) (by simp) (by simp) (by simp)
    have hc1 : wc.cell? ⟨X, 15, none⟩ = some (.map (some m4)) := block_cell (w := wc.drewN 1) hx.idx rfl
    have hc2 : wc.cell? ⟨Y, 15, none⟩ = some (.map (some k4)) := block_cell (w := wc.drewN 1) hy.idx rfl
    have hch := changed_49 (w := wc.drewN 1) (kind := 6) hx.p4 hy.p4 (by have := HD.out.socks.n; have := HCD.out.socks; simp [DumpV.sockIds]; omega)
      (cl_49 (HD.out.stays (HTW.out.trans (HTV.out.trans HTC.out))) (HE.out.stays (HTW.out.trans (HTV.out.trans HTC.out))) ((HTV.out.trans HTC.out).keep HB1.out (by simp)) ((HTV.out.trans HTC.out).keep HB2.out (by simp)))
    have HCH := Lib.hid hch
    have HL := Lib.hid (show D.sockIds.length ≤ 8 by have := HD.out.socks.n; have := HCD.out.socks; simp [DumpV.sockIds]; omega)
    clear hch hx hy hx0 hy0
    have hwc := HA.out.t.size
    go_region_held3 (fun w' => w'.cell? ⟨X, 15, none⟩ = some (.map (some m4)) ∧ w'.cell? ⟨Y, 15, none⟩ = some (.map (some k4)))
      (first | go_keep | (go_split_ands; exact ⟨HA3.out.t.cell HV1.out (by simp), HA3.out.t.cell HV2.out (by simp)⟩) | (go_split_ands; exact ⟨HT2.out.cell hc1 (by simp), HT2.out.cell hc2 (by simp)⟩))
      (first
      | (go_at_call 45; refine HCH.out.mono ?_; rintro e w2 ⟨v, l, rfl, ho, ht2, hnd, hlen, hmem⟩; have HO := Lib.hid ho; have HT2 := Lib.hid (((Turned.refl [] wc).drewN 1).trans ht2); have HND := Lib.hid hnd; have HLEN := Lib.hid (Nat.le_trans hlen HL.out); have HMEM := Lib.hid hmem; clear ho ht2 hnd hlen hmem)
      | (refine step_append_list (by rfl) _ _ (by rfl) (by rfl) (HA.out.own.keep HT2.out) (by rfl) HO.out (by have := HA.out.len; have := HLEN.out; omega) (by have := HT2.out.size; omega) ?_; intro v3 w3 ho3 hg3; have HA3 := Lib.hid (HA.out.more HT2.out HND.out HLEN.out HMEM.out (fun o h => h.elim (fun i hi => ids_sock HD.out _ (ix_mem hi.1))) ho3 hg3 (by omega)); clear ho3 hg3))
    all_goals (go_wp2_with fail; go_meet; exact ⟨_, HA3.out⟩)
  case rest =>
  obtain ⟨l3, ha⟩ := hcut
  clear HA
  have HA := Lib.hid ha
  clear ha
  -- proc
  go_upto_region 5 with fail
  go_cut [7] (fun s7 wx => ∃ l, Acc V wx s7 l 7 (12 + 8 + 8 + 8) (fun o => ((((o.1 = 1 ∧ Chg D.inodeIds E.inodeIds (sameIno D E) o.2)) ∨ (o.1 = 5 ∧ Chg D.pipeIds E.pipeIds (samePipe D E) o.2)) ∨ (o.1 = 6 ∧ Chg D.sockIds E.sockIds (sameSock D E) o.2)) ∨ (o.1 = 7 ∧ Chg D.procIds E.procIds (sameProc D E) o.2)))
  case first =>
    have HTC := Lib.hid ((HA.out.t).drewN 1)
    obtain ⟨m1, m2, m3, m4, m5, mb, mh, hx0⟩ := HIX.out
    obtain ⟨k1, k2, k3, k4, k5, kb, kh, hy0⟩ := HIY.out
    have HV1 := Lib.hid (show V.cell? ⟨X, 12, none⟩ = some (.map (some m1)) from block_cell hx0.idx rfl)
    have HV2 := Lib.hid (show V.cell? ⟨Y, 12, none⟩ = some (.map (some k1)) from block_cell hy0.idx rfl)
    have hx := hx0.kept HTC.out (by simp) (by simp) (by simp) (by simp) (by simp) (by simp)
    have hy := hy0.kept HTC.out (by simp) (by simp) (by simp) (by simp) (by simp) (by simp)
    have hc1 : wc.cell? ⟨X, 12, none⟩ = some (.map (some m1)) := block_cell (w := wc.drewN 1) hx.idx rfl
    have hc2 : wc.cell? ⟨Y, 12, none⟩ = some (.map (some k1)) := block_cell (w := wc.drewN 1) hy.idx rfl
    have hch := changed_51 (w := wc.drewN 1) (kind := 7) hx.p1 hy.p1 (by have := HD.out.procs.n; have := HCD.out.procs; simp [DumpV.procIds]; omega)
      (cl_51 (HD.out.stays (HTW.out.trans (HTV.out.trans HTC.out))) (HE.out.stays (HTW.out.trans (HTV.out.trans HTC.out))) ((HTV.out.trans HTC.out).keep HB1.out (by simp)) ((HTV.out.trans HTC.out).keep HB2.out (by simp)))
    have HCH := Lib.hid hch
    have HL := Lib.hid (show D.procIds.length ≤ 8 by have := HD.out.procs.n; have := HCD.out.procs; simp [DumpV.procIds]; omega)
    clear hch hx hy hx0 hy0
    have hwc := HA.out.t.size
    go_region_held3 (fun w' => w'.cell? ⟨X, 12, none⟩ = some (.map (some m1)) ∧ w'.cell? ⟨Y, 12, none⟩ = some (.map (some k1)))
      (first | go_keep | (go_split_ands; exact ⟨HA3.out.t.cell HV1.out (by simp), HA3.out.t.cell HV2.out (by simp)⟩) | (go_split_ands; exact ⟨HT2.out.cell hc1 (by simp), HT2.out.cell hc2 (by simp)⟩))
      (first
      | (go_at_call 45; refine HCH.out.mono ?_; rintro e w2 ⟨v, l, rfl, ho, ht2, hnd, hlen, hmem⟩; have HO := Lib.hid ho; have HT2 := Lib.hid (((Turned.refl [] wc).drewN 1).trans ht2); have HND := Lib.hid hnd; have HLEN := Lib.hid (Nat.le_trans hlen HL.out); have HMEM := Lib.hid hmem; clear ho ht2 hnd hlen hmem)
      | (refine step_append_list (by rfl) _ _ (by rfl) (by rfl) (HA.out.own.keep HT2.out) (by rfl) HO.out (by have := HA.out.len; have := HLEN.out; omega) (by have := HT2.out.size; omega) ?_; intro v3 w3 ho3 hg3; have HA3 := Lib.hid (HA.out.more HT2.out HND.out HLEN.out HMEM.out (fun o h => h.elim (fun i hi => ids_proc HD.out _ (ix_mem hi.1))) ho3 hg3 (by omega)); clear ho3 hg3))
    all_goals (go_wp2_with fail; go_meet; exact ⟨_, HA3.out⟩)
  case rest =>
  obtain ⟨l4, ha⟩ := hcut
  clear HA
  have HA := Lib.hid ha
  clear ha
  have HEQ := Lib.hid (show ∀ o, o ∈ l4 ↔ EffT D E o from fun o => by rw [HA.out.mem o]; unfold EffT; rw [or_assoc, or_assoc])
  have HOR := Lib.hid (order_any HA.out.own (fun o ho => EffT.wf HD.out ((HEQ.out o).1 ho)) HA.out.nd (by have := HA.out.len; omega))
  go_wp2_with fail
  refine HOR.out.mono ?_
  rintro e w5 ⟨rfl, l5, hp, hs, ho, ht5⟩
  have HP := Lib.hid hp
  have HS := Lib.hid hs
  have HO := Lib.hid ho
  have HT5 := Lib.hid ht5
  clear hp hs ho ht5
  go_wp2
  go_ret
  have hwV : w.heap.size ≤ V.heap.size := Nat.le_trans HTW.out.size HTV.out.size
  refine ⟨_, l5, rfl, HS.out, HO.out.mono hwV, ((HTW.out.trans HTV.out).trans HA.out.t).step HT5.out (fun i hi => .inr ?_), by rw [HP.out.length_eq]; have := HA.out.len; omega, fun o => (HP.out.mem_iff).trans (HEQ.out o)⟩
  have := (World.ownsRow.lt HA.out.own i (by simpa using hi)).1
  omega
end Go.Proofs.Yteaglbfodeineaa
