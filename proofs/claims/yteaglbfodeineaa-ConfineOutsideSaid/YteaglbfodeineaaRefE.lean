/-
  What has changed, as the reference gathers it: the walk.
-/
import Derived.Test.YteaglbfodeineaaSameT
namespace Go.Proofs.Yteaglbfodeineaa
open Go.RowKit

set_option maxRecDepth 100000 in
set_option maxHeartbeats 8000000 in
theorem ref_effects {w : World} {D E : DumpV} (hD : RDump w D) (hE : RDump w E) (hcD : Cut D) :
    Calls Try.prog 25 #[D.v, E.v] w fun e w' => ∃ t : Sl Ob, e = .returned (.slice t.a t.len t.cap) ∧ Ord w' t ∧ Turned [] w w' ∧ t.len ≤ 36 ∧ ∀ o, o ∈ t.xs ↔ EffT D E o := by
  have HD := Lib.hid hD
  have HE := Lib.hid hE
  have n1 := hcD.inodes
  have n2 := hcD.pipes
  have n3 := hcD.socks
  have n4 := hcD.procs
  have m1 := hD.inodes.n
  have m2 := hD.pipes.n
  have m3 := hD.socks.n
  have m4 := hD.procs.n
  have l1 := hD.inodes.lc
  have l2 := hD.pipes.lc
  have l3 := hD.socks.lc
  have l4 := hD.procs.lc
  have c1 := hD.inodes.cm
  have c2 := hD.pipes.cm
  have c3 := hD.socks.cm
  have c4 := hD.procs.cm
  have l1' := hE.inodes.lc
  have l2' := hE.pipes.lc
  have l3' := hE.socks.lc
  have l4' := hE.procs.lc
  have c1' := hE.inodes.cm
  have c2' := hE.pipes.cm
  have c3' := hE.socks.cm
  have c4' := hE.procs.cm
  unfold maxLen at c1 c2 c3 c4 c1' c2' c3' c4'
  clear hcD hD
  simp only [DumpV.v, DumpV.cells, Sl.v]
  go_enter Try.func25, Try.ntmps25
  go_wp2
  obtain ⟨W, hW⟩ : ∃ W, W = ((w.alloc (.cells D.cells.toArray 48 (0, 0))).alloc (.cells E.cells.toArray 48 (0, 0))).alloc (.cells #[] 70 (0, 0)) := ⟨_, rfl⟩
  have HE0 := Lib.hid (show EAt w W D E 0 ⟨some ⟨w.heap.size + 1 + 1, 0, none⟩, 0, 0, []⟩ (fun _ => False) by rw [hW]; exact EAt.start)
  simp only [DumpV.cells, Sl.v] at hW
  rw [← hW]
  clear hW
  go_loopw [5, 6] (fun v iv wr => ∃ (k : Nat) (t : Sl Ob), k ≤ D.inodes.len ∧ iv = .int .i64 k ∧ v = .slice t.a t.len t.cap ∧ EAt w wr D E k t (fun o => False ∨ o.1 = 1 ∧ ChgK D.inodeIds E.inodeIds (sameIno D E) k o.2)) (fun _ iv _ => D.inodes.len - (intOf iv).toNat)
  case atStart => exact ⟨0, ⟨some ⟨w.heap.size + 1 + 1, 0, none⟩, 0, 0, []⟩, by omega, rfl, rfl, HE0.out.iff (Nat.le_refl _) chg_none⟩
  case round =>
    obtain ⟨k, t, hk, rfl, rfl, hm⟩ := hrel
    have HM := Lib.hid hm
    clear hm HE0
    obtain ⟨-, -, -, -, -, -, d6, -⟩ := box_cells HM.out.box1
    simp only [Sl.v] at d6
    by_cases hlt : k < D.inodes.len
    · as_aux_lemma =>
      obtain ⟨x, hx⟩ : ∃ x, D.inodes.xs[k]? = some x := ⟨D.inodes.xs[k]'(by omega), by simp⟩
      obtain ⟨b, o, hab, c0, c1, c2, c3, c4, c5, c6, c7, c8, hiw, hr1, hr2⟩ := inode_cells ((HD.out.stays HM.out.tw).inodes.at_ k x hx)
      simp only [Sl.v] at c7 c8
      have HAB := Lib.hid hab
      rw [hab] at d6
      have HX := Lib.hid hx
      have HIW := Lib.hid hiw
      have HR1 := Lib.hid hr1
      have HR2 := Lib.hid hr2
      have HFI := Lib.hid (show D.inodeIds[k]? = some x.ino by unfold DumpV.inodeIds; rw [List.getElem?_map, hx]; rfl)
      obtain ⟨k0, hk0⟩ := ix_of HFI.out
      have HK0 := Lib.hid hk0
      have HPE : Hid (∀ w1, Turned [] wr w1 → Calls Try.prog 33 #[E.v, .int .i64 x.ino] w1 fun e w' => e = .returned (.int .i64 (ixv (ixOf E.inodeIds x.ino))) ∧ Turned [] w1 w') := Lib.hid fun w1 h => place_inode (HE.out.stays (HM.out.tw.trans h))
      have HPD : Hid (∀ w1, Turned [] wr w1 → Calls Try.prog 33 #[D.v, .int .i64 x.ino] w1 fun e w' => e = .returned (.int .i64 (k0 : Int)) ∧ Turned [] w1 w') := Lib.hid fun w1 h => by
        have h1 := place_inode (id := x.ino) (HD.out.stays (HM.out.tw.trans h))
        rwa [show ixOf (D.inodes.xs.map InodeV.ino) x.ino = some k0 from HK0.out] at h1
      simp only [DumpV.v, DumpV.cells, Sl.v] at HPE HPD
      rw [hab] at HPD
      clear hx hab hiw hr1 hr2 hk0
      obtain ⟨f0, f1, f2, f3, f4, f5, f6, f7, f8, f9, f10, f11⟩ := box_cells HM.out.box2
      simp only [Sl.v] at f0 f1 f2 f3 f4 f5 f6
      have hBl : w.heap.size + 1 < wr.heap.size := lt_of_heap HM.out.box2
      have hBn : ¬ w.heap.size + 1 = wr.heap.size := by omega
      go_wp2_with fail
      generalize hV : World.alloc wr _ = V
      have HTV := Lib.hid (show Turned [] wr V by rw [← hV]; exact (Turned.refl _ _).alloc _)
      have HPB := Lib.hid (show V.heap[wr.heap.size]? = some (.cells #[.int .i64 x.ino, .int .i64 x.kind, .int .i64 x.links, .int .i64 x.holds, .int .i64 x.parent, .string x.text, .int .i64 x.blocks, .slice x.names.a x.names.len x.names.cap, .slice x.inos.a x.inos.len x.inos.cap] 87 (0, 0)) by rw [← hV]; exact heap_alloc_new _ _)
      refine (HPE.out _ HTV.out).mono ?_
      rintro e w1 ⟨rfl, ht1⟩
      have HT1 := Lib.hid (HTV.out.trans ht1)
      have HB1 := Lib.hid (ht1.keep HPB.out (by simp))
      clear ht1 hV f0 f1 f2 f3 f4 f5 f6 f7 f8 f9 f10 f11 c0 c1 c2 c3 c4 c5 c6 c7 c8 d6 HTV HPB hBl hBn
      have HBX1 := Lib.hid (HT1.out.keep HM.out.box1 (by simp))
      have HBX2 := Lib.hid (HT1.out.keep HM.out.box2 (by simp))
      have a0 : ∀ p : TBy w1, p.w.cell? ⟨w.heap.size, 0, none⟩ = some (.slice D.procs.a D.procs.len D.procs.cap) := fun p => p.t.cell (block_cell HBX1.out rfl) (by simp)
      have a1 : ∀ p : TBy w1, p.w.cell? ⟨w.heap.size, 1, none⟩ = some (.slice D.held.a D.held.len D.held.cap) := fun p => p.t.cell (block_cell HBX1.out rfl) (by simp)
      have a2 : ∀ p : TBy w1, p.w.cell? ⟨w.heap.size, 2, none⟩ = some (.slice D.parks.a D.parks.len D.parks.cap) := fun p => p.t.cell (block_cell HBX1.out rfl) (by simp)
      have a3 : ∀ p : TBy w1, p.w.cell? ⟨w.heap.size, 3, none⟩ = some (.slice D.files.a D.files.len D.files.cap) := fun p => p.t.cell (block_cell HBX1.out rfl) (by simp)
      have a4 : ∀ p : TBy w1, p.w.cell? ⟨w.heap.size, 4, none⟩ = some (.slice D.pipes.a D.pipes.len D.pipes.cap) := fun p => p.t.cell (block_cell HBX1.out rfl) (by simp)
      have a5 : ∀ p : TBy w1, p.w.cell? ⟨w.heap.size, 5, none⟩ = some (.slice D.socks.a D.socks.len D.socks.cap) := fun p => p.t.cell (block_cell HBX1.out rfl) (by simp)
      have a6 : ∀ p : TBy w1, p.w.cell? ⟨w.heap.size, 6, none⟩ = some (.slice (some ⟨b, o, none⟩) D.inodes.len D.inodes.cap) := fun p => p.t.cell (by rw [← HAB.out]; exact block_cell HBX1.out rfl) (by simp)
      have a7 : ∀ p : TBy w1, p.w.cell? ⟨w.heap.size, 7, none⟩ = some (.int .i64 D.n0) := fun p => p.t.cell (block_cell HBX1.out rfl) (by simp)
      have a8 : ∀ p : TBy w1, p.w.cell? ⟨w.heap.size, 8, none⟩ = some (.int .i64 D.n1) := fun p => p.t.cell (block_cell HBX1.out rfl) (by simp)
      have a9 : ∀ p : TBy w1, p.w.cell? ⟨w.heap.size, 9, none⟩ = some (.int .i64 D.n2) := fun p => p.t.cell (block_cell HBX1.out rfl) (by simp)
      have a10 : ∀ p : TBy w1, p.w.cell? ⟨w.heap.size, 10, none⟩ = some (.int .i64 D.n3) := fun p => p.t.cell (block_cell HBX1.out rfl) (by simp)
      have a11 : ∀ p : TBy w1, p.w.cell? ⟨w.heap.size, 11, none⟩ = some (.int .i64 D.n4) := fun p => p.t.cell (block_cell HBX1.out rfl) (by simp)
      have p0 : ∀ p : TBy w1, p.w.cell? ⟨wr.heap.size, 0, none⟩ = some (.int .i64 x.ino) := fun p => p.t.cell (block_cell HB1.out rfl) (by simp)
      have p1 : ∀ p : TBy w1, p.w.cell? ⟨wr.heap.size, 1, none⟩ = some (.int .i64 x.kind) := fun p => p.t.cell (block_cell HB1.out rfl) (by simp)
      have p5 : ∀ p : TBy w1, p.w.cell? ⟨wr.heap.size, 5, none⟩ = some (.string x.text) := fun p => p.t.cell (block_cell HB1.out rfl) (by simp)
      have p7 : ∀ p : TBy w1, p.w.cell? ⟨wr.heap.size, 7, none⟩ = some (.slice x.names.a x.names.len x.names.cap) := fun p => p.t.cell (block_cell HB1.out rfl) (by simp)
      have p8 : ∀ p : TBy w1, p.w.cell? ⟨wr.heap.size, 8, none⟩ = some (.slice x.inos.a x.inos.len x.inos.cap) := fun p => p.t.cell (block_cell HB1.out rfl) (by simp)
      have HP0 := Lib.hid p0
      have HPD1 : Hid (∀ p : TBy w1, _) := Lib.hid fun p => HPD.out p.w (HT1.out.trans p.t)
      by_cases hkk : k0 = k
      · obtain rfl : k = k0 := hkk.symm
        clear hkk
        have HCK := Lib.hid HK0.out
        have kk : ((k : Int) == (k : Int)) = true := by simp
        cases hj : ixOf E.inodeIds x.ino with
        | none =>
          have HJ := Lib.hid hj
          have hm1 : ixv none = -1 := rfl
          rw [hm1]
          clear hj hm1
          go_wp2
          refine wp_region_turned (by kernel_rfl) (by kernel_rfl) ?_
          repeat (go_big_quiet_step ((go_at_call 33; exact Calls.tby (HPD1.out _))))
          refine wpQuiet_nil ?_
          intro wq hw'
          have HQ := Lib.hid (show Turned [] w1 wq from by obtain ⟨p, rfl⟩ := hw'; exact p.t)
          clear hw'
          have q0 : wq.cell? ⟨wr.heap.size, 0, none⟩ = some (.int .i64 x.ino) := HP0.out ⟨wq, HQ.out⟩
          go_wp2_with (go_at_call 36; refine ((HM.out.keep (HT1.out.trans HQ.out)).put (kind := 1) (id := x.ino) (by omega) rfl HIW.out).mono ?_; rintro e w3 ⟨t3, rfl, hm, -⟩; have HM3 := Lib.hid hm; clear hm)
          go_roundw
          case rel => exact ⟨k + 1, t3, by omega, by go_num, rfl, HM3.out.iff (Nat.le_refl _) (chg_put HCK.out (fun j h => by rw [HJ.out] at h; cases h))⟩
          case measure => simp [intOf]; omega
        | some j =>
          have HJ := Lib.hid hj
          have hm1 : ixv (some j) = (j : Int) := rfl
          rw [hm1]
          obtain ⟨y, hy⟩ : ∃ y, E.inodes.xs[j]? = some y := by
            have h1 := (ixOf_some.1 hj).1
            unfold DumpV.inodeIds at h1
            rw [List.getElem?_map] at h1
            obtain ⟨y, hy, _⟩ := Option.map_eq_some_iff.1 h1
            exact ⟨y, hy⟩
          have HSE := Lib.hid (show sameIno D E k j = inodeEq x y by unfold sameIno; rw [HX.out, hy])
          have hjl : j < E.inodes.len := by rw [← hE.inodes.n]; exact (List.getElem?_eq_some_iff.1 hy).1
          obtain ⟨b', o', hab', g0, g1, -, -, -, g5, -, g7, g8, -, hs1, hs2⟩ := inode_cells ((HE.out.stays (HM.out.tw.trans HT1.out)).inodes.at_ j y hy)
          simp only [Sl.v] at g7 g8
          have y1 : ∀ p : TBy w1, p.w.cell? ⟨b', o' + j * 9 + 1, none⟩ = some (.int .i64 y.kind) := fun p => p.t.cell g1 (by simp)
          have y5 : ∀ p : TBy w1, p.w.cell? ⟨b', o' + j * 9 + 5, none⟩ = some (.string y.text) := fun p => p.t.cell g5 (by simp)
          have y7 : ∀ p : TBy w1, p.w.cell? ⟨b', o' + j * 9 + 7, none⟩ = some (.slice y.names.a y.names.len y.names.cap) := fun p => p.t.cell g7 (by simp)
          have y8 : ∀ p : TBy w1, p.w.cell? ⟨b', o' + j * 9 + 8, none⟩ = some (.slice y.inos.a y.inos.len y.inos.cap) := fun p => p.t.cell g8 (by simp)
          have e6 : ∀ p : TBy w1, p.w.cell? ⟨w.heap.size + 1, 6, none⟩ = some (.slice (some ⟨b', o', none⟩) E.inodes.len E.inodes.cap) := fun p => p.t.cell (by rw [← hab']; exact block_cell HBX2.out rfl) (by simp)
          have HNE : Hid (∀ p : TBy w1, Calls Try.prog 34 #[x.names.v, y.names.v] p.w fun e w' => e = .returned (.bool (decide (x.names.xs = y.names.xs))) ∧ Turned [] p.w w') := Lib.hid fun p => eq_names (HR1.out.stays stays_str (HT1.out.trans p.t)) (hs1.stays stays_str p.t)
          have HIE : Hid (∀ p : TBy w1, Calls Try.prog 35 #[x.inos.v, y.inos.v] p.w fun e w' => e = .returned (.bool (decide (x.inos.xs = y.inos.xs))) ∧ Turned [] p.w w') := Lib.hid fun p => eq_nums (HR2.out.stays (stays_int _) (HT1.out.trans p.t)) (hs2.stays (stays_int _) p.t)
          simp only [Sl.v] at HNE HIE
          have j0 : decide ((j : Int) < 0) = false := by simp
          clear hj hm1 hy hab' g0 g1 g5 g7 g8 hs1 hs2
          by_cases h0 : x.kind = y.kind
          · have b0 : (x.kind != y.kind) = false := by simp [h0]
            by_cases h1 : x.text = y.text
            · have b1 : (x.text.toList != y.text.toList) = false := by simp [h1]
              have b1' : (x.text.toList == y.text.toList) = true := by simp [h1]
              by_cases h2 : x.names.xs = y.names.xs
              · rw [show decide (x.names.xs = y.names.xs) = true by simp only [h2, decide_true]] at HNE
                by_cases h3 : x.inos.xs = y.inos.xs
                · rw [show decide (x.inos.xs = y.inos.xs) = true by simp only [h3, decide_true]] at HIE
                  have HNO := Lib.hid (show sameIno D E k j = true by rw [HSE.out]; simp [inodeEq, h0, h1, h2, h3])
                  clear h0 h1 h2 h3 HSE
                  go_wp2
                  refine wp_region_turned (by kernel_rfl) (by kernel_rfl) ?_
                  repeat (go_big_quiet_step (first | (go_at_call 33; exact Calls.tby (HPD1.out _)) | (go_at_call 34; exact Calls.tby (HNE.out _)) | (go_at_call 35; exact Calls.tby (HIE.out _))))
                  refine wpQuiet_nil ?_
                  intro wq hw'
                  have HQ := Lib.hid (show Turned [] w1 wq from by obtain ⟨p, rfl⟩ := hw'; exact p.t)
                  clear hw'
                  go_wp2
                  go_roundw
                  case rel => exact ⟨k + 1, t, by omega, by go_num, rfl, (HM.out.keep (HT1.out.trans HQ.out)).iff (Nat.le_succ _) (chg_skip HFI.out (fun h => by have := h.2 j HJ.out; rw [HNO.out] at this; cases this))⟩
                  case measure => simp [intOf]; omega
                · rw [show decide (x.inos.xs = y.inos.xs) = false by simp only [h3, decide_false]] at HIE
                  have HNO := Lib.hid (show sameIno D E k j = false by rw [HSE.out]; simp [inodeEq, h3])
                  clear h0 h1 h2 h3 HSE
                  go_wp2
                  refine wp_region_turned (by kernel_rfl) (by kernel_rfl) ?_
                  repeat (go_big_quiet_step (first | (go_at_call 33; exact Calls.tby (HPD1.out _)) | (go_at_call 34; exact Calls.tby (HNE.out _)) | (go_at_call 35; exact Calls.tby (HIE.out _))))
                  refine wpQuiet_nil ?_
                  intro wq hw'
                  have HQ := Lib.hid (show Turned [] w1 wq from by obtain ⟨p, rfl⟩ := hw'; exact p.t)
                  clear hw'
                  have q0 : wq.cell? ⟨wr.heap.size, 0, none⟩ = some (.int .i64 x.ino) := HP0.out ⟨wq, HQ.out⟩
                  go_wp2_with (go_at_call 36; refine ((HM.out.keep (HT1.out.trans HQ.out)).put (kind := 1) (id := x.ino) (by omega) rfl HIW.out).mono ?_; rintro e w3 ⟨t3, rfl, hm, -⟩; have HM3 := Lib.hid hm; clear hm)
                  go_roundw
                  case rel => exact ⟨k + 1, t3, by omega, by go_num, rfl, HM3.out.iff (Nat.le_refl _) (chg_put HCK.out (fun i h => by rw [HJ.out] at h; cases h; exact HNO.out))⟩
                  case measure => simp [intOf]; omega
              · rw [show decide (x.names.xs = y.names.xs) = false by simp only [h2, decide_false]] at HNE
                have HNO := Lib.hid (show sameIno D E k j = false by rw [HSE.out]; simp [inodeEq, h2])
                clear h0 h1 h2 HSE
                go_wp2
                refine wp_region_turned (by kernel_rfl) (by kernel_rfl) ?_
                repeat (go_big_quiet_step (first | (go_at_call 33; exact Calls.tby (HPD1.out _)) | (go_at_call 34; exact Calls.tby (HNE.out _))))
                refine wpQuiet_nil ?_
                intro wq hw'
                have HQ := Lib.hid (show Turned [] w1 wq from by obtain ⟨p, rfl⟩ := hw'; exact p.t)
                clear hw'
                have q0 : wq.cell? ⟨wr.heap.size, 0, none⟩ = some (.int .i64 x.ino) := HP0.out ⟨wq, HQ.out⟩
                go_wp2_with (go_at_call 36; refine ((HM.out.keep (HT1.out.trans HQ.out)).put (kind := 1) (id := x.ino) (by omega) rfl HIW.out).mono ?_; rintro e w3 ⟨t3, rfl, hm, -⟩; have HM3 := Lib.hid hm; clear hm)
                go_roundw
                case rel => exact ⟨k + 1, t3, by omega, by go_num, rfl, HM3.out.iff (Nat.le_refl _) (chg_put HCK.out (fun i h => by rw [HJ.out] at h; cases h; exact HNO.out))⟩
                case measure => simp [intOf]; omega
            · have b1' : (x.text.toList == y.text.toList) = false := by simpa [bytes_eq] using h1
              have b1 : (x.text.toList != y.text.toList) = true := by simp [bne, b1']
              have HNO := Lib.hid (show sameIno D E k j = false by rw [HSE.out]; simp [inodeEq, h1])
              clear h0 h1 HSE
              go_wp2
              refine wp_region_turned (by kernel_rfl) (by kernel_rfl) ?_
              repeat (go_big_quiet_step ((go_at_call 33; exact Calls.tby (HPD1.out _))))
              refine wpQuiet_nil ?_
              intro wq hw'
              have HQ := Lib.hid (show Turned [] w1 wq from by obtain ⟨p, rfl⟩ := hw'; exact p.t)
              clear hw'
              have q0 : wq.cell? ⟨wr.heap.size, 0, none⟩ = some (.int .i64 x.ino) := HP0.out ⟨wq, HQ.out⟩
              go_wp2_with (go_at_call 36; refine ((HM.out.keep (HT1.out.trans HQ.out)).put (kind := 1) (id := x.ino) (by omega) rfl HIW.out).mono ?_; rintro e w3 ⟨t3, rfl, hm, -⟩; have HM3 := Lib.hid hm; clear hm)
              go_roundw
              case rel => exact ⟨k + 1, t3, by omega, by go_num, rfl, HM3.out.iff (Nat.le_refl _) (chg_put HCK.out (fun i h => by rw [HJ.out] at h; cases h; exact HNO.out))⟩
              case measure => simp [intOf]; omega
          · have b0 : (x.kind != y.kind) = true := by simp [h0]
            have HNO := Lib.hid (show sameIno D E k j = false by rw [HSE.out]; simp [inodeEq, h0])
            clear h0 HSE
            go_wp2
            refine wp_region_turned (by kernel_rfl) (by kernel_rfl) ?_
            repeat (go_big_quiet_step ((go_at_call 33; exact Calls.tby (HPD1.out _))))
            refine wpQuiet_nil ?_
            intro wq hw'
            have HQ := Lib.hid (show Turned [] w1 wq from by obtain ⟨p, rfl⟩ := hw'; exact p.t)
            clear hw'
            have q0 : wq.cell? ⟨wr.heap.size, 0, none⟩ = some (.int .i64 x.ino) := HP0.out ⟨wq, HQ.out⟩
            go_wp2_with (go_at_call 36; refine ((HM.out.keep (HT1.out.trans HQ.out)).put (kind := 1) (id := x.ino) (by omega) rfl HIW.out).mono ?_; rintro e w3 ⟨t3, rfl, hm, -⟩; have HM3 := Lib.hid hm; clear hm)
            go_roundw
            case rel => exact ⟨k + 1, t3, by omega, by go_num, rfl, HM3.out.iff (Nat.le_refl _) (chg_put HCK.out (fun i h => by rw [HJ.out] at h; cases h; exact HNO.out))⟩
            case measure => simp [intOf]; omega
      · have kk : ((k0 : Int) == (k : Int)) = false := by rw [beq_eq_false_iff_ne]; omega
        have HKK := Lib.hid hkk
        clear hkk
        go_wp2
        refine wp_region_turned (by kernel_rfl) (by kernel_rfl) ?_
        repeat (go_big_quiet_step ((go_at_call 33; exact Calls.tby (HPD1.out _))))
        refine wpQuiet_nil ?_
        intro wq hw'
        have HQ := Lib.hid (show Turned [] w1 wq from by obtain ⟨p, rfl⟩ := hw'; exact p.t)
        clear hw'
        go_wp2
        go_roundw
        case rel => exact ⟨k + 1, t, by omega, by go_num, rfl, (HM.out.keep (HT1.out.trans HQ.out)).iff (Nat.le_succ _) (chg_skip HFI.out (fun h => HKK.out (Option.some.inj (HK0.out.symm.trans h.1))))⟩
        case measure => simp [intOf]; omega
    · obtain rfl : k = D.inodes.len := by omega
      have HM2 := Lib.hid (HM.out.iff (m' := 12) (by omega) (P' := Eff1 D E) (fun o => by unfold Eff1; exact (chg_all (A := fun _ => False) (kind := 1) (ids := D.inodeIds) (ids' := E.inodeIds) (same := sameIno D E) (n := D.inodes.len) (by unfold DumpV.inodeIds; rw [List.length_map]; exact HD.out.inodes.n) o).symm))
      clear HM hk hlt
      go_wp2
      go_loopw [5, 9] (fun v iv wr => ∃ (k : Nat) (t : Sl Ob), k ≤ D.pipes.len ∧ iv = .int .i64 k ∧ v = .slice t.a t.len t.cap ∧ EAt w wr D E (12 + k) t (fun o => Eff1 D E o ∨ o.1 = 5 ∧ ChgK D.pipeIds E.pipeIds (samePipe D E) k o.2)) (fun _ iv _ => D.pipes.len - (intOf iv).toNat)
      case atStart => exact ⟨0, t, by omega, rfl, rfl, HM2.out.iff (Nat.le_refl _) chg_none⟩
      case round =>
        obtain ⟨k, t, hk, rfl, rfl, hm⟩ := hrel
        have HM := Lib.hid hm
        clear hm HM2 d6
        have d4 := (box_cells HM.out.box1).2.2.2.2.1
        simp only [Sl.v] at d4
        by_cases hlt : k < D.pipes.len
        · as_aux_lemma =>
          obtain ⟨x, hx⟩ : ∃ x, D.pipes.xs[k]? = some x := ⟨D.pipes.xs[k]'(by omega), by simp⟩
          obtain ⟨b, o, hab, c0, c1, c2, c3, hiw⟩ := pipe_cells ((HD.out.stays HM.out.tw).pipes.at_ k x hx)
          rw [hab] at d4
          have HAB := Lib.hid hab
          have HX := Lib.hid hx
          have HIW := Lib.hid hiw
          have HFI := Lib.hid (show D.pipeIds[k]? = some x.id by unfold DumpV.pipeIds; rw [List.getElem?_map, hx]; rfl)
          obtain ⟨k0, hk0⟩ := ix_of HFI.out
          have HK0 := Lib.hid hk0
          have HPE : Hid (∀ p : TBy wr, Calls Try.prog 37 #[E.v, .int .i64 x.id] p.w fun e w' => e = .returned (.int .i64 (ixv (ixOf E.pipeIds x.id))) ∧ Turned [] p.w w') := Lib.hid fun p => place_pipe (HE.out.stays (HM.out.tw.trans p.t))
          have HPD : Hid (∀ w1, Turned [] wr w1 → Calls Try.prog 37 #[D.v, .int .i64 x.id] w1 fun e w' => e = .returned (.int .i64 (k0 : Int)) ∧ Turned [] w1 w') := Lib.hid fun w1 h => by
            have h1 := place_pipe (id := x.id) (HD.out.stays (HM.out.tw.trans h))
            rwa [show ixOf (D.pipes.xs.map PipeV.id) x.id = some k0 from HK0.out] at h1
          simp only [DumpV.v, DumpV.cells, Sl.v] at HPE HPD
          rw [hab] at HPD
          go_wp2
          have e0 : ∀ p : TBy wr, p.w.cell? ⟨w.heap.size + 1, 0, none⟩ = some (.slice E.procs.a E.procs.len E.procs.cap) := fun p => p.t.cell (block_cell HM.out.box2 rfl) (by simp)
          have e1 : ∀ p : TBy wr, p.w.cell? ⟨w.heap.size + 1, 1, none⟩ = some (.slice E.held.a E.held.len E.held.cap) := fun p => p.t.cell (block_cell HM.out.box2 rfl) (by simp)
          have e2 : ∀ p : TBy wr, p.w.cell? ⟨w.heap.size + 1, 2, none⟩ = some (.slice E.parks.a E.parks.len E.parks.cap) := fun p => p.t.cell (block_cell HM.out.box2 rfl) (by simp)
          have e3 : ∀ p : TBy wr, p.w.cell? ⟨w.heap.size + 1, 3, none⟩ = some (.slice E.files.a E.files.len E.files.cap) := fun p => p.t.cell (block_cell HM.out.box2 rfl) (by simp)
          have e4 : ∀ p : TBy wr, p.w.cell? ⟨w.heap.size + 1, 4, none⟩ = some (.slice E.pipes.a E.pipes.len E.pipes.cap) := fun p => p.t.cell (block_cell HM.out.box2 rfl) (by simp)
          have e5 : ∀ p : TBy wr, p.w.cell? ⟨w.heap.size + 1, 5, none⟩ = some (.slice E.socks.a E.socks.len E.socks.cap) := fun p => p.t.cell (block_cell HM.out.box2 rfl) (by simp)
          have e6 : ∀ p : TBy wr, p.w.cell? ⟨w.heap.size + 1, 6, none⟩ = some (.slice E.inodes.a E.inodes.len E.inodes.cap) := fun p => p.t.cell (block_cell HM.out.box2 rfl) (by simp)
          have e7 : ∀ p : TBy wr, p.w.cell? ⟨w.heap.size + 1, 7, none⟩ = some (.int .i64 E.n0) := fun p => p.t.cell (block_cell HM.out.box2 rfl) (by simp)
          have e8 : ∀ p : TBy wr, p.w.cell? ⟨w.heap.size + 1, 8, none⟩ = some (.int .i64 E.n1) := fun p => p.t.cell (block_cell HM.out.box2 rfl) (by simp)
          have e9 : ∀ p : TBy wr, p.w.cell? ⟨w.heap.size + 1, 9, none⟩ = some (.int .i64 E.n2) := fun p => p.t.cell (block_cell HM.out.box2 rfl) (by simp)
          have e10 : ∀ p : TBy wr, p.w.cell? ⟨w.heap.size + 1, 10, none⟩ = some (.int .i64 E.n3) := fun p => p.t.cell (block_cell HM.out.box2 rfl) (by simp)
          have e11 : ∀ p : TBy wr, p.w.cell? ⟨w.heap.size + 1, 11, none⟩ = some (.int .i64 E.n4) := fun p => p.t.cell (block_cell HM.out.box2 rfl) (by simp)
          have a4 : ∀ p : TBy wr, p.w.cell? ⟨w.heap.size, 4, none⟩ = some (.slice (some ⟨b, o, none⟩) D.pipes.len D.pipes.cap) := fun p => p.t.cell d4 (by simp)
          have x0 : ∀ p : TBy wr, p.w.cell? ⟨b, o + k * 4, none⟩ = some (.int .i64 x.id) := fun p => p.t.cell c0 (by simp)
          refine wp_region_turned (by kernel_rfl) (by kernel_rfl) ?_
          repeat (go_big_quiet_step ((go_at_call 37; exact Calls.tby (HPE.out _))))
          refine wpQuiet_nil ?_
          intro w1 hw'
          have HT1 := Lib.hid (show Turned [] wr w1 from by obtain ⟨p, rfl⟩ := hw'; exact p.t)
          clear hw'
          clear x0 a4 d4 e0 e1 e2 e3 e4 e5 e6 e7 e8 e9 e10 e11 hab hx hiw hk0
          have HBX1 := Lib.hid (HT1.out.keep HM.out.box1 (by simp))
          have HBX2 := Lib.hid (HT1.out.keep HM.out.box2 (by simp))
          have a0 : ∀ p : TBy w1, p.w.cell? ⟨w.heap.size, 0, none⟩ = some (.slice D.procs.a D.procs.len D.procs.cap) := fun p => p.t.cell (block_cell HBX1.out rfl) (by simp)
          have a1 : ∀ p : TBy w1, p.w.cell? ⟨w.heap.size, 1, none⟩ = some (.slice D.held.a D.held.len D.held.cap) := fun p => p.t.cell (block_cell HBX1.out rfl) (by simp)
          have a2 : ∀ p : TBy w1, p.w.cell? ⟨w.heap.size, 2, none⟩ = some (.slice D.parks.a D.parks.len D.parks.cap) := fun p => p.t.cell (block_cell HBX1.out rfl) (by simp)
          have a3 : ∀ p : TBy w1, p.w.cell? ⟨w.heap.size, 3, none⟩ = some (.slice D.files.a D.files.len D.files.cap) := fun p => p.t.cell (block_cell HBX1.out rfl) (by simp)
          have a4 : ∀ p : TBy w1, p.w.cell? ⟨w.heap.size, 4, none⟩ = some (.slice (some ⟨b, o, none⟩) D.pipes.len D.pipes.cap) := fun p => p.t.cell (by rw [← HAB.out]; exact block_cell HBX1.out rfl) (by simp)
          have a5 : ∀ p : TBy w1, p.w.cell? ⟨w.heap.size, 5, none⟩ = some (.slice D.socks.a D.socks.len D.socks.cap) := fun p => p.t.cell (block_cell HBX1.out rfl) (by simp)
          have a6 : ∀ p : TBy w1, p.w.cell? ⟨w.heap.size, 6, none⟩ = some (.slice D.inodes.a D.inodes.len D.inodes.cap) := fun p => p.t.cell (block_cell HBX1.out rfl) (by simp)
          have a7 : ∀ p : TBy w1, p.w.cell? ⟨w.heap.size, 7, none⟩ = some (.int .i64 D.n0) := fun p => p.t.cell (block_cell HBX1.out rfl) (by simp)
          have a8 : ∀ p : TBy w1, p.w.cell? ⟨w.heap.size, 8, none⟩ = some (.int .i64 D.n1) := fun p => p.t.cell (block_cell HBX1.out rfl) (by simp)
          have a9 : ∀ p : TBy w1, p.w.cell? ⟨w.heap.size, 9, none⟩ = some (.int .i64 D.n2) := fun p => p.t.cell (block_cell HBX1.out rfl) (by simp)
          have a10 : ∀ p : TBy w1, p.w.cell? ⟨w.heap.size, 10, none⟩ = some (.int .i64 D.n3) := fun p => p.t.cell (block_cell HBX1.out rfl) (by simp)
          have a11 : ∀ p : TBy w1, p.w.cell? ⟨w.heap.size, 11, none⟩ = some (.int .i64 D.n4) := fun p => p.t.cell (block_cell HBX1.out rfl) (by simp)
          have x0 : ∀ p : TBy w1, p.w.cell? ⟨b, o + k * 4, none⟩ = some (.int .i64 x.id) := fun p => p.t.cell (HT1.out.cell c0 (by simp)) (by simp)
          have x1 : ∀ p : TBy w1, p.w.cell? ⟨b, o + k * 4 + 1, none⟩ = some (.bool x.reads) := fun p => p.t.cell (HT1.out.cell c1 (by simp)) (by simp)
          have x2 : ∀ p : TBy w1, p.w.cell? ⟨b, o + k * 4 + 2, none⟩ = some (.bool x.writes) := fun p => p.t.cell (HT1.out.cell c2 (by simp)) (by simp)
          have x3 : ∀ p : TBy w1, p.w.cell? ⟨b, o + k * 4 + 3, none⟩ = some (.string x.b) := fun p => p.t.cell (HT1.out.cell c3 (by simp)) (by simp)
          have HX0 := Lib.hid x0
          have HA4 := Lib.hid a4
          have HPD1 : Hid (∀ p : TBy w1, _) := Lib.hid fun p => HPD.out p.w (HT1.out.trans p.t)
          clear c0 c1 c2 c3
          by_cases hkk : k0 = k
          · obtain rfl : k = k0 := hkk.symm
            clear hkk
            have HCK := Lib.hid HK0.out
            have kk : ((k : Int) == (k : Int)) = true := by simp
            cases hj : ixOf E.pipeIds x.id with
            | none =>
              have HJ := Lib.hid hj
              have hm1 : ixv none = -1 := rfl
              rw [hm1]
              clear hj hm1
              go_wp2
              refine wp_region_turned (by kernel_rfl) (by kernel_rfl) ?_
              repeat (go_big_quiet_step ((go_at_call 37; exact Calls.tby (HPD1.out _))))
              refine wpQuiet_nil ?_
              intro wq hw'
              have HQ := Lib.hid (show Turned [] w1 wq from by obtain ⟨p, rfl⟩ := hw'; exact p.t)
              clear hw'
              have q4 : wq.cell? ⟨w.heap.size, 4, none⟩ = some (.slice (some ⟨b, o, none⟩) D.pipes.len D.pipes.cap) := HA4.out ⟨wq, HQ.out⟩
              have q0 : wq.cell? ⟨b, o + k * 4, none⟩ = some (.int .i64 x.id) := HX0.out ⟨wq, HQ.out⟩
              go_wp2_with (go_at_call 36; refine ((HM.out.keep (HT1.out.trans HQ.out)).put (kind := 5) (id := x.id) (by omega) rfl HIW.out).mono ?_; rintro e w3 ⟨t3, rfl, hm, -⟩; have HM3 := Lib.hid hm; clear hm)
              go_roundw
              case rel => exact ⟨k + 1, t3, by omega, by go_num, rfl, HM3.out.iff (by omega) (chg_put HCK.out (fun j h => by rw [HJ.out] at h; cases h))⟩
              case measure => simp [intOf]; omega
            | some j =>
              have HJ := Lib.hid hj
              have hm1 : ixv (some j) = (j : Int) := rfl
              rw [hm1]
              obtain ⟨y, hy⟩ : ∃ y, E.pipes.xs[j]? = some y := by
                have h1 := (ixOf_some.1 hj).1
                unfold DumpV.pipeIds at h1
                rw [List.getElem?_map] at h1
                obtain ⟨y, hy, _⟩ := Option.map_eq_some_iff.1 h1
                exact ⟨y, hy⟩
              have hjl : j < E.pipes.len := by rw [← hE.pipes.n]; exact (List.getElem?_eq_some_iff.1 hy).1
              have j0 : decide ((j : Int) < 0) = false := by simp
              have HSE := Lib.hid (show samePipe D E k j = pipeEq x y by unfold samePipe; rw [HX.out, hy])
              obtain ⟨b', o', hab', g0, g1, g2, g3, -⟩ := pipe_cells ((HE.out.stays (HM.out.tw.trans HT1.out)).pipes.at_ j y hy)
              have y0 : ∀ p : TBy w1, p.w.cell? ⟨b', o' + j * 4, none⟩ = some (.int .i64 y.id) := fun p => p.t.cell g0 (by simp)
              have y1 : ∀ p : TBy w1, p.w.cell? ⟨b', o' + j * 4 + 1, none⟩ = some (.bool y.reads) := fun p => p.t.cell g1 (by simp)
              have y2 : ∀ p : TBy w1, p.w.cell? ⟨b', o' + j * 4 + 2, none⟩ = some (.bool y.writes) := fun p => p.t.cell g2 (by simp)
              have y3 : ∀ p : TBy w1, p.w.cell? ⟨b', o' + j * 4 + 3, none⟩ = some (.string y.b) := fun p => p.t.cell g3 (by simp)
              have e4 : ∀ p : TBy w1, p.w.cell? ⟨w.heap.size + 1, 4, none⟩ = some (.slice (some ⟨b', o', none⟩) E.pipes.len E.pipes.cap) := fun p => p.t.cell (by rw [← hab']; exact block_cell HBX2.out rfl) (by simp)
              have hne : ∀ w, (binOp .neq 84 (.agg #[.int .i64 x.id, .bool x.reads, .bool x.writes, .string x.b]) (.agg #[.int .i64 y.id, .bool y.reads, .bool y.writes, .string y.b])).run Try.prog w = .ok (.bool (!pipeEq x y)) w := fun w => neq_pipe w _ _ _ _ _ _ _ _
              clear hj hm1 hy hab' g0 g1 g2 g3
              cases hr : pipeEq x y with
              | true =>
                rw [hr] at hne HSE
                clear hr
                go_wp2
                refine wp_region_turned (by kernel_rfl) (by kernel_rfl) ?_
                repeat (go_big_quiet_step ((go_at_call 37; exact Calls.tby (HPD1.out _))))
                refine wpQuiet_nil ?_
                intro wq hw'
                have HQ := Lib.hid (show Turned [] w1 wq from by obtain ⟨p, rfl⟩ := hw'; exact p.t)
                clear hw'
                go_wp2
                go_roundw
                case rel => exact ⟨k + 1, t, by omega, by go_num, rfl, (HM.out.keep (HT1.out.trans HQ.out)).iff (by omega) (chg_skip HFI.out (fun h => by have := h.2 j HJ.out; rw [HSE.out] at this; cases this))⟩
                case measure => simp [intOf]; omega
              | false =>
                rw [hr] at hne HSE
                clear hr
                go_wp2
                refine wp_region_turned (by kernel_rfl) (by kernel_rfl) ?_
                repeat (go_big_quiet_step ((go_at_call 37; exact Calls.tby (HPD1.out _))))
                refine wpQuiet_nil ?_
                intro wq hw'
                have HQ := Lib.hid (show Turned [] w1 wq from by obtain ⟨p, rfl⟩ := hw'; exact p.t)
                clear hw'
                have q4 : wq.cell? ⟨w.heap.size, 4, none⟩ = some (.slice (some ⟨b, o, none⟩) D.pipes.len D.pipes.cap) := HA4.out ⟨wq, HQ.out⟩
                have q0 : wq.cell? ⟨b, o + k * 4, none⟩ = some (.int .i64 x.id) := HX0.out ⟨wq, HQ.out⟩
                go_wp2_with (go_at_call 36; refine ((HM.out.keep (HT1.out.trans HQ.out)).put (kind := 5) (id := x.id) (by omega) rfl HIW.out).mono ?_; rintro e w3 ⟨t3, rfl, hm, -⟩; have HM3 := Lib.hid hm; clear hm)
                go_roundw
                case rel => exact ⟨k + 1, t3, by omega, by go_num, rfl, HM3.out.iff (by omega) (chg_put HCK.out (fun i h => by rw [HJ.out] at h; cases h; exact HSE.out))⟩
                case measure => simp [intOf]; omega
          · have kk : ((k0 : Int) == (k : Int)) = false := by rw [beq_eq_false_iff_ne]; omega
            have HKK := Lib.hid hkk
            clear hkk
            go_wp2
            refine wp_region_turned (by kernel_rfl) (by kernel_rfl) ?_
            repeat (go_big_quiet_step ((go_at_call 37; exact Calls.tby (HPD1.out _))))
            refine wpQuiet_nil ?_
            intro wq hw'
            have HQ := Lib.hid (show Turned [] w1 wq from by obtain ⟨p, rfl⟩ := hw'; exact p.t)
            clear hw'
            go_wp2
            go_roundw
            case rel => exact ⟨k + 1, t, by omega, by go_num, rfl, (HM.out.keep (HT1.out.trans HQ.out)).iff (by omega) (chg_skip HFI.out (fun h => HKK.out (Option.some.inj (HK0.out.symm.trans h.1))))⟩
            case measure => simp [intOf]; omega
        · obtain rfl : k = D.pipes.len := by omega
          have HM2 := Lib.hid (HM.out.iff (m' := 20) (by omega) (P' := Eff2 D E) (fun o => by unfold Eff2; exact (chg_all (ids := D.pipeIds) (n := D.pipes.len) (by unfold DumpV.pipeIds; rw [List.length_map]; exact HD.out.pipes.n) o).symm))
          clear HM hk hlt
          go_wp2
          go_loopw [5, 11] (fun v iv wr => ∃ (k : Nat) (t : Sl Ob), k ≤ D.socks.len ∧ iv = .int .i64 k ∧ v = .slice t.a t.len t.cap ∧ EAt w wr D E (20 + k) t (fun o => Eff2 D E o ∨ o.1 = 6 ∧ ChgK D.sockIds E.sockIds (sameSock D E) k o.2)) (fun _ iv _ => D.socks.len - (intOf iv).toNat)
          case atStart => exact ⟨0, t, by omega, rfl, rfl, HM2.out.iff (Nat.le_refl _) chg_none⟩
          case round =>
            obtain ⟨k, t, hk, rfl, rfl, hm⟩ := hrel
            have HM := Lib.hid hm
            clear hm HM2 d4
            have d5 := (box_cells HM.out.box1).2.2.2.2.2.1
            simp only [Sl.v] at d5
            by_cases hlt : k < D.socks.len
            · as_aux_lemma =>
              obtain ⟨x, hx⟩ : ∃ x, D.socks.xs[k]? = some x := ⟨D.socks.xs[k]'(by omega), by simp⟩
              obtain ⟨b, o, hab, c0, c1, c2, c3, c4, c5, c6, c7, c8, ⟨hiw, -⟩, -, -⟩ := sock_cells ((HD.out.stays HM.out.tw).socks.at_ k x hx)
              rw [hab] at d5
              have HAB := Lib.hid hab
              have HX := Lib.hid hx
              have HIW := Lib.hid hiw
              have HFI := Lib.hid (show D.sockIds[k]? = some x.id by unfold DumpV.sockIds; rw [List.getElem?_map, hx]; rfl)
              obtain ⟨k0, hk0⟩ := ix_of HFI.out
              have HK0 := Lib.hid hk0
              have HPE : Hid (∀ p : TBy wr, Calls Try.prog 38 #[E.v, .int .i64 x.id] p.w fun e w' => e = .returned (.int .i64 (ixv (ixOf E.sockIds x.id))) ∧ Turned [] p.w w') := Lib.hid fun p => place_sock (HE.out.stays (HM.out.tw.trans p.t))
              have HPD : Hid (∀ w1, Turned [] wr w1 → Calls Try.prog 38 #[D.v, .int .i64 x.id] w1 fun e w' => e = .returned (.int .i64 (k0 : Int)) ∧ Turned [] w1 w') := Lib.hid fun w1 h => by
                have h1 := place_sock (id := x.id) (HD.out.stays (HM.out.tw.trans h))
                rwa [show ixOf (D.socks.xs.map SockV.id) x.id = some k0 from HK0.out] at h1
              simp only [DumpV.v, DumpV.cells, Sl.v] at HPE HPD
              rw [hab] at HPD
              go_wp2
              have e0 : ∀ p : TBy wr, p.w.cell? ⟨w.heap.size + 1, 0, none⟩ = some (.slice E.procs.a E.procs.len E.procs.cap) := fun p => p.t.cell (block_cell HM.out.box2 rfl) (by simp)
              have e1 : ∀ p : TBy wr, p.w.cell? ⟨w.heap.size + 1, 1, none⟩ = some (.slice E.held.a E.held.len E.held.cap) := fun p => p.t.cell (block_cell HM.out.box2 rfl) (by simp)
              have e2 : ∀ p : TBy wr, p.w.cell? ⟨w.heap.size + 1, 2, none⟩ = some (.slice E.parks.a E.parks.len E.parks.cap) := fun p => p.t.cell (block_cell HM.out.box2 rfl) (by simp)
              have e3 : ∀ p : TBy wr, p.w.cell? ⟨w.heap.size + 1, 3, none⟩ = some (.slice E.files.a E.files.len E.files.cap) := fun p => p.t.cell (block_cell HM.out.box2 rfl) (by simp)
              have e4 : ∀ p : TBy wr, p.w.cell? ⟨w.heap.size + 1, 4, none⟩ = some (.slice E.pipes.a E.pipes.len E.pipes.cap) := fun p => p.t.cell (block_cell HM.out.box2 rfl) (by simp)
              have e5 : ∀ p : TBy wr, p.w.cell? ⟨w.heap.size + 1, 5, none⟩ = some (.slice E.socks.a E.socks.len E.socks.cap) := fun p => p.t.cell (block_cell HM.out.box2 rfl) (by simp)
              have e6 : ∀ p : TBy wr, p.w.cell? ⟨w.heap.size + 1, 6, none⟩ = some (.slice E.inodes.a E.inodes.len E.inodes.cap) := fun p => p.t.cell (block_cell HM.out.box2 rfl) (by simp)
              have e7 : ∀ p : TBy wr, p.w.cell? ⟨w.heap.size + 1, 7, none⟩ = some (.int .i64 E.n0) := fun p => p.t.cell (block_cell HM.out.box2 rfl) (by simp)
              have e8 : ∀ p : TBy wr, p.w.cell? ⟨w.heap.size + 1, 8, none⟩ = some (.int .i64 E.n1) := fun p => p.t.cell (block_cell HM.out.box2 rfl) (by simp)
              have e9 : ∀ p : TBy wr, p.w.cell? ⟨w.heap.size + 1, 9, none⟩ = some (.int .i64 E.n2) := fun p => p.t.cell (block_cell HM.out.box2 rfl) (by simp)
              have e10 : ∀ p : TBy wr, p.w.cell? ⟨w.heap.size + 1, 10, none⟩ = some (.int .i64 E.n3) := fun p => p.t.cell (block_cell HM.out.box2 rfl) (by simp)
              have e11 : ∀ p : TBy wr, p.w.cell? ⟨w.heap.size + 1, 11, none⟩ = some (.int .i64 E.n4) := fun p => p.t.cell (block_cell HM.out.box2 rfl) (by simp)
              have a5 : ∀ p : TBy wr, p.w.cell? ⟨w.heap.size, 5, none⟩ = some (.slice (some ⟨b, o, none⟩) D.socks.len D.socks.cap) := fun p => p.t.cell d5 (by simp)
              have x0 : ∀ p : TBy wr, p.w.cell? ⟨b, o + k * 9, none⟩ = some (.int .i64 x.id) := fun p => p.t.cell c0 (by simp)
              refine wp_region_turned (by kernel_rfl) (by kernel_rfl) ?_
              repeat (go_big_quiet_step ((go_at_call 38; exact Calls.tby (HPE.out _))))
              refine wpQuiet_nil ?_
              intro w1 hw'
              have HT1 := Lib.hid (show Turned [] wr w1 from by obtain ⟨p, rfl⟩ := hw'; exact p.t)
              clear hw'
              clear x0 a5 d5 e0 e1 e2 e3 e4 e5 e6 e7 e8 e9 e10 e11 hab hx hiw hk0
              have HBX1 := Lib.hid (HT1.out.keep HM.out.box1 (by simp))
              have HBX2 := Lib.hid (HT1.out.keep HM.out.box2 (by simp))
              have a0 : ∀ p : TBy w1, p.w.cell? ⟨w.heap.size, 0, none⟩ = some (.slice D.procs.a D.procs.len D.procs.cap) := fun p => p.t.cell (block_cell HBX1.out rfl) (by simp)
              have a1 : ∀ p : TBy w1, p.w.cell? ⟨w.heap.size, 1, none⟩ = some (.slice D.held.a D.held.len D.held.cap) := fun p => p.t.cell (block_cell HBX1.out rfl) (by simp)
              have a2 : ∀ p : TBy w1, p.w.cell? ⟨w.heap.size, 2, none⟩ = some (.slice D.parks.a D.parks.len D.parks.cap) := fun p => p.t.cell (block_cell HBX1.out rfl) (by simp)
              have a3 : ∀ p : TBy w1, p.w.cell? ⟨w.heap.size, 3, none⟩ = some (.slice D.files.a D.files.len D.files.cap) := fun p => p.t.cell (block_cell HBX1.out rfl) (by simp)
              have a4 : ∀ p : TBy w1, p.w.cell? ⟨w.heap.size, 4, none⟩ = some (.slice D.pipes.a D.pipes.len D.pipes.cap) := fun p => p.t.cell (block_cell HBX1.out rfl) (by simp)
              have a5 : ∀ p : TBy w1, p.w.cell? ⟨w.heap.size, 5, none⟩ = some (.slice (some ⟨b, o, none⟩) D.socks.len D.socks.cap) := fun p => p.t.cell (by rw [← HAB.out]; exact block_cell HBX1.out rfl) (by simp)
              have a6 : ∀ p : TBy w1, p.w.cell? ⟨w.heap.size, 6, none⟩ = some (.slice D.inodes.a D.inodes.len D.inodes.cap) := fun p => p.t.cell (block_cell HBX1.out rfl) (by simp)
              have a7 : ∀ p : TBy w1, p.w.cell? ⟨w.heap.size, 7, none⟩ = some (.int .i64 D.n0) := fun p => p.t.cell (block_cell HBX1.out rfl) (by simp)
              have a8 : ∀ p : TBy w1, p.w.cell? ⟨w.heap.size, 8, none⟩ = some (.int .i64 D.n1) := fun p => p.t.cell (block_cell HBX1.out rfl) (by simp)
              have a9 : ∀ p : TBy w1, p.w.cell? ⟨w.heap.size, 9, none⟩ = some (.int .i64 D.n2) := fun p => p.t.cell (block_cell HBX1.out rfl) (by simp)
              have a10 : ∀ p : TBy w1, p.w.cell? ⟨w.heap.size, 10, none⟩ = some (.int .i64 D.n3) := fun p => p.t.cell (block_cell HBX1.out rfl) (by simp)
              have a11 : ∀ p : TBy w1, p.w.cell? ⟨w.heap.size, 11, none⟩ = some (.int .i64 D.n4) := fun p => p.t.cell (block_cell HBX1.out rfl) (by simp)
              have x0 : ∀ p : TBy w1, p.w.cell? ⟨b, o + k * 9, none⟩ = some (.int .i64 x.id) := fun p => p.t.cell (HT1.out.cell c0 (by simp)) (by simp)
              have HX0 := Lib.hid x0
              have HA5 := Lib.hid a5
              have HPD1 : Hid (∀ p : TBy w1, _) := Lib.hid fun p => HPD.out p.w (HT1.out.trans p.t)
              clear c0 c1 c2 c3 c4 c5 c6 c7 c8
              by_cases hkk : k0 = k
              · obtain rfl : k = k0 := hkk.symm
                clear hkk
                have HCK := Lib.hid HK0.out
                have kk : ((k : Int) == (k : Int)) = true := by simp
                cases hj : ixOf E.sockIds x.id with
                | none =>
                  have HJ := Lib.hid hj
                  have hm1 : ixv none = -1 := rfl
                  rw [hm1]
                  clear hj hm1
                  go_wp2
                  refine wp_region_turned (by kernel_rfl) (by kernel_rfl) ?_
                  repeat (go_big_quiet_step ((go_at_call 38; exact Calls.tby (HPD1.out _))))
                  refine wpQuiet_nil ?_
                  intro wq hw'
                  have HQ := Lib.hid (show Turned [] w1 wq from by obtain ⟨p, rfl⟩ := hw'; exact p.t)
                  clear hw'
                  have q5 : wq.cell? ⟨w.heap.size, 5, none⟩ = some (.slice (some ⟨b, o, none⟩) D.socks.len D.socks.cap) := HA5.out ⟨wq, HQ.out⟩
                  have q0 : wq.cell? ⟨b, o + k * 9, none⟩ = some (.int .i64 x.id) := HX0.out ⟨wq, HQ.out⟩
                  go_wp2_with (go_at_call 36; refine ((HM.out.keep (HT1.out.trans HQ.out)).put (kind := 6) (id := x.id) (by omega) rfl HIW.out).mono ?_; rintro e w3 ⟨t3, rfl, hm, -⟩; have HM3 := Lib.hid hm; clear hm)
                  go_roundw
                  case rel => exact ⟨k + 1, t3, by omega, by go_num, rfl, HM3.out.iff (by omega) (chg_put HCK.out (fun j h => by rw [HJ.out] at h; cases h))⟩
                  case measure => simp [intOf]; omega
                | some j =>
                  have HJ := Lib.hid hj
                  have hm1 : ixv (some j) = (j : Int) := rfl
                  rw [hm1]
                  obtain ⟨y, hy⟩ : ∃ y, E.socks.xs[j]? = some y := by
                    have h1 := (ixOf_some.1 hj).1
                    unfold DumpV.sockIds at h1
                    rw [List.getElem?_map] at h1
                    obtain ⟨y, hy, _⟩ := Option.map_eq_some_iff.1 h1
                    exact ⟨y, hy⟩
                  have hjl : j < E.socks.len := by rw [← hE.socks.n]; exact (List.getElem?_eq_some_iff.1 hy).1
                  have j0 : decide ((j : Int) < 0) = false := by simp
                  have hxy : x.id = y.id := by
                    have h1 := (ixOf_some.1 hj).1
                    unfold DumpV.sockIds at h1
                    rw [List.getElem?_map, hy] at h1
                    simpa using h1.symm
                  have HSE := Lib.hid (show sameSock D E k j = decide ([x].map SockV.full = [y].map SockV.full) by unfold sameSock; rw [HX.out, hy]; simp [SockV.full, hxy])
                  obtain ⟨b', o', hab', -⟩ := sock_cells ((HE.out.stays (HM.out.tw.trans HT1.out)).socks.at_ j y hy)
                  have e5 : ∀ p : TBy w1, p.w.cell? ⟨w.heap.size + 1, 5, none⟩ = some (.slice (some ⟨b', o', none⟩) E.socks.len E.socks.cap) := fun p => p.t.cell (by rw [← hab']; exact block_cell HBX2.out rfl) (by simp)
                  have HSS : Hid (∀ p : TBy w1, Calls Try.prog 39 #[.slice (some ⟨b, o + k * 9, none⟩) 1 (D.socks.cap - k), .slice (some ⟨b', o' + j * 9, none⟩) 1 (E.socks.cap - j)] p.w fun e w' => e = .returned (.bool (decide ([x].map SockV.full = [y].map SockV.full))) ∧ Turned [] p.w w') := Lib.hid fun p =>
                    socks_same (((HD.out.stays ((HM.out.tw.trans HT1.out).trans p.t)).socks).one HAB.out HX.out) (((HE.out.stays ((HM.out.tw.trans HT1.out).trans p.t)).socks).one hab' hy)
                  clear hj hm1 hy hxy hab'
                  generalize decide ([x].map SockV.full = [y].map SockV.full) = r at HSS HSE
                  cases r with
                  | true =>
                    go_wp2
                    refine wp_region_turned (by kernel_rfl) (by kernel_rfl) ?_
                    repeat (go_big_quiet_step (first | (go_at_call 38; exact Calls.tby (HPD1.out _)) | (go_at_call 39; exact Calls.tby (HSS.out _))))
                    refine wpQuiet_nil ?_
                    intro wq hw'
                    have HQ := Lib.hid (show Turned [] w1 wq from by obtain ⟨p, rfl⟩ := hw'; exact p.t)
                    clear hw'
                    go_wp2
                    go_roundw
                    case rel => exact ⟨k + 1, t, by omega, by go_num, rfl, (HM.out.keep (HT1.out.trans HQ.out)).iff (by omega) (chg_skip HFI.out (fun h => by have := h.2 j HJ.out; rw [HSE.out] at this; cases this))⟩
                    case measure => simp [intOf]; omega
                  | false =>
                    go_wp2
                    refine wp_region_turned (by kernel_rfl) (by kernel_rfl) ?_
                    repeat (go_big_quiet_step (first | (go_at_call 38; exact Calls.tby (HPD1.out _)) | (go_at_call 39; exact Calls.tby (HSS.out _))))
                    refine wpQuiet_nil ?_
                    intro wq hw'
                    have HQ := Lib.hid (show Turned [] w1 wq from by obtain ⟨p, rfl⟩ := hw'; exact p.t)
                    clear hw'
                    have q5 : wq.cell? ⟨w.heap.size, 5, none⟩ = some (.slice (some ⟨b, o, none⟩) D.socks.len D.socks.cap) := HA5.out ⟨wq, HQ.out⟩
                    have q0 : wq.cell? ⟨b, o + k * 9, none⟩ = some (.int .i64 x.id) := HX0.out ⟨wq, HQ.out⟩
                    go_wp2_with (go_at_call 36; refine ((HM.out.keep (HT1.out.trans HQ.out)).put (kind := 6) (id := x.id) (by omega) rfl HIW.out).mono ?_; rintro e w3 ⟨t3, rfl, hm, -⟩; have HM3 := Lib.hid hm; clear hm)
                    go_roundw
                    case rel => exact ⟨k + 1, t3, by omega, by go_num, rfl, HM3.out.iff (by omega) (chg_put HCK.out (fun i h => by rw [HJ.out] at h; cases h; exact HSE.out))⟩
                    case measure => simp [intOf]; omega
              · have kk : ((k0 : Int) == (k : Int)) = false := by rw [beq_eq_false_iff_ne]; omega
                have HKK := Lib.hid hkk
                clear hkk
                go_wp2
                refine wp_region_turned (by kernel_rfl) (by kernel_rfl) ?_
                repeat (go_big_quiet_step ((go_at_call 38; exact Calls.tby (HPD1.out _))))
                refine wpQuiet_nil ?_
                intro wq hw'
                have HQ := Lib.hid (show Turned [] w1 wq from by obtain ⟨p, rfl⟩ := hw'; exact p.t)
                clear hw'
                go_wp2
                go_roundw
                case rel => exact ⟨k + 1, t, by omega, by go_num, rfl, (HM.out.keep (HT1.out.trans HQ.out)).iff (by omega) (chg_skip HFI.out (fun h => HKK.out (Option.some.inj (HK0.out.symm.trans h.1))))⟩
                case measure => simp [intOf]; omega
            · obtain rfl : k = D.socks.len := by omega
              have HM2 := Lib.hid (HM.out.iff (m' := 28) (by omega) (P' := Eff3 D E) (fun o => by unfold Eff3; exact (chg_all (ids := D.sockIds) (n := D.socks.len) (by unfold DumpV.sockIds; rw [List.length_map]; exact HD.out.socks.n) o).symm))
              clear HM hk hlt
              go_wp2
              go_loopw [5, 13] (fun v iv wr => ∃ (k : Nat) (t : Sl Ob), k ≤ D.procs.len ∧ iv = .int .i64 k ∧ v = .slice t.a t.len t.cap ∧ EAt w wr D E (28 + k) t (fun o => Eff3 D E o ∨ o.1 = 7 ∧ ChgK D.procIds E.procIds (sameProc D E) k o.2)) (fun _ iv _ => D.procs.len - (intOf iv).toNat)
              case atStart => exact ⟨0, t, by omega, rfl, rfl, HM2.out.iff (Nat.le_refl _) chg_none⟩
              case round =>
                obtain ⟨k, t, hk, rfl, rfl, hm⟩ := hrel
                have HM := Lib.hid hm
                clear hm HM2 d5
                have d0 := (box_cells HM.out.box1).1
                simp only [Sl.v] at d0
                by_cases hlt : k < D.procs.len
                · as_aux_lemma =>
                  obtain ⟨x, hx⟩ : ∃ x, D.procs.xs[k]? = some x := ⟨D.procs.xs[k]'(by omega), by simp⟩
                  obtain ⟨b, o, hab, c0, c1, c2, c3, c4, c5, c6, hiw, -⟩ := proc_cells ((HD.out.stays HM.out.tw).procs.at_ k x hx)
                  rw [hab] at d0
                  have HAB := Lib.hid hab
                  have HX := Lib.hid hx
                  have HIW := Lib.hid hiw
                  have HFI := Lib.hid (show D.procIds[k]? = some x.pid by unfold DumpV.procIds; rw [List.getElem?_map, hx]; rfl)
                  obtain ⟨k0, hk0⟩ := ix_of HFI.out
                  have HK0 := Lib.hid hk0
                  have HPE : Hid (∀ p : TBy wr, Calls Try.prog 40 #[E.v, .int .i64 x.pid] p.w fun e w' => e = .returned (.int .i64 (ixv (ixOf E.procIds x.pid))) ∧ Turned [] p.w w') := Lib.hid fun p => place_proc (HE.out.stays (HM.out.tw.trans p.t))
                  have HPD : Hid (∀ w1, Turned [] wr w1 → Calls Try.prog 40 #[D.v, .int .i64 x.pid] w1 fun e w' => e = .returned (.int .i64 (k0 : Int)) ∧ Turned [] w1 w') := Lib.hid fun w1 h => by
                    have h1 := place_proc (id := x.pid) (HD.out.stays (HM.out.tw.trans h))
                    rwa [show ixOf (D.procs.xs.map ProcV.pid) x.pid = some k0 from HK0.out] at h1
                  simp only [DumpV.v, DumpV.cells, Sl.v] at HPE HPD
                  rw [hab] at HPD
                  go_wp2
                  have e0 : ∀ p : TBy wr, p.w.cell? ⟨w.heap.size + 1, 0, none⟩ = some (.slice E.procs.a E.procs.len E.procs.cap) := fun p => p.t.cell (block_cell HM.out.box2 rfl) (by simp)
                  have e1 : ∀ p : TBy wr, p.w.cell? ⟨w.heap.size + 1, 1, none⟩ = some (.slice E.held.a E.held.len E.held.cap) := fun p => p.t.cell (block_cell HM.out.box2 rfl) (by simp)
                  have e2 : ∀ p : TBy wr, p.w.cell? ⟨w.heap.size + 1, 2, none⟩ = some (.slice E.parks.a E.parks.len E.parks.cap) := fun p => p.t.cell (block_cell HM.out.box2 rfl) (by simp)
                  have e3 : ∀ p : TBy wr, p.w.cell? ⟨w.heap.size + 1, 3, none⟩ = some (.slice E.files.a E.files.len E.files.cap) := fun p => p.t.cell (block_cell HM.out.box2 rfl) (by simp)
                  have e4 : ∀ p : TBy wr, p.w.cell? ⟨w.heap.size + 1, 4, none⟩ = some (.slice E.pipes.a E.pipes.len E.pipes.cap) := fun p => p.t.cell (block_cell HM.out.box2 rfl) (by simp)
                  have e5 : ∀ p : TBy wr, p.w.cell? ⟨w.heap.size + 1, 5, none⟩ = some (.slice E.socks.a E.socks.len E.socks.cap) := fun p => p.t.cell (block_cell HM.out.box2 rfl) (by simp)
                  have e6 : ∀ p : TBy wr, p.w.cell? ⟨w.heap.size + 1, 6, none⟩ = some (.slice E.inodes.a E.inodes.len E.inodes.cap) := fun p => p.t.cell (block_cell HM.out.box2 rfl) (by simp)
                  have e7 : ∀ p : TBy wr, p.w.cell? ⟨w.heap.size + 1, 7, none⟩ = some (.int .i64 E.n0) := fun p => p.t.cell (block_cell HM.out.box2 rfl) (by simp)
                  have e8 : ∀ p : TBy wr, p.w.cell? ⟨w.heap.size + 1, 8, none⟩ = some (.int .i64 E.n1) := fun p => p.t.cell (block_cell HM.out.box2 rfl) (by simp)
                  have e9 : ∀ p : TBy wr, p.w.cell? ⟨w.heap.size + 1, 9, none⟩ = some (.int .i64 E.n2) := fun p => p.t.cell (block_cell HM.out.box2 rfl) (by simp)
                  have e10 : ∀ p : TBy wr, p.w.cell? ⟨w.heap.size + 1, 10, none⟩ = some (.int .i64 E.n3) := fun p => p.t.cell (block_cell HM.out.box2 rfl) (by simp)
                  have e11 : ∀ p : TBy wr, p.w.cell? ⟨w.heap.size + 1, 11, none⟩ = some (.int .i64 E.n4) := fun p => p.t.cell (block_cell HM.out.box2 rfl) (by simp)
                  have a0 : ∀ p : TBy wr, p.w.cell? ⟨w.heap.size, 0, none⟩ = some (.slice (some ⟨b, o, none⟩) D.procs.len D.procs.cap) := fun p => p.t.cell d0 (by simp)
                  have x0 : ∀ p : TBy wr, p.w.cell? ⟨b, o + k * 7, none⟩ = some (.int .i64 x.pid) := fun p => p.t.cell c0 (by simp)
                  refine wp_region_turned (by kernel_rfl) (by kernel_rfl) ?_
                  repeat (go_big_quiet_step ((go_at_call 40; exact Calls.tby (HPE.out _))))
                  refine wpQuiet_nil ?_
                  intro w1 hw'
                  have HT1 := Lib.hid (show Turned [] wr w1 from by obtain ⟨p, rfl⟩ := hw'; exact p.t)
                  clear hw'
                  clear x0 a0 d0 e0 e1 e2 e3 e4 e5 e6 e7 e8 e9 e10 e11 hab hx hiw hk0
                  have HBX1 := Lib.hid (HT1.out.keep HM.out.box1 (by simp))
                  have HBX2 := Lib.hid (HT1.out.keep HM.out.box2 (by simp))
                  replace c0 := HT1.out.cell c0 (by simp)
                  replace c1 := HT1.out.cell c1 (by simp)
                  replace c2 := HT1.out.cell c2 (by simp)
                  replace c3 := HT1.out.cell c3 (by simp)
                  replace c4 := HT1.out.cell c4 (by simp)
                  replace c5 := HT1.out.cell c5 (by simp)
                  replace c6 := HT1.out.cell c6 (by simp)
                  have a0 : w1.cell? ⟨w.heap.size, 0, none⟩ = some (.slice (some ⟨b, o, none⟩) D.procs.len D.procs.cap) := by rw [← HAB.out]; exact block_cell HBX1.out rfl
                  have hBl : w.heap.size + 1 < w1.heap.size := lt_of_heap HBX2.out
                  have hBn : ¬ w.heap.size + 1 = w1.heap.size := by omega
                  cases hj : ixOf E.procIds x.pid with
                  | none =>
                    have HJ := Lib.hid hj
                    have hm1 : ixv none = -1 := rfl
                    rw [hm1]
                    clear hj hm1
                    go_wp2
                    generalize hV : World.alloc w1 _ = V
                    have HTV := Lib.hid (show Turned [] wr V from by rw [← hV]; exact HT1.out.alloc _)
                    have HPB := Lib.hid (show V.heap[w1.heap.size]? = some (.cells #[.int .i64 x.pid, .int .i64 x.parent, .bool x.lives, .int .i64 x.code, .bool x.pd, .bool x.cap, .int .i64 x.cwd] 82 (0, 0)) from by rw [← hV]; exact heap_alloc_new _ _)
                    have HVX1 := Lib.hid (HTV.out.keep HM.out.box1 (by simp))
                    have HVX2 := Lib.hid (HTV.out.keep HM.out.box2 (by simp))
                    clear hV a0 c0 c1 c2 c3 c4 c5 c6 hBl hBn
                    have a0 : ∀ p : TBy V, p.w.cell? ⟨w.heap.size, 0, none⟩ = some (.slice (some ⟨b, o, none⟩) D.procs.len D.procs.cap) := fun p => p.t.cell (by rw [← HAB.out]; exact block_cell HVX1.out rfl) (by simp)
                    have a1 : ∀ p : TBy V, p.w.cell? ⟨w.heap.size, 1, none⟩ = some (.slice D.held.a D.held.len D.held.cap) := fun p => p.t.cell (block_cell HVX1.out rfl) (by simp)
                    have a2 : ∀ p : TBy V, p.w.cell? ⟨w.heap.size, 2, none⟩ = some (.slice D.parks.a D.parks.len D.parks.cap) := fun p => p.t.cell (block_cell HVX1.out rfl) (by simp)
                    have a3 : ∀ p : TBy V, p.w.cell? ⟨w.heap.size, 3, none⟩ = some (.slice D.files.a D.files.len D.files.cap) := fun p => p.t.cell (block_cell HVX1.out rfl) (by simp)
                    have a4 : ∀ p : TBy V, p.w.cell? ⟨w.heap.size, 4, none⟩ = some (.slice D.pipes.a D.pipes.len D.pipes.cap) := fun p => p.t.cell (block_cell HVX1.out rfl) (by simp)
                    have a5 : ∀ p : TBy V, p.w.cell? ⟨w.heap.size, 5, none⟩ = some (.slice D.socks.a D.socks.len D.socks.cap) := fun p => p.t.cell (block_cell HVX1.out rfl) (by simp)
                    have a6 : ∀ p : TBy V, p.w.cell? ⟨w.heap.size, 6, none⟩ = some (.slice D.inodes.a D.inodes.len D.inodes.cap) := fun p => p.t.cell (block_cell HVX1.out rfl) (by simp)
                    have a7 : ∀ p : TBy V, p.w.cell? ⟨w.heap.size, 7, none⟩ = some (.int .i64 D.n0) := fun p => p.t.cell (block_cell HVX1.out rfl) (by simp)
                    have a8 : ∀ p : TBy V, p.w.cell? ⟨w.heap.size, 8, none⟩ = some (.int .i64 D.n1) := fun p => p.t.cell (block_cell HVX1.out rfl) (by simp)
                    have a9 : ∀ p : TBy V, p.w.cell? ⟨w.heap.size, 9, none⟩ = some (.int .i64 D.n2) := fun p => p.t.cell (block_cell HVX1.out rfl) (by simp)
                    have a10 : ∀ p : TBy V, p.w.cell? ⟨w.heap.size, 10, none⟩ = some (.int .i64 D.n3) := fun p => p.t.cell (block_cell HVX1.out rfl) (by simp)
                    have a11 : ∀ p : TBy V, p.w.cell? ⟨w.heap.size, 11, none⟩ = some (.int .i64 D.n4) := fun p => p.t.cell (block_cell HVX1.out rfl) (by simp)
                    have p0 : ∀ p : TBy V, p.w.cell? ⟨w1.heap.size, 0, none⟩ = some (.int .i64 x.pid) := fun p => p.t.cell (block_cell HPB.out rfl) (by simp)
                    have p1 : ∀ p : TBy V, p.w.cell? ⟨w1.heap.size, 1, none⟩ = some (.int .i64 x.parent) := fun p => p.t.cell (block_cell HPB.out rfl) (by simp)
                    have p2 : ∀ p : TBy V, p.w.cell? ⟨w1.heap.size, 2, none⟩ = some (.bool x.lives) := fun p => p.t.cell (block_cell HPB.out rfl) (by simp)
                    have p3 : ∀ p : TBy V, p.w.cell? ⟨w1.heap.size, 3, none⟩ = some (.int .i64 x.code) := fun p => p.t.cell (block_cell HPB.out rfl) (by simp)
                    have p4 : ∀ p : TBy V, p.w.cell? ⟨w1.heap.size, 4, none⟩ = some (.bool x.pd) := fun p => p.t.cell (block_cell HPB.out rfl) (by simp)
                    have p5 : ∀ p : TBy V, p.w.cell? ⟨w1.heap.size, 5, none⟩ = some (.bool x.cap) := fun p => p.t.cell (block_cell HPB.out rfl) (by simp)
                    have p6 : ∀ p : TBy V, p.w.cell? ⟨w1.heap.size, 6, none⟩ = some (.int .i64 x.cwd) := fun p => p.t.cell (block_cell HPB.out rfl) (by simp)
                    have HX0 := Lib.hid p0
                    have HPD1 : Hid (∀ p : TBy V, _) := Lib.hid fun p => HPD.out p.w (HTV.out.trans p.t)
                    by_cases hkk : k0 = k
                    · obtain rfl : k = k0 := hkk.symm
                      clear hkk
                      have HCK := Lib.hid HK0.out
                      have kk : ((k : Int) == (k : Int)) = true := by simp
                      go_wp2
                      refine wp_region_turned (by kernel_rfl) (by kernel_rfl) ?_
                      repeat (go_big_quiet_step ((go_at_call 40; exact Calls.tby (HPD1.out _))))
                      refine wpQuiet_nil ?_
                      intro wq hw'
                      have HQ := Lib.hid (show Turned [] V wq from by obtain ⟨p, rfl⟩ := hw'; exact p.t)
                      clear hw'
                      have q0 : wq.cell? ⟨w1.heap.size, 0, none⟩ = some (.int .i64 x.pid) := HX0.out ⟨wq, HQ.out⟩
                      go_wp2_with (go_at_call 36; refine ((HM.out.keep (HTV.out.trans HQ.out)).put (kind := 7) (id := x.pid) (by omega) rfl HIW.out).mono ?_; rintro e w3 ⟨t3, rfl, hm, -⟩; have HM3 := Lib.hid hm; clear hm)
                      go_roundw
                      case rel => exact ⟨k + 1, t3, by omega, by go_num, rfl, HM3.out.iff (by omega) (chg_put HCK.out (fun j h => by rw [HJ.out] at h; cases h))⟩
                      case measure => simp [intOf]; omega
                    · have hkk' := hkk
                      clear hkk'
                      have kk : ((k0 : Int) == (k : Int)) = false := by rw [beq_eq_false_iff_ne]; omega
                      have HKK := Lib.hid hkk
                      clear hkk
                      go_wp2
                      refine wp_region_turned (by kernel_rfl) (by kernel_rfl) ?_
                      repeat (go_big_quiet_step ((go_at_call 40; exact Calls.tby (HPD1.out _))))
                      refine wpQuiet_nil ?_
                      intro wq hw'
                      have HQ := Lib.hid (show Turned [] V wq from by obtain ⟨p, rfl⟩ := hw'; exact p.t)
                      clear hw'
                      go_wp2
                      go_roundw
                      case rel => exact ⟨k + 1, t, by omega, by go_num, rfl, (HM.out.keep (HTV.out.trans HQ.out)).iff (by omega) (chg_skip HFI.out (fun h => HKK.out (Option.some.inj (HK0.out.symm.trans h.1))))⟩
                      case measure => simp [intOf]; omega
                  | some j =>
                    have HJ := Lib.hid hj
                    have hm1 : ixv (some j) = (j : Int) := rfl
                    rw [hm1]
                    obtain ⟨y, hy⟩ : ∃ y, E.procs.xs[j]? = some y := by
                      have h1 := (ixOf_some.1 hj).1
                      unfold DumpV.procIds at h1
                      rw [List.getElem?_map] at h1
                      obtain ⟨y, hy, _⟩ := Option.map_eq_some_iff.1 h1
                      exact ⟨y, hy⟩
                    have hjl : j < E.procs.len := by rw [← hE.procs.n]; exact (List.getElem?_eq_some_iff.1 hy).1
                    have j0 : decide ((j : Int) < 0) = false := by simp
                    have HSE := Lib.hid (show k0 = k → sameProc D E k j = procEq x y from fun _ => by unfold sameProc; rw [HX.out, hy])
                    obtain ⟨b', o', hab', g0, g1, g2, g3, g4, g5, g6, -⟩ := proc_cells ((HE.out.stays (HM.out.tw.trans HT1.out)).procs.at_ j y hy)
                    have HAB' := Lib.hid hab'
                    have e0 : w1.cell? ⟨w.heap.size + 1, 0, none⟩ = some (.slice (some ⟨b', o', none⟩) E.procs.len E.procs.cap) := by rw [← hab']; exact block_cell HBX2.out rfl
                    have hbl : b' < w1.heap.size := World.block_lt_of_cell? w1 _ g0
                    have hbn : ¬ b' = w1.heap.size := by omega
                    clear hj hm1 hy hab'
                    go_upto_region 28 with fail
                    generalize hV : World.alloc w1 _ = V
                    have HTV := Lib.hid (show Turned [] wr V from by rw [← hV]; exact HT1.out.alloc _)
                    have HPB := Lib.hid (show V.heap[w1.heap.size]? = some (.cells #[.int .i64 x.pid, .int .i64 y.parent, .bool x.lives, .int .i64 x.code, .bool x.pd, .bool x.cap, .int .i64 x.cwd] 82 (0, 0)) from by rw [← hV]; exact heap_alloc_new _ _)
                    have HVX1 := Lib.hid (HTV.out.keep HM.out.box1 (by simp))
                    have HVX2 := Lib.hid (HTV.out.keep HM.out.box2 (by simp))
                    have HG := Lib.hid (And.intro g0 (And.intro g1 (And.intro g2 (And.intro g3 (And.intro g4 (And.intro g5 g6))))))
                    have HT1V := Lib.hid (show Turned [] w1 V by rw [← hV]; exact (Turned.refl _ _).alloc _)
                    clear hV a0 c0 c1 c2 c3 c4 c5 c6 hBl hBn e0 hbl hbn g0 g1 g2 g3 g4 g5 g6
                    obtain ⟨g0, g1, g2, g3, g4, g5, g6⟩ := HG.out
                    have a0 : ∀ p : TBy V, p.w.cell? ⟨w.heap.size, 0, none⟩ = some (.slice (some ⟨b, o, none⟩) D.procs.len D.procs.cap) := fun p => p.t.cell (by rw [← HAB.out]; exact block_cell HVX1.out rfl) (by simp)
                    have a1 : ∀ p : TBy V, p.w.cell? ⟨w.heap.size, 1, none⟩ = some (.slice D.held.a D.held.len D.held.cap) := fun p => p.t.cell (block_cell HVX1.out rfl) (by simp)
                    have a2 : ∀ p : TBy V, p.w.cell? ⟨w.heap.size, 2, none⟩ = some (.slice D.parks.a D.parks.len D.parks.cap) := fun p => p.t.cell (block_cell HVX1.out rfl) (by simp)
                    have a3 : ∀ p : TBy V, p.w.cell? ⟨w.heap.size, 3, none⟩ = some (.slice D.files.a D.files.len D.files.cap) := fun p => p.t.cell (block_cell HVX1.out rfl) (by simp)
                    have a4 : ∀ p : TBy V, p.w.cell? ⟨w.heap.size, 4, none⟩ = some (.slice D.pipes.a D.pipes.len D.pipes.cap) := fun p => p.t.cell (block_cell HVX1.out rfl) (by simp)
                    have a5 : ∀ p : TBy V, p.w.cell? ⟨w.heap.size, 5, none⟩ = some (.slice D.socks.a D.socks.len D.socks.cap) := fun p => p.t.cell (block_cell HVX1.out rfl) (by simp)
                    have a6 : ∀ p : TBy V, p.w.cell? ⟨w.heap.size, 6, none⟩ = some (.slice D.inodes.a D.inodes.len D.inodes.cap) := fun p => p.t.cell (block_cell HVX1.out rfl) (by simp)
                    have a7 : ∀ p : TBy V, p.w.cell? ⟨w.heap.size, 7, none⟩ = some (.int .i64 D.n0) := fun p => p.t.cell (block_cell HVX1.out rfl) (by simp)
                    have a8 : ∀ p : TBy V, p.w.cell? ⟨w.heap.size, 8, none⟩ = some (.int .i64 D.n1) := fun p => p.t.cell (block_cell HVX1.out rfl) (by simp)
                    have a9 : ∀ p : TBy V, p.w.cell? ⟨w.heap.size, 9, none⟩ = some (.int .i64 D.n2) := fun p => p.t.cell (block_cell HVX1.out rfl) (by simp)
                    have a10 : ∀ p : TBy V, p.w.cell? ⟨w.heap.size, 10, none⟩ = some (.int .i64 D.n3) := fun p => p.t.cell (block_cell HVX1.out rfl) (by simp)
                    have a11 : ∀ p : TBy V, p.w.cell? ⟨w.heap.size, 11, none⟩ = some (.int .i64 D.n4) := fun p => p.t.cell (block_cell HVX1.out rfl) (by simp)
                    have p0 : ∀ p : TBy V, p.w.cell? ⟨w1.heap.size, 0, none⟩ = some (.int .i64 x.pid) := fun p => p.t.cell (block_cell HPB.out rfl) (by simp)
                    have p1 : ∀ p : TBy V, p.w.cell? ⟨w1.heap.size, 1, none⟩ = some (.int .i64 y.parent) := fun p => p.t.cell (block_cell HPB.out rfl) (by simp)
                    have p2 : ∀ p : TBy V, p.w.cell? ⟨w1.heap.size, 2, none⟩ = some (.bool x.lives) := fun p => p.t.cell (block_cell HPB.out rfl) (by simp)
                    have p3 : ∀ p : TBy V, p.w.cell? ⟨w1.heap.size, 3, none⟩ = some (.int .i64 x.code) := fun p => p.t.cell (block_cell HPB.out rfl) (by simp)
                    have p4 : ∀ p : TBy V, p.w.cell? ⟨w1.heap.size, 4, none⟩ = some (.bool x.pd) := fun p => p.t.cell (block_cell HPB.out rfl) (by simp)
                    have p5 : ∀ p : TBy V, p.w.cell? ⟨w1.heap.size, 5, none⟩ = some (.bool x.cap) := fun p => p.t.cell (block_cell HPB.out rfl) (by simp)
                    have p6 : ∀ p : TBy V, p.w.cell? ⟨w1.heap.size, 6, none⟩ = some (.int .i64 x.cwd) := fun p => p.t.cell (block_cell HPB.out rfl) (by simp)
                    have HX0 := Lib.hid p0
                    have HPD1 : Hid (∀ p : TBy V, _) := Lib.hid fun p => HPD.out p.w (HTV.out.trans p.t)
                    have y0 : ∀ p : TBy V, p.w.cell? ⟨b', o' + j * 7, none⟩ = some (.int .i64 y.pid) := fun p => p.t.cell (HT1V.out.cell g0 (by simp)) (by simp)
                    have y1 : ∀ p : TBy V, p.w.cell? ⟨b', o' + j * 7 + 1, none⟩ = some (.int .i64 y.parent) := fun p => p.t.cell (HT1V.out.cell g1 (by simp)) (by simp)
                    have y2 : ∀ p : TBy V, p.w.cell? ⟨b', o' + j * 7 + 2, none⟩ = some (.bool y.lives) := fun p => p.t.cell (HT1V.out.cell g2 (by simp)) (by simp)
                    have y3 : ∀ p : TBy V, p.w.cell? ⟨b', o' + j * 7 + 3, none⟩ = some (.int .i64 y.code) := fun p => p.t.cell (HT1V.out.cell g3 (by simp)) (by simp)
                    have y4 : ∀ p : TBy V, p.w.cell? ⟨b', o' + j * 7 + 4, none⟩ = some (.bool y.pd) := fun p => p.t.cell (HT1V.out.cell g4 (by simp)) (by simp)
                    have y5 : ∀ p : TBy V, p.w.cell? ⟨b', o' + j * 7 + 5, none⟩ = some (.bool y.cap) := fun p => p.t.cell (HT1V.out.cell g5 (by simp)) (by simp)
                    have y6 : ∀ p : TBy V, p.w.cell? ⟨b', o' + j * 7 + 6, none⟩ = some (.int .i64 y.cwd) := fun p => p.t.cell (HT1V.out.cell g6 (by simp)) (by simp)
                    have e0 : ∀ p : TBy V, p.w.cell? ⟨w.heap.size + 1, 0, none⟩ = some (.slice (some ⟨b', o', none⟩) E.procs.len E.procs.cap) := fun p => p.t.cell (by rw [← HAB'.out]; exact block_cell HVX2.out rfl) (by simp)
                    have hne : ∀ w, (binOp .neq 82 (.agg #[.int .i64 x.pid, .int .i64 y.parent, .bool x.lives, .int .i64 x.code, .bool x.pd, .bool x.cap, .int .i64 x.cwd]) (.agg #[.int .i64 y.pid, .int .i64 y.parent, .bool y.lives, .int .i64 y.code, .bool y.pd, .bool y.cap, .int .i64 y.cwd])).run Try.prog w = .ok (.bool (!procEq x y)) w := fun w => by rw [neq_proc]; simp [procEq]
                    clear g0 g1 g2 g3 g4 g5 g6
                    by_cases hkk : k0 = k
                    · have HSE2 := Lib.hid (HSE.out hkk)
                      obtain rfl : k = k0 := hkk.symm
                      clear hkk
                      have HCK := Lib.hid HK0.out
                      have kk : ((k : Int) == (k : Int)) = true := by simp
                      cases hr : procEq x y with
                      | true =>
                        rw [hr] at hne HSE2
                        clear hr
                        go_wp2
                        refine wp_region_turned (by kernel_rfl) (by kernel_rfl) ?_
                        repeat (go_big_quiet_step ((go_at_call 40; exact Calls.tby (HPD1.out _))))
                        refine wpQuiet_nil ?_
                        intro wq hw'
                        have HQ := Lib.hid (show Turned [] V wq from by obtain ⟨p, rfl⟩ := hw'; exact p.t)
                        clear hw'
                        go_wp2
                        go_roundw
                        case rel => exact ⟨k + 1, t, by omega, by go_num, rfl, (HM.out.keep (HTV.out.trans HQ.out)).iff (by omega) (chg_skip HFI.out (fun h => by have := h.2 j HJ.out; rw [HSE2.out] at this; cases this))⟩
                        case measure => simp [intOf]; omega
                      | false =>
                        rw [hr] at hne HSE2
                        clear hr
                        go_wp2
                        refine wp_region_turned (by kernel_rfl) (by kernel_rfl) ?_
                        repeat (go_big_quiet_step ((go_at_call 40; exact Calls.tby (HPD1.out _))))
                        refine wpQuiet_nil ?_
                        intro wq hw'
                        have HQ := Lib.hid (show Turned [] V wq from by obtain ⟨p, rfl⟩ := hw'; exact p.t)
                        clear hw'
                        have q0 : wq.cell? ⟨w1.heap.size, 0, none⟩ = some (.int .i64 x.pid) := HX0.out ⟨wq, HQ.out⟩
                        go_wp2_with (go_at_call 36; refine ((HM.out.keep (HTV.out.trans HQ.out)).put (kind := 7) (id := x.pid) (by omega) rfl HIW.out).mono ?_; rintro e w3 ⟨t3, rfl, hm, -⟩; have HM3 := Lib.hid hm; clear hm)
                        go_roundw
                        case rel => exact ⟨k + 1, t3, by omega, by go_num, rfl, HM3.out.iff (by omega) (chg_put HCK.out (fun i h => by rw [HJ.out] at h; cases h; exact HSE2.out))⟩
                        case measure => simp [intOf]; omega
                    · have hkk' := hkk
                      clear hkk'
                      have kk : ((k0 : Int) == (k : Int)) = false := by rw [beq_eq_false_iff_ne]; omega
                      have HKK := Lib.hid hkk
                      clear hkk
                      go_wp2
                      refine wp_region_turned (by kernel_rfl) (by kernel_rfl) ?_
                      repeat (go_big_quiet_step ((go_at_call 40; exact Calls.tby (HPD1.out _))))
                      refine wpQuiet_nil ?_
                      intro wq hw'
                      have HQ := Lib.hid (show Turned [] V wq from by obtain ⟨p, rfl⟩ := hw'; exact p.t)
                      clear hw'
                      go_wp2
                      go_roundw
                      case rel => exact ⟨k + 1, t, by omega, by go_num, rfl, (HM.out.keep (HTV.out.trans HQ.out)).iff (by omega) (chg_skip HFI.out (fun h => HKK.out (Option.some.inj (HK0.out.symm.trans h.1))))⟩
                      case measure => simp [intOf]; omega
                · obtain rfl : k = D.procs.len := by omega
                  have HM2 := Lib.hid (HM.out.iff (m' := 36) (by omega) (P' := Eff4 D E) (fun o => by unfold Eff4; exact (chg_all (ids := D.procIds) (n := D.procs.len) (by unfold DumpV.procIds; rw [List.length_map]; exact HD.out.procs.n) o).symm))
                  clear HM hk hlt
                  go_wp2
                  go_ret
                  exact ⟨t, rfl, HM2.out.ord, HM2.out.tw, HM2.out.len, fun y => (HM2.out.mem y).trans eff4_iff⟩
end Go.Proofs.Yteaglbfodeineaa
