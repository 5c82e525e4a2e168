/-
  The index of a dump: the walk.
-/
import Derived.Test.YteaglbfodeineaaGrp
import Derived.Test.YteaglbfodeineaaApp
import Derived.Deep.RegionWith
import Derived.Deep.RegionHeld3
import Derived.Deep.AppendLies
namespace Go.Proofs.Yteaglbfodeineaa
open Go.RowKit

theorem set_turned {w1 w2 : World} {X k : Nat} {v : Value} (h : Turned [] (w1.setCell ⟨X, k, none⟩ v) w2) : Turned [X] w1 w2 :=
  ((Turned.refl [X] w1).setCell (.inl (by simp)) v).trans (h.mono (by simp))

theorem sock_place {D : DumpV} {k : Nat} {s : SockV} (hs : D.socks.xs[k]? = some s) : ∃ j, ixOf D.sockIds s.id = some j := by
  cases h : ixOf D.sockIds s.id with
  | some j => exact ⟨j, rfl⟩
  | none => exact absurd (List.mem_map.2 ⟨s, List.mem_of_getElem? hs, rfl⟩) (ixOf_none.1 h)

theorem Try.info3 : (Try.prog.info? 3).map (fun i => (i.zero, i.size, i.bytes)) = some (some (.int .i64 0), 1, 8) := by kernel_rfl

/-- What turns an old block that is neither the map nor one of its rows (all of which lie from 'base' on). -/
theorem Groups.other {w w' : World} {base b n c : Nat} {g : Int → List Int} (h : Groups w base b n g) (ht : Turned [c] w w') (hc : b ≠ c) (hcb : c < base) : Groups w' base b n g := by
  obtain ⟨f, h1, h2, h3, h4⟩ := h
  exact ⟨f, h1.kept ht (by simpa using hc), h2, Nat.le_trans h3 ht.size, fun x v hx => ht.owns (h4.row x v hx) (fun k hk e => by have := ((h4.row x v hx).lt k hk).1; simp at e; omega), h4.none_, h4.len, h4.wf, h4.apart⟩

set_option maxRecDepth 100000 in
set_option maxHeartbeats 4000000 in
theorem indexed_any {w : World} {D : DumpV} (hD : RDump w D) (hbs : D.socks.len ≤ 1000000) (hbh : D.held.len ≤ 1000000) :
    Calls Try.prog 44 #[D.v] w fun e w' => ∃ X m1 m2 m3 m4 m5 mb mh, e = .returned (.pointer (some ⟨X, 0, none⟩)) ∧ Turned [] w w' ∧ IxAt w' X m1 m2 m3 m4 m5 mb mh D ∧
      (∃ base n, Groups w' base mb n (boundUpto D D.socks.len)) ∧ (∃ base n, Groups w' base mh n (heldUpto D D.held.len)) := by
  have hmm := @run_makeMap Try.prog
  have hmf : ∀ (fn : Fn) (first cap : Array Value) (w : World), (Instr.makeFunc fn first cap).run Try.prog w = .ok (.func fn first cap) w := fun _ _ _ _ => rfl
  have HD := Lib.hid hD
  clear hD
  simp only [DumpV.v, DumpV.cells, Sl.v]
  go_enter Try.func44, Try.ntmps44
  go_wp2_with (first
    | (go_at_call_of 62 (D.procs.len); refine (first_63 HD.out (Pre.made _ _ _)).mono ?_; rintro e w1 ⟨m1, rfl, hm1, hM1, ht1⟩; have HP1 := Lib.hid ((Pre.made _ _ _).kept ht1); have HM1 := Lib.hid hM1; have HT1 := Lib.hid ht1; have c3 : w1.cell? ⟨w.heap.size, 3, none⟩ = some (.slice D.files.a D.files.len D.files.cap) := block_cell HP1.out.box rfl; have x12 : w1.cell? ⟨w.heap.size + 3, 12, none⟩ = some (.map none) := block_cell HP1.out.idx rfl; have z12 := block_free HP1.out.idx 12; have hm1' : w.heap.size + 3 < m1 := (by simp at hm1; omega); clear hM1 ht1 hm1)
    | (go_at_call_of 62 (D.files.len); refine (first_64 HD.out (HP1.out.set 12 _)).mono ?_; rintro e w2 ⟨m2, rfl, hm2, hM2, ht2⟩; have HP2 := Lib.hid ((HP1.out.set 12 _).kept ht2); have HM2 := Lib.hid hM2; have HT2 := Lib.hid ht2; clear c3 x12 z12; have c4 : w2.cell? ⟨w.heap.size, 4, none⟩ = some (.slice D.pipes.a D.pipes.len D.pipes.cap) := block_cell HP2.out.box rfl; have x13 : w2.cell? ⟨w.heap.size + 3, 13, none⟩ = some (.map none) := block_cell HP2.out.idx rfl; have z13 := block_free HP2.out.idx 13; have hm2' : w.heap.size + 3 < m2 := (by have := HP1.out.size; simp at hm2; omega); clear hM2 ht2 hm2)
    | (go_at_call_of 62 (D.pipes.len); refine (first_65 HD.out (HP2.out.set 13 _)).mono ?_; rintro e w3 ⟨m3, rfl, hm3, hM3, ht3⟩; have HP3 := Lib.hid ((HP2.out.set 13 _).kept ht3); have HM3 := Lib.hid hM3; have HT3 := Lib.hid ht3; clear c4 x13 z13; have c5 : w3.cell? ⟨w.heap.size, 5, none⟩ = some (.slice D.socks.a D.socks.len D.socks.cap) := block_cell HP3.out.box rfl; have x14 : w3.cell? ⟨w.heap.size + 3, 14, none⟩ = some (.map none) := block_cell HP3.out.idx rfl; have z14 := block_free HP3.out.idx 14; have hm3' : w.heap.size + 3 < m3 := (by have := HP2.out.size; simp at hm3; omega); clear hM3 ht3 hm3)
    | (go_at_call_of 62 (D.socks.len); refine (first_66 HD.out (HP3.out.set 14 _)).mono ?_; rintro e w4 ⟨m4, rfl, hm4, hM4, ht4⟩; have HP4 := Lib.hid ((HP3.out.set 14 _).kept ht4); have HM4 := Lib.hid hM4; have HT4 := Lib.hid ht4; clear c5 x14 z14; have c6 : w4.cell? ⟨w.heap.size, 6, none⟩ = some (.slice D.inodes.a D.inodes.len D.inodes.cap) := block_cell HP4.out.box rfl; have x15 : w4.cell? ⟨w.heap.size + 3, 15, none⟩ = some (.map none) := block_cell HP4.out.idx rfl; have z15 := block_free HP4.out.idx 15; have hm4' : w.heap.size + 3 < m4 := (by have := HP3.out.size; simp at hm4; omega); clear hM4 ht4 hm4)
    | (go_at_call_of 62 (D.inodes.len); refine (first_67 HD.out (HP4.out.set 15 _)).mono ?_; rintro e w5 ⟨m5, rfl, hm5, hM5, ht5⟩; have HP5 := Lib.hid ((HP4.out.set 15 _).kept ht5); have HM5 := Lib.hid hM5; have HT5 := Lib.hid ht5; clear c6 x15 z15; have c5 : w5.cell? ⟨w.heap.size, 5, none⟩ = some (.slice D.socks.a D.socks.len D.socks.cap) := block_cell HP5.out.box rfl; have x16 : w5.cell? ⟨w.heap.size + 3, 16, none⟩ = some (.map none) := block_cell HP5.out.idx rfl; have z16 := block_free HP5.out.idx 16; have hm5' : w.heap.size + 3 < m5 := (by have := HP4.out.size; simp at hm5; omega); clear hM5 ht5 hm5))
  generalize hW : World.setCell w5 _ _ = W
  have hI : IxAt W (w.heap.size + 3) m1 m2 m3 m4 m5 (w.heap.size + 1) (w.heap.size + 2) D := by
    have tl : Turned [w.heap.size + 3] w5 W := by rw [← hW]; exact (Turned.refl _ _).setCell (.inl (by simp)) _
    refine ⟨by rw [← hW]; exact (HP5.out.set 16 (.map (some m5))).idx, ?_, ?_, ?_, ?_, ?_⟩
    · exact ((((HM1.out.kept (set_turned HT2.out) (by simp; omega)).kept (set_turned HT3.out) (by simp; omega)).kept (set_turned HT4.out) (by simp; omega)).kept (set_turned HT5.out) (by simp; omega)).kept tl (by simp; omega)
    · exact (((HM2.out.kept (set_turned HT3.out) (by simp; omega)).kept (set_turned HT4.out) (by simp; omega)).kept (set_turned HT5.out) (by simp; omega)).kept tl (by simp; omega)
    · exact ((HM3.out.kept (set_turned HT4.out) (by simp; omega)).kept (set_turned HT5.out) (by simp; omega)).kept tl (by simp; omega)
    · exact (HM4.out.kept (set_turned HT5.out) (by simp; omega)).kept tl (by simp; omega)
    · exact HM5.out.kept tl (by simp; omega)
  have hP := HP5.out.set 16 (.map (some m5))
  obtain ⟨A0, hP'⟩ : ∃ A0, Pre w W D.cells.toArray A0 := ⟨_, by rw [← hW]; exact hP⟩
  have HI := Lib.hid hI
  have hsz := hP'.size
  have HB0 := Lib.hid hP'.box
  have HMB := Lib.hid hP'.mb
  have HMH := Lib.hid hP'.mh
  have HT := Lib.hid hP'.t
  have hl := HD.out.socks.lc
  have hcm := HD.out.socks.cm
  have hn := HD.out.socks.n
  unfold maxLen at hcm
  clear hW hI hP hP' HP1 HP2 HP3 HP4 HP5 HM1 HM2 HM3 HM4 HM5 HT1 HT2 HT3 HT4 HT5
  go_loopw [56] (fun i wr => ∃ k : Nat, k ≤ D.socks.len ∧ i = .int .i64 k ∧ Turned [w.heap.size + 1] W wr ∧ Groups wr W.heap.size (w.heap.size + 1) k (boundUpto D k)) (fun i _ => D.socks.len - (intOf i).toNat)
  case atStart => exact ⟨0, by omega, rfl, Turned.refl _ _, Groups.made HMB.out (by omega) (Nat.le_refl _)⟩
  case round =>
    obtain ⟨k, hk, rfl, hT1, hG⟩ := hrel
    have HT1 := Lib.hid hT1
    have HG := Lib.hid hG
    clear hT1 hG
    by_cases hlt : k < D.socks.len
    · obtain ⟨s, hs⟩ : ∃ s, D.socks.xs[k]? = some s := ⟨D.socks.xs[k], by simp⟩
      have HS := Lib.hid hs
      have hs0 := HS
      have HTw := Lib.hid (HT.out.step HT1.out (by simp))
      obtain ⟨b, o, hab, e0, e1, e2, e3, e4, e5, e6, e7, e8, ⟨w0, w1, w2⟩, -, -⟩ := sock_cells ((HD.out.socks.at_ k s hs).stays stays_sock HTw.out)
      have HW0 := Lib.hid w0
      have HW2 := Lib.hid w2
      clear hs w0 w1 w2
      simp only [Sl.v] at e5 e8
      rw [hab]
      obtain ⟨j, hj⟩ := sock_place hs0.out
      have HJ := Lib.hid hj
      go_wp2
      generalize hV : World.alloc wr _ = V
      have HTV := Lib.hid (show Turned [] wr V by rw [← hV]; exact (Turned.refl _ _).alloc _)
      have v0 : V.cell? ⟨wr.heap.size, 0, none⟩ = some (.int .i64 s.id) := by rw [← hV]; exact World.cell?_alloc_mark _ _ _ _ _
      have v3 : V.cell? ⟨wr.heap.size, 3, none⟩ = some (.int .i64 s.bound) := by rw [← hV]; exact World.cell?_alloc_mark _ _ _ _ _
      have hVs : wr.heap.size < V.heap.size := by rw [← hV]; simp
      have HVB : Hid (∃ cs, V.heap[wr.heap.size]? = some (.cells cs 77 (0, 0))) := Lib.hid ⟨_, by rw [← hV]; exact heap_alloc_new _ _⟩
      clear hV
      have HIV := Lib.hid ((HI.out.kept HT1.out (by simp) (by simp; omega) (by simp; omega) (by simp; omega) (by simp; omega) (by simp; omega)).kept HTV.out (by simp) (by simp) (by simp) (by simp) (by simp) (by simp))
      have hv0 := Lib.hid v0
      have hv3 := Lib.hid v3
      have i15 : V.cell? ⟨w.heap.size + 3, 15, none⟩ = some (.map (some m4)) := block_cell HIV.out.idx rfl
      have i17 : V.cell? ⟨w.heap.size + 3, 17, none⟩ = some (.map (some (w.heap.size + 1))) := block_cell HIV.out.idx rfl
      have hi17 := Lib.hid i17
      have hlk : ∀ nq, (Instr.lookup 100 (.map (some m4)) (.int .i64 s.id) false).run Try.prog (V.drewN nq) = .ok (.int .i64 j) (V.drewN nq) := fun nq => by
        have := (HIV.out.p4.kept ((Turned.refl [] V).drewN nq) (by simp)).look (x := s.id) Try.underlying100 (z := .int .i64 0) (by exact Try.zeroValue3 _) HW0.out
        rw [show (ixFrom D.sockIds 0 s.id).getD (.int .i64 0) = .int .i64 j by simp [ixFrom, HJ.out]] at this
        exact this
      by_cases hb0 : s.bound = 0
      · have hbb : (s.bound != 0) = false := by simp [hb0]
        go_quiet (fail)
        go_wp2
        go_roundw
        case rel => exact ⟨k + 1, by omega, by go_num, (HT1.out.trans (HTV.out.mono (by simp))).drewN _, by rw [bound_same HS.out (fun e => e.1 hb0)]; exact ((HG.out.kept HTV.out).kept ((Turned.refl _ _).drewN _)).mono (by omega)⟩
        case measure => simp [intOf]; omega
      · have hbb : (s.bound != 0) = true := by simp [hb0]
        by_cases hjk : j = k
        · subst hjk
          go_quiet (fail)
          go_wp2
          obtain ⟨V', hV'⟩ : ∃ V', V' = V.drewN nq := ⟨_, rfl⟩
          rw [← hV']
          have HTV' := Lib.hid (show Turned [] V V' by rw [hV']; exact (Turned.refl _ _).drewN _)
          clear hV' v0 v3 i15 i17 hlk
          have v0 := HTV'.out.cell hv0.out (by simp)
          have v3 := HTV'.out.cell hv3.out (by simp)
          have i17 := HTV'.out.cell hi17.out (by simp)
          have hVs' := HTV'.out.size
          have hG' := (HG.out.kept HTV.out).kept HTV'.out
          obtain ⟨v, hlook, hrow, hlen, hback⟩ := hG'.look (x := s.bound) HW2.out (by unfold maxLen; omega)
          obtain ⟨len, hlen0⟩ : ∃ n, n = (boundUpto D j s.bound).length := ⟨_, rfl⟩
          rw [← hlen0] at hrow hlen
          have HL0 := Lib.hid hlen0
          have HBK := Lib.hid hback
          have HROW := Lib.hid hrow
          have hl0 : (Instr.lookup 101 (.map (some (w.heap.size + 1))) (.int .i64 s.bound) false).run Try.prog V'.drew = .ok v V'.drew := hlook _ ((Turned.refl [] V').drew)
          have hl1 : ∀ o, (Instr.lookup 101 (.map (some (w.heap.size + 1))) (.int .i64 s.bound) false).run Try.prog ((V'.alloc o).drew) = .ok v ((V'.alloc o).drew) := fun o => hlook _ (((Turned.refl [] V').alloc o).drew)
          have hWV : W.heap.size ≤ V'.heap.size := Nat.le_trans HT1.out.size (Nat.le_trans HTV.out.size HTV'.out.size)
          have hWr : W.heap.size ≤ wr.heap.size := HT1.out.size
          have aX : v.ownBlock ≠ some (w.heap.size + 1 + 1 + 1) := fun e => by have := (hrow.lt _ e).1; omega
          have aR : v.ownBlock ≠ some wr.heap.size := fun e => by
            rcases hrow.2 with ⟨rfl, _⟩ | ⟨g, cap, cur, rfl, _, hh, _⟩
            · simp [Value.ownBlock] at e
            · simp [Value.ownBlock] at e
              subst e
              obtain ⟨cs, hcs⟩ := HVB.out
              rw [HTV'.out.keep hcs (by simp)] at hh
              simp at hh
          have bX : (some (w.heap.size + 1) : Option Nat) ≠ some (w.heap.size + 1 + 1 + 1) := by simp
          have bR : (some (w.heap.size + 1) : Option Nat) ≠ some wr.heap.size := by simp; omega
          clear hlook hback hG' hlen0 hrow
          obtain ⟨i0, hi, hz0, hz1, hz2⟩ := info_parts Try.info3
          go_wp2
          go_region_held3 (fun w' => w'.cell? ⟨w.heap.size + 1 + 1 + 1, 17, none⟩ = some (.map (some (w.heap.size + 1))) ∧ w'.cell? ⟨wr.heap.size, 3, none⟩ = some (.int .i64 s.bound) ∧ w'.cell? ⟨wr.heap.size, 0, none⟩ = some (.int .i64 s.id))
            (first | go_keep | (go_split_ands; exact ⟨keepc hgrow aX (by assumption), keepc hgrow aR (by assumption), keepc hgrow aR (by assumption)⟩) | (go_split_ands; exact ⟨keepc hg2 bX (by assumption), keepc hg2 bR (by assumption), keepc hg2 bR (by assumption)⟩))
            ((refine step_append_lies _ (by rfl) _ _ _ (by rfl) _ 3 i0 _ 1 8 Try.underlying61 hi hz0 hz1 hz2 rfl (by omega) v len _ (by rfl) ((HROW.out.alloc _).drew)
                  ⟨V'.heap.size, 0, none⟩ 1 1 [.int .i64 s.id] (by rfl) (by rfl) (World.news_of_block (cs := #[.int .i64 s.id]) (t := 3) (fr := (0, 0)) (heap_alloc_new V' _)) (by simp [Value.oneCell'])
                  (by omega) (by unfold maxLen; omega) (by omega) (by simp; omega) (V'.heap.size + 1) (by simp) ?_; intro gg cap w1' hown1 hgrow hat hlt'; have hgrow' : (V'.alloc _).grownBy w1' v.ownBlock := ⟨hgrow.os, hgrow.tape, hgrow.output, hgrow.size, hgrow.block⟩; obtain ⟨w2', hup, hG2, hg2⟩ := group_step HBK.out hgrow HL0.out.symm hown1 hat HW0.out; have HG2 := Lib.hid hG2; clear hG2))
          all_goals
            have ht3 : Turned [w.heap.size + 1] W w2' := ((((HT1.out.trans (HTV.out.mono (by simp))).trans (HTV'.out.mono (by simp))).alloc _).grown hgrow' (fun q hq => .inr (HROW.out.lt q hq).1)).grown hg2 (fun q hq => by cases hq; exact .inl (by simp))
            have hG3 := HG2.out
            go_wp2
            go_roundw
            case rel => exact ⟨j + 1, by omega, by go_num, ht3, by rw [bound_next HS.out hb0 HJ.out]; exact hG3⟩
            case measure => simp [intOf]; omega
        · have hjj : ((j : Int) == (k : Int)) = false := by simp; omega
          go_quiet (fail)
          go_wp2
          go_roundw
          case rel => exact ⟨k + 1, by omega, by go_num, (HT1.out.trans (HTV.out.mono (by simp))).drewN _, by rw [bound_same HS.out (fun e => hjk (by have := e.2; rw [HJ.out] at this; simpa using this))]; exact ((HG.out.kept HTV.out).kept ((Turned.refl _ _).drewN _)).mono (by omega)⟩
          case measure => simp [intOf]; omega
    · obtain rfl : k = D.socks.len := by omega
      obtain ⟨wo, rfl⟩ : ∃ wo : World, wo = wr := ⟨_, rfl⟩
      have HIo := Lib.hid (HI.out.kept HT1.out (by simp) (by simp; omega) (by simp; omega) (by simp; omega) (by simp; omega) (by simp; omega))
      have HTo := Lib.hid (HT.out.step HT1.out (by simp))
      have HMHo := Lib.hid (HMH.out.kept HT1.out (by simp))
      have c1 : wo.cell? ⟨w.heap.size, 1, none⟩ = some (.slice D.held.a D.held.len D.held.cap) := block_cell (HT1.out.keep HB0.out (by simp)) rfl
      have hso : W.heap.size ≤ wo.heap.size := HT1.out.size
      have hl' := HD.out.held.lc
      have hcm' := HD.out.held.cm
      have hn' := HD.out.held.n
      unfold maxLen at hcm'
      have HGo := HG
      clear HT1 HI HT HMB HMH HB0 HG hl hcm hn hlt hk
      go_wp2
      go_loopw [96] (fun i wr => ∃ k : Nat, k ≤ D.held.len ∧ i = .int .i64 k ∧ Turned [w.heap.size + 2] wo wr ∧ Groups wr wo.heap.size (w.heap.size + 2) k (heldUpto D k)) (fun i _ => D.held.len - (intOf i).toNat)
      case atStart => exact ⟨0, by omega, rfl, Turned.refl _ _, Groups.made HMHo.out (by omega) (Nat.le_refl _)⟩
      case round =>
        obtain ⟨k, hk, rfl, hT1, hG⟩ := hrel
        have HT1 := Lib.hid hT1
        have HG := Lib.hid hG
        clear hT1 hG
        by_cases hlt : k < D.held.len
        · obtain ⟨s, hs⟩ : ∃ s, D.held.xs[k]? = some s := ⟨D.held.xs[k], by simp⟩
          have HS := Lib.hid hs
          have HTw := Lib.hid (HTo.out.step HT1.out (by simp))
          obtain ⟨b, o, hab, e0, e1, e2, e3, e4, e5, e6, w0, w2⟩ := held_cells ((HD.out.held.at_ k s hs).stays stays_held HTw.out)
          have HW0 := Lib.hid w0
          have HW2 := Lib.hid w2
          clear hs w0 w2
          simp only [Sl.v] at e5
          rw [hab]
          go_wp2
          generalize hV : World.alloc wr _ = V
          have HTV := Lib.hid (show Turned [] wr V by rw [← hV]; exact (Turned.refl _ _).alloc _)
          have v0 : V.cell? ⟨wr.heap.size, 0, none⟩ = some (.int .i64 s.pid) := by rw [← hV]; exact World.cell?_alloc_mark _ _ _ _ _
          have v2 : V.cell? ⟨wr.heap.size, 2, none⟩ = some (.int .i64 s.slot.file) := by rw [← hV]; exact World.cell?_alloc_mark _ _ _ _ _
          have hVs : wr.heap.size < V.heap.size := by rw [← hV]; simp
          have HVB : Hid (∃ cs, V.heap[wr.heap.size]? = some (.cells cs 67 (0, 0))) := Lib.hid ⟨_, by rw [← hV]; exact heap_alloc_new _ _⟩
          clear hV
          have HIV := Lib.hid ((HIo.out.kept HT1.out (by simp) (by simp; omega) (by simp; omega) (by simp; omega) (by simp; omega) (by simp; omega)).kept HTV.out (by simp) (by simp) (by simp) (by simp) (by simp) (by simp))
          have i18 : V.cell? ⟨w.heap.size + 3, 18, none⟩ = some (.map (some (w.heap.size + 2))) := block_cell HIV.out.idx rfl
          have hG' := HG.out.kept HTV.out
          obtain ⟨v, hlook, hrow, hlen, hback⟩ := hG'.look (x := s.pid) HW0.out (by unfold maxLen; omega)
          obtain ⟨len, hlen0⟩ : ∃ n, n = (heldUpto D k s.pid).length := ⟨_, rfl⟩
          rw [← hlen0] at hrow hlen
          have HL0 := Lib.hid hlen0
          have HBK := Lib.hid hback
          have HROW := Lib.hid hrow
          have hl0 : (Instr.lookup 101 (.map (some (w.heap.size + 2))) (.int .i64 s.pid) false).run Try.prog V.drew = .ok v V.drew := hlook _ ((Turned.refl [] V).drew)
          have hl1 : ∀ o, (Instr.lookup 101 (.map (some (w.heap.size + 2))) (.int .i64 s.pid) false).run Try.prog ((V.alloc o).drew) = .ok v ((V.alloc o).drew) := fun o => hlook _ (((Turned.refl [] V).alloc o).drew)
          have hWV : wo.heap.size ≤ V.heap.size := Nat.le_trans HT1.out.size HTV.out.size
          have hWr : wo.heap.size ≤ wr.heap.size := HT1.out.size
          have aX : v.ownBlock ≠ some (w.heap.size + 1 + 1 + 1) := fun e => by have := (hrow.lt _ e).1; omega
          have aR : v.ownBlock ≠ some wr.heap.size := fun e => by
            rcases hrow.2 with ⟨rfl, _⟩ | ⟨g, cap, cur, rfl, _, hh, _⟩
            · simp [Value.ownBlock] at e
            · simp [Value.ownBlock] at e
              subst e
              obtain ⟨cs, hcs⟩ := HVB.out
              rw [hcs] at hh
              simp at hh
          have bX : (some (w.heap.size + 2) : Option Nat) ≠ some (w.heap.size + 1 + 1 + 1) := by simp
          have bR : (some (w.heap.size + 2) : Option Nat) ≠ some wr.heap.size := by simp; omega
          clear hlook hback hG' hlen0 hrow
          obtain ⟨i0, hi, hz0, hz1, hz2⟩ := info_parts Try.info3
          go_region_held3 (fun w' => w'.cell? ⟨w.heap.size + 1 + 1 + 1, 18, none⟩ = some (.map (some (w.heap.size + 2))) ∧ w'.cell? ⟨wr.heap.size, 0, none⟩ = some (.int .i64 s.pid) ∧ w'.cell? ⟨wr.heap.size, 2, none⟩ = some (.int .i64 s.slot.file))
            (first | go_keep | (go_split_ands; exact ⟨keepc hgrow aX (by assumption), keepc hgrow aR (by assumption), keepc hgrow aR (by assumption)⟩) | (go_split_ands; exact ⟨keepc hg2 bX (by assumption), keepc hg2 bR (by assumption), keepc hg2 bR (by assumption)⟩))
            ((refine step_append_lies _ (by rfl) _ _ _ (by rfl) _ 3 i0 _ 1 8 Try.underlying61 hi hz0 hz1 hz2 rfl (by omega) v len _ (by rfl) ((HROW.out.alloc _).drew)
                  ⟨V.heap.size, 0, none⟩ 1 1 [.int .i64 s.slot.file] (by rfl) (by rfl) (World.news_of_block (cs := #[.int .i64 s.slot.file]) (t := 3) (fr := (0, 0)) (heap_alloc_new V _)) (by simp [Value.oneCell'])
                  (by omega) (by unfold maxLen; omega) (by omega) (by simp; omega) (V.heap.size + 1) (by simp) ?_; intro gg cap w1' hown1 hgrow hat hlt'; have hgrow' : (V.alloc _).grownBy w1' v.ownBlock := ⟨hgrow.os, hgrow.tape, hgrow.output, hgrow.size, hgrow.block⟩; obtain ⟨w2', hup, hG2, hg2⟩ := group_step HBK.out hgrow HL0.out.symm hown1 hat HW2.out; have HG2 := Lib.hid hG2; clear hG2))
          all_goals
            have ht3 : Turned [w.heap.size + 2] wo w2' := (((HT1.out.trans (HTV.out.mono (by simp))).alloc _).grown hgrow' (fun q hq => .inr (HROW.out.lt q hq).1)).grown hg2 (fun q hq => by cases hq; exact .inl (by simp))
            have hG3 := HG2.out
            go_wp2
            go_roundw
            case rel => exact ⟨k + 1, by omega, by go_num, ht3, by rw [held_next HS.out]; exact hG3⟩
            case measure => simp [intOf]; omega
        · obtain rfl : k = D.held.len := by omega
          go_wp2
          go_ret
          exact ⟨_, m1, m2, m3, m4, m5, _, _, rfl, HTo.out.step HT1.out (by simp), HIo.out.kept HT1.out (by simp) (by simp; omega) (by simp; omega) (by simp; omega) (by simp; omega) (by simp; omega), ⟨_, _, Groups.other HGo.out HT1.out (by simp) (by omega)⟩, ⟨_, _, HG.out⟩⟩
end Go.Proofs.Yteaglbfodeineaa
