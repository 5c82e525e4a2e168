/-
  What has changed that a process can't come to, by the reference: the walk.
  What has changed that a process can't come to: the walk.
-/
import Derived.Test.YteaglbfodeineaaRefE
import Derived.Test.YteaglbfodeineaaTopO
import Derived.Test.YteaglbfodeineaaShort
import Derived.Test.YteaglbfodeineaaLives
import Derived.Deep.RegionHeld3
namespace Go.Proofs.Yteaglbfodeineaa
open Go.RowKit

/-- A list that the call makes: in a block of its own, or still empty. -/
def Mine (w : World) (base : Nat) (v : Value) (l : List Ob) : Prop := OwnL w base v l ∨ (l = [] ∧ ∃ g, v = .slice (some ⟨g, 0, none⟩) 0 0)

theorem Mine.keep {w w' : World} {base : Nat} {v : Value} {l : List Ob} (h : Mine w base v l) (ht : Turned [] w w') : Mine w' base v l := h.imp (fun h => h.keep ht) id

theorem Mine.sl {w : World} {base : Nat} {v : Value} {l : List Ob} (h : Mine w base v l) (hw : ∀ o ∈ l, KObj.dom o) : ∃ s : Sl Ob, v = s.v ∧ s.xs = l ∧ RSl 2 RObj w s := by
  rcases h with h | ⟨rfl, g, rfl⟩
  · exact h.sl hw
  · exact ⟨⟨some ⟨g, 0, none⟩, 0, 0, []⟩, rfl, rfl, Nat.le_refl _, Nat.zero_le _, fun e => by simp at e, rfl, fun i y hy => by simp at hy⟩

theorem wpList_append_mine {w : World} {ops : Array Oper} {rest : List Oper} {o : Oper} {a : Act} {Q : Exit → Act → World → Prop} (hg : o.guard = none) (s x : Operand)
    (ho : o.op = .call { callee := .builtin .append, args := #[s, x], argTypes := #[52, 52] })
    {base : Nat} {v : Value} {l : List Ob} (hs : a.eval s = v) (hown : Mine w base v l) (p : Ob) (b c : Nat) (hx : a.eval x = .slice (some ⟨b, 0, none⟩) 1 c)
    (hb : ∃ z, w.heap[b]? = some (.cells #[.int .i64 p.1, .int .i64 p.2] 70 z)) (hl : l.length ≤ 2000000) (hbase : base ≤ w.heap.size)
    (h : ∀ v' w', OwnL w' base v' (l ++ [p]) → (∀ V, V.heap.size ≤ base → Turned [] V w → Turned [] V w') → wpList Try.prog ops Q rest (a.put o.dst v') w') :
    wpList Try.prog ops Q (o :: rest) a w := by
  rcases hown with hown | ⟨rfl, g, rfl⟩
  · exact wpList_append_ob (by simp [Region.wanted, hg]) s x ho hs hown p b c hx hb hl hbase (fun v' w' h1 h2 => h v' w' h1 (fun V hV ht => ht.list hown h2 hV))
  · obtain ⟨i0, hi, hz0, hz1, hz2⟩ := info_parts Try.info70
    obtain ⟨z, hb⟩ := hb
    refine wpList_append_grows w hg s x 52 ho 70 i0 _ 2 16 Try.underlying52 hi hz0 hz1 hz2 rfl (by omega) (some ⟨g, 0, none⟩) 0 0 [] hs (fun e => by simp at e) rfl (fun b _ j u hj => by simp at hj) ⟨b, 0, none⟩ 1 c [.int .i64 p.1, .int .i64 p.2] hx rfl
      (fun j u hj => ?_) (by simp [Value.oneCell']) (by omega) (by unfold maxLen; omega) (by omega) (fun v' w' h1 h2 => h v' w' ?_ (fun V _ ht => ht.grown h2 (fun k hk => by cases hk)))
    · match j, hj with
      | 0, hj => simp at hj; subst hj; simp [World.cell?, Addr.add, hb]
      | 1, hj => simp at hj; subst hj; simp [World.cell?, Addr.add, hb]
    · exact OwnL.mono (show OwnL w' w.heap.size v' [p] from h1) hbase

set_option maxRecDepth 100000 in
set_option maxHeartbeats 8000000 in
theorem ref_outside {w : World} {D E : DumpV} {pid : Int} (hsm : Small D) (hD : RDump w D) (hE : RDump w E) (hcD : Cut D) (hp : I64 pid) :
    Calls Try.prog 29 #[D.v, E.v, .int .i64 pid] w fun e w' => ∃ u : Sl Ob, e = .returned (.slice u.a u.len u.cap) ∧ RSl 2 RObj w' u ∧ Srt u.xs ∧ Turned [] w w' ∧ ∀ o, o ∈ u.xs ↔ EffT D E o ∧ ¬ Auth D pid o := by
  have HA : Hid (∀ w1, Turned [] w w1 → Calls Try.prog 27 #[D.v, .int .i64 pid] w1 fun e w' => ∃ s : Sl Ob, e = .returned (.slice s.a s.len s.cap) ∧ RSl 2 RObj w' s ∧ Turned [] w1 w' ∧ ∀ o, o ∈ s.xs ↔ Auth D pid o) := Lib.hid fun w1 h => (ref_authority hsm (hD.stays h) hp).mono (by
    rintro e w' ⟨s, rfl, hl, ht, hm⟩
    exact ⟨s, rfl, hl.ord.rd, ht, hm⟩)
  have HEF : Hid (∀ w1, Turned [] w w1 → Calls Try.prog 25 #[D.v, E.v] w1 fun e w' => ∃ t : Sl Ob, e = .returned (.slice t.a t.len t.cap) ∧ RSl 2 RObj w' t ∧ Turned [] w1 w' ∧ Srt t.xs ∧ t.len ≤ 36 ∧ ∀ o, o ∈ t.xs ↔ EffT D E o) := Lib.hid fun w1 h => (ref_effects (hD.stays h) (hE.stays h) hcD).mono (by
    rintro e w' ⟨t, rfl, ho, ht, hl, hm⟩
    exact ⟨t, rfl, ho.rd, ht, ho.srt, hl, hm⟩)
  clear hsm hD hE hcD hp
  simp only [DumpV.v, DumpV.cells, Sl.v] at HA HEF ⊢
  go_enter Try.func29, Try.ntmps29
  go_wp2
  obtain ⟨W, hW⟩ : ∃ W, W = (w.alloc (.cells D.cells.toArray 48 (0, 0))).alloc (.cells E.cells.toArray 48 (0, 0)) := ⟨_, rfl⟩
  have HTW := Lib.hid (show Turned [] w W by rw [hW]; exact ((Turned.refl _ _).alloc _).alloc _)
  have HB1 := Lib.hid (show W.heap[w.heap.size]? = some (.cells D.cells.toArray 48 (0, 0)) by rw [hW]; exact ((Turned.refl [] _).alloc _).keep (heap_alloc_new w _) (by simp))
  have HB2 := Lib.hid (show W.heap[w.heap.size + 1]? = some (.cells E.cells.toArray 48 (0, 0)) by rw [hW]; exact heap_alloc_second w _ _)
  simp only [DumpV.cells, Sl.v] at hW
  rw [← hW]
  clear hW
  have HKEEP : Hid (∀ w', Turned [] W w' → w'.cell? ⟨w.heap.size, 0, none⟩ = some (.slice D.procs.a D.procs.len D.procs.cap) ∧ w'.cell? ⟨w.heap.size, 1, none⟩ = some (.slice D.held.a D.held.len D.held.cap) ∧ w'.cell? ⟨w.heap.size, 2, none⟩ = some (.slice D.parks.a D.parks.len D.parks.cap) ∧ w'.cell? ⟨w.heap.size, 3, none⟩ = some (.slice D.files.a D.files.len D.files.cap) ∧ w'.cell? ⟨w.heap.size, 4, none⟩ = some (.slice D.pipes.a D.pipes.len D.pipes.cap) ∧ w'.cell? ⟨w.heap.size, 5, none⟩ = some (.slice D.socks.a D.socks.len D.socks.cap) ∧ w'.cell? ⟨w.heap.size, 6, none⟩ = some (.slice D.inodes.a D.inodes.len D.inodes.cap) ∧ w'.cell? ⟨w.heap.size, 7, none⟩ = some (.int .i64 D.n0) ∧ w'.cell? ⟨w.heap.size, 8, none⟩ = some (.int .i64 D.n1) ∧ w'.cell? ⟨w.heap.size, 9, none⟩ = some (.int .i64 D.n2) ∧ w'.cell? ⟨w.heap.size, 10, none⟩ = some (.int .i64 D.n3) ∧ w'.cell? ⟨w.heap.size, 11, none⟩ = some (.int .i64 D.n4) ∧ w'.cell? ⟨w.heap.size + 1, 0, none⟩ = some (.slice E.procs.a E.procs.len E.procs.cap) ∧ w'.cell? ⟨w.heap.size + 1, 1, none⟩ = some (.slice E.held.a E.held.len E.held.cap) ∧ w'.cell? ⟨w.heap.size + 1, 2, none⟩ = some (.slice E.parks.a E.parks.len E.parks.cap) ∧ w'.cell? ⟨w.heap.size + 1, 3, none⟩ = some (.slice E.files.a E.files.len E.files.cap) ∧ w'.cell? ⟨w.heap.size + 1, 4, none⟩ = some (.slice E.pipes.a E.pipes.len E.pipes.cap) ∧ w'.cell? ⟨w.heap.size + 1, 5, none⟩ = some (.slice E.socks.a E.socks.len E.socks.cap) ∧ w'.cell? ⟨w.heap.size + 1, 6, none⟩ = some (.slice E.inodes.a E.inodes.len E.inodes.cap) ∧ w'.cell? ⟨w.heap.size + 1, 7, none⟩ = some (.int .i64 E.n0) ∧ w'.cell? ⟨w.heap.size + 1, 8, none⟩ = some (.int .i64 E.n1) ∧ w'.cell? ⟨w.heap.size + 1, 9, none⟩ = some (.int .i64 E.n2) ∧ w'.cell? ⟨w.heap.size + 1, 10, none⟩ = some (.int .i64 E.n3) ∧ w'.cell? ⟨w.heap.size + 1, 11, none⟩ = some (.int .i64 E.n4)) := Lib.hid fun w' h => by
    have h1 := box_cells (h.keep HB1.out (by simp))
    have h2 := box_cells (h.keep HB2.out (by simp))
    simp only [Sl.v] at h1 h2
    obtain ⟨d0, d1, d2, d3, d4, d5, d6, d7, d8, d9, d10, d11⟩ := h1
    obtain ⟨e0, e1, e2, e3, e4, e5, e6, e7, e8, e9, e10, e11⟩ := h2
    exact ⟨d0, d1, d2, d3, d4, d5, d6, d7, d8, d9, d10, d11, e0, e1, e2, e3, e4, e5, e6, e7, e8, e9, e10, e11⟩
  go_cut [7, 8, 9] (fun v7 v8 v9 wx => ∃ (s t : Sl Ob) (g : Nat), v7 = .slice s.a s.len s.cap ∧ v8 = .slice t.a t.len t.cap ∧ v9 = .slice (some ⟨g, 0, none⟩) 0 0 ∧ Turned [] W wx ∧ RSl 2 RObj wx s ∧ RSl 2 RObj wx t ∧ (∀ o, o ∈ s.xs ↔ Auth D pid o) ∧ Srt t.xs ∧ t.len ≤ 36 ∧ ∀ o, o ∈ t.xs ↔ EffT D E o)
  case first =>
    go_region_held3 (fun w' => w'.cell? ⟨w.heap.size, 0, none⟩ = some (.slice D.procs.a D.procs.len D.procs.cap) ∧ w'.cell? ⟨w.heap.size, 1, none⟩ = some (.slice D.held.a D.held.len D.held.cap) ∧ w'.cell? ⟨w.heap.size, 2, none⟩ = some (.slice D.parks.a D.parks.len D.parks.cap) ∧ w'.cell? ⟨w.heap.size, 3, none⟩ = some (.slice D.files.a D.files.len D.files.cap) ∧ w'.cell? ⟨w.heap.size, 4, none⟩ = some (.slice D.pipes.a D.pipes.len D.pipes.cap) ∧ w'.cell? ⟨w.heap.size, 5, none⟩ = some (.slice D.socks.a D.socks.len D.socks.cap) ∧ w'.cell? ⟨w.heap.size, 6, none⟩ = some (.slice D.inodes.a D.inodes.len D.inodes.cap) ∧ w'.cell? ⟨w.heap.size, 7, none⟩ = some (.int .i64 D.n0) ∧ w'.cell? ⟨w.heap.size, 8, none⟩ = some (.int .i64 D.n1) ∧ w'.cell? ⟨w.heap.size, 9, none⟩ = some (.int .i64 D.n2) ∧ w'.cell? ⟨w.heap.size, 10, none⟩ = some (.int .i64 D.n3) ∧ w'.cell? ⟨w.heap.size, 11, none⟩ = some (.int .i64 D.n4) ∧ w'.cell? ⟨w.heap.size + 1, 0, none⟩ = some (.slice E.procs.a E.procs.len E.procs.cap) ∧ w'.cell? ⟨w.heap.size + 1, 1, none⟩ = some (.slice E.held.a E.held.len E.held.cap) ∧ w'.cell? ⟨w.heap.size + 1, 2, none⟩ = some (.slice E.parks.a E.parks.len E.parks.cap) ∧ w'.cell? ⟨w.heap.size + 1, 3, none⟩ = some (.slice E.files.a E.files.len E.files.cap) ∧ w'.cell? ⟨w.heap.size + 1, 4, none⟩ = some (.slice E.pipes.a E.pipes.len E.pipes.cap) ∧ w'.cell? ⟨w.heap.size + 1, 5, none⟩ = some (.slice E.socks.a E.socks.len E.socks.cap) ∧ w'.cell? ⟨w.heap.size + 1, 6, none⟩ = some (.slice E.inodes.a E.inodes.len E.inodes.cap) ∧ w'.cell? ⟨w.heap.size + 1, 7, none⟩ = some (.int .i64 E.n0) ∧ w'.cell? ⟨w.heap.size + 1, 8, none⟩ = some (.int .i64 E.n1) ∧ w'.cell? ⟨w.heap.size + 1, 9, none⟩ = some (.int .i64 E.n2) ∧ w'.cell? ⟨w.heap.size + 1, 10, none⟩ = some (.int .i64 E.n3) ∧ w'.cell? ⟨w.heap.size + 1, 11, none⟩ = some (.int .i64 E.n4))
      ((refine HKEEP.out _ ?_; (repeat (first | exact Turned.refl _ _ | exact HTA.out | exact HTB.out | refine Turned.drew ?_ | refine Turned.drewN ?_ _ | refine Turned.alloc ?_ _))))
      ((first
        | (go_at_call 27; have hq := HTB; refine (HA.out _ (HTW.out.trans (by (repeat (first | exact Turned.refl _ _ | exact HTA.out | exact HTB.out | refine Turned.drew ?_ | refine Turned.drewN ?_ _ | refine Turned.alloc ?_ _))))).mono ?_; rintro e wA ⟨s, rfl, hr, ht, hm⟩; have HTBA := Lib.hid (show Turned [] wB wA from Turned.trans (by (repeat (first | exact Turned.refl _ _ | refine Turned.drew ?_ | refine Turned.drewN ?_ _ | refine Turned.alloc ?_ _))) ht); have HTA := Lib.hid (HTB.out.trans HTBA.out); have HRA := Lib.hid hr; have HMA := Lib.hid hm; clear hq hr ht hm)
        | (go_at_call 25; have hq := HTA; refine (HEF.out _ (HTW.out.trans (by (repeat (first | exact Turned.refl _ _ | exact HTA.out | exact HTB.out | refine Turned.drew ?_ | refine Turned.drewN ?_ _ | refine Turned.alloc ?_ _))))).mono ?_; rintro e wB ⟨t, rfl, hr, ht, hs, hl, hm⟩; have HTAB := Lib.hid (show Turned [] wA wB from Turned.trans (by (repeat (first | exact Turned.refl _ _ | refine Turned.drew ?_ | refine Turned.drewN ?_ _ | refine Turned.alloc ?_ _))) ht); have HTB := Lib.hid (HTA.out.trans HTAB.out); have HRB := Lib.hid hr; have HSB := Lib.hid hs; have HLB := Lib.hid hl; have HMB := Lib.hid hm; clear hq hr ht hs hl hm)
        | (go_at_call 27; refine (HA.out _ (HTW.out.trans (by (repeat (first | exact Turned.refl _ _ | exact HTA.out | exact HTB.out | refine Turned.drew ?_ | refine Turned.drewN ?_ _ | refine Turned.alloc ?_ _))))).mono ?_; rintro e wA ⟨s, rfl, hr, ht, hm⟩; have HTA := Lib.hid (show Turned [] W wA from Turned.trans (by (repeat (first | exact Turned.refl _ _ | refine Turned.drew ?_ | refine Turned.drewN ?_ _ | refine Turned.alloc ?_ _))) ht); have HRA := Lib.hid hr; have HMA := Lib.hid hm; clear hr ht hm)
        | (go_at_call 25; refine (HEF.out _ (HTW.out.trans (by (repeat (first | exact Turned.refl _ _ | exact HTA.out | exact HTB.out | refine Turned.drew ?_ | refine Turned.drewN ?_ _ | refine Turned.alloc ?_ _))))).mono ?_; rintro e wB ⟨t, rfl, hr, ht, hs, hl, hm⟩; have HTB := Lib.hid (show Turned [] W wB from Turned.trans (by (repeat (first | exact Turned.refl _ _ | refine Turned.drew ?_ | refine Turned.drewN ?_ _ | refine Turned.alloc ?_ _))) ht); have HRB := Lib.hid hr; have HSB := Lib.hid hs; have HLB := Lib.hid hl; have HMB := Lib.hid hm; clear hr ht hs hl hm)))
    all_goals
      go_wp2_with fail
      go_meet
      exact ⟨_, _, _, rfl, rfl, rfl, by (repeat (first | exact Turned.refl _ _ | exact HTA.out | exact HTB.out | refine Turned.drew ?_ | refine Turned.drewN ?_ _ | refine Turned.alloc ?_ _)), HRA.out.stays stays_obj (by (repeat (first | exact Turned.refl _ _ | exact HTAB.out | exact HTBA.out | refine Turned.drew ?_ | refine Turned.drewN ?_ _ | refine Turned.alloc ?_ _))), HRB.out.stays stays_obj (by (repeat (first | exact Turned.refl _ _ | exact HTAB.out | exact HTBA.out | refine Turned.drew ?_ | refine Turned.drewN ?_ _ | refine Turned.alloc ?_ _))), HMA.out, HSB.out, HLB.out, HMB.out⟩
  case rest =>
  obtain ⟨s, t, g, rfl, rfl, rfl, ht, hrs, hrt, hms, hst, hlt, hmt⟩ := hcut
  obtain ⟨V, hV⟩ : ∃ V : World, V = wc := ⟨_, rfl⟩
  have HTV := Lib.hid (show Turned [] w V by rw [hV]; exact HTW.out.trans ht)
  have HRS := Lib.hid (show RSl 2 RObj V s by rw [hV]; exact hrs)
  have HRT := Lib.hid (show RSl 2 RObj V t by rw [hV]; exact hrt)
  have HT0 := Lib.hid (show Turned [] V wc by rw [hV]; exact Turned.refl _ _)
  have HMS := Lib.hid hms
  have HST := Lib.hid hst
  have HMT := Lib.hid hmt
  have hlc := hrt.lc
  have hcm := hrt.cm
  have hn := hrt.n
  have HDOM : Hid (∀ o ∈ t.xs, KObj.dom o) := Lib.hid fun o ho => by
    obtain ⟨i, hi⟩ := List.getElem?_of_mem ho
    obtain ⟨_, _, _, _, _, h1, h2⟩ := obj_cells (hrt.at_ i o hi)
    exact ⟨h1, h2⟩
  unfold maxLen at hcm
  clear ht hrs hrt hms hst hmt hV HA HEF HKEEP HB1 HB2
  go_wp2
  go_loopw [9, 10] (fun v iv wr => ∃ k : Nat, k ≤ t.len ∧ iv = .int .i64 k ∧ Mine wr V.heap.size v (outOf s.xs (t.xs.take k)) ∧ Turned [] V wr) (fun _ iv _ => t.len - (intOf iv).toNat)
  case atStart => exact ⟨0, by omega, rfl, .inr ⟨rfl, g, rfl⟩, HT0.out⟩
  case round =>
    obtain ⟨k, hk, rfl, hown, hT⟩ := hrel
    have HOWN := Lib.hid hown
    have HT := Lib.hid hT
    have hlen := outOf_len s.xs t.xs k
    have hVs := hT.size
    clear hown hT HT0
    by_cases hlk : k < t.len
    · obtain ⟨x, hx⟩ : ∃ x, t.xs[k]? = some x := ⟨t.xs[k]'(by omega), by simp⟩
      have HX := Lib.hid hx
      obtain ⟨b, o, hab, e0, e1, -⟩ := obj_cells ((HRT.out.stays stays_obj HT.out).at_ k x hx)
      have HIN : Hid (∀ w1, Turned [] wr w1 → Calls Try.prog 30 #[s.v, .agg #[.int .i64 x.1, .int .i64 x.2]] w1 fun e w' => e = .returned (.bool (decide (x ∈ s.xs))) ∧ Turned [] w1 w') := Lib.hid fun w1 h => in_objs (HRS.out.stays stays_obj (HT.out.trans h))
      simp only [Sl.v] at HIN
      have HE0 := Lib.hid e0
      have HE1 := Lib.hid e1
      rw [hab]
      clear hx hab
      by_cases hin : x ∈ s.xs
      · rw [show decide (x ∈ s.xs) = true by simp [hin]] at HIN
        have HI := Lib.hid hin
        clear hin
        go_wp2_with (go_at_call 30; refine (HIN.out _ (Turned.refl _ _)).mono ?_; rintro e w7 ⟨rfl, ht7⟩; have HT7 := Lib.hid ht7; clear ht7)
        go_roundw
        case rel => exact ⟨k + 1, by omega, by go_num, by rw [outOf_in HX.out HI.out]; exact HOWN.out.keep HT7.out, HT.out.trans HT7.out⟩
        case measure => simp [intOf]; omega
      · rw [show decide (x ∈ s.xs) = false by simp [hin]] at HIN
        have HI := Lib.hid hin
        clear hin
        go_wp2_with (first
          | (go_at_call 30; refine (HIN.out _ (Turned.refl _ _)).mono ?_; rintro e w7 ⟨rfl, ht7⟩; have HT7 := Lib.hid ht7; have h7s := ht7.size; have e0 := ht7.cell HE0.out (by simp); have e1 := ht7.cell HE1.out (by simp); clear ht7)
          | (at_builtin; refine wpList_append_mine (by rfl) _ _ rfl rfl ((HOWN.out.keep HT7.out).keep ((Turned.refl [] w7).alloc _)) x _ _ rfl ⟨_, heap_alloc_new _ _⟩ (by omega) (by simp; omega) ?_; intro v3 w3 ho3 hg3; have HO3 := Lib.hid ho3; have HT3 := Lib.hid (hg3 V (Nat.le_refl _) ((HT.out.trans HT7.out).alloc _)); clear ho3 hg3))
        go_roundw
        case rel => exact ⟨k + 1, by omega, by go_num, by rw [outOf_out HX.out HI.out]; exact .inl HO3.out, HT3.out⟩
        case measure => simp [intOf]; omega
    · obtain rfl : k = t.len := by omega
      have HOA := Lib.hid (show Mine wr V.heap.size _ (outOf s.xs t.xs) by have h := HOWN.out; rw [← hn, List.take_length] at h; exact h)
      obtain ⟨u, hu, hux, hur⟩ := HOA.out.sl (fun o ho => HDOM.out o (List.mem_filter.1 ho).1)
      subst hu
      have HUR := Lib.hid hur
      have HUX := Lib.hid hux
      simp only [Sl.v]
      clear hux hur HOA HOWN
      go_wp2
      go_ret
      refine ⟨u, rfl, HUR.out, by rw [HUX.out]; exact srt_filter HST.out _, HTV.out.trans HT.out, fun o => ?_⟩
      rw [HUX.out]
      unfold outOf
      rw [List.mem_filter, HMT.out o, ← HMS.out o]
      simp
end Go.Proofs.Yteaglbfodeineaa

namespace Go.Proofs.Yteaglbfodeineaa
open Go.RowKit

set_option maxRecDepth 100000 in
set_option maxHeartbeats 8000000 in
theorem outside_walk (hfew : FewSays) {w : World} {D E : DumpV} {pid : Int} (hD : RDump w D) (hE : RDump w E) (hp : I64 pid) :
    Calls Try.prog 9 #[D.v, E.v, .int .i64 pid] w fun e w' => e = .returned (.bool true) ∧ Turned [] w w' := by
  have HC : Hid (∀ w1, Turned [] w w1 → Calls Try.prog 21 #[D.v] w1 (ShortDid w w1)) := Lib.hid fun w1 h => short_any hfew h hD
  have HCE : Hid (∀ w1, Turned [] w w1 → Calls Try.prog 21 #[E.v] w1 (ShortDid w w1)) := Lib.hid fun w1 h => short_any hfew h hE
  have HP := Lib.hid hp
  clear hD hE hfew hp
  simp only [DumpV.v, DumpV.cells, Sl.v] at HC HCE ⊢
  go_enter Try.func9, Try.ntmps9
  go_wp2_with fail
  generalize hW0 : World.alloc (World.alloc w _) _ = W
  have hW : W = (w.alloc (.cells D.cells.toArray 48 (0, 0))).alloc (.cells E.cells.toArray 48 (0, 0)) := hW0.symm
  clear hW0
  have HB1 := Lib.hid (show W.heap[w.heap.size]? = some (.cells D.cells.toArray 48 (0, 0)) by rw [hW]; exact ((Turned.refl [] _).alloc _).keep (heap_alloc_new w _) (by simp))
  have HB2 := Lib.hid (show W.heap[w.heap.size + 1]? = some (.cells E.cells.toArray 48 (0, 0)) by rw [hW]; exact heap_alloc_second w _ _)
  have HTW := Lib.hid (show Turned [] w W by rw [hW]; exact ((Turned.refl _ _).alloc _).alloc _)
  have HWS := Lib.hid (show W.heap.size = w.heap.size + 2 by rw [hW]; simp)
  clear hW
  refine (HC.out _ HTW.out).mono ?_
  rintro e w1 ⟨D1, b1, rfl, hcD, -, ht1, hD1⟩
  have HD1 := Lib.hid hD1
  have HCD1 := Lib.hid hcD
  have HT1 := Lib.hid ht1
  have HB1' := Lib.hid (ht1.keep HB1.out (by simp))
  have HB2' := Lib.hid (ht1.keep HB2.out (by simp))
  obtain ⟨e0, e1, e2, e3, e4, e5, e6, e7, e8, e9, e10, e11⟩ := box_cells HB2'.out
  simp only [Sl.v] at e0 e1 e2 e3 e4 e5 e6
  clear hD1 hcD ht1 HC
  go_wp2_with (refine wpList_store_dump (by rfl) _ _ rfl (D := D1) (Z := D) rfl rfl HB1'.out ?_; intro w2 h2 t2; have H2 := Lib.hid h2; have T2 := Lib.hid t2; clear h2 t2; have HB2x := Lib.hid (T2.out.keep HB2'.out (by simp)); clear e0 e1 e2 e3 e4 e5 e6 e7 e8 e9 e10 e11; obtain ⟨e0, e1, e2, e3, e4, e5, e6, e7, e8, e9, e10, e11⟩ := box_cells HB2x.out; simp only [Sl.v] at e0 e1 e2 e3 e4 e5 e6)
  have HW2 := Lib.hid (show Turned [] w w2 from (HTW.out.trans HT1.out).step T2.out (fun i hi => by simp at hi; right; omega))
  refine (HCE.out _ HW2.out).mono ?_
  rintro e w3 ⟨E1, b2, rfl, hcE, -, ht3, hE1⟩
  have HE1 := Lib.hid hE1
  have HCE1 := Lib.hid hcE
  have HT3 := Lib.hid ht3
  have HB2'' := Lib.hid (ht3.keep HB2x.out (by simp))
  have H3 := Lib.hid (ht3.keep H2.out (by simp))
  clear hE1 hcE ht3 HCE e0 e1 e2 e3 e4 e5 e6 e7 e8 e9 e10 e11
  have hs12 := HT1.out.size
  have hs23 := T2.out.size
  have hws := HWS.out
  cases b1 with
  | false =>
    go_wp2_with (first
      | (go_at_call 22; refine lives_any.mono ?_; rintro e w5 ⟨rfl, ht5⟩; have HT5 := Lib.hid (T4.out.step (S' := []) ht5 (by simp)); clear ht5)
      | (refine wpList_store_dump (by rfl) _ _ rfl (D := E1) (Z := E) rfl rfl HB2''.out ?_; intro w4 h4 t4; have H4 := Lib.hid h4; have T4 := Lib.hid t4; clear h4 t4))
    go_ret
    exact ⟨rfl, (HW2.out.trans HT3.out).step HT5.out (fun i hi => by simp at hi; right; omega)⟩
  | true =>
  cases b2 with
  | false =>
    go_wp2_with (first
      | (go_at_call 22; refine lives_any.mono ?_; rintro e w5 ⟨rfl, ht5⟩; have HT5 := Lib.hid (T4.out.step (S' := []) ht5 (by simp)); clear ht5)
      | (refine wpList_store_dump (by rfl) _ _ rfl (D := E1) (Z := E) rfl rfl HB2''.out ?_; intro w4 h4 t4; have H4 := Lib.hid h4; have T4 := Lib.hid t4; clear h4 t4))
    go_ret
    exact ⟨rfl, (HW2.out.trans HT3.out).step HT5.out (fun i hi => by simp at hi; right; omega)⟩
  | true =>
    go_wp2_with (refine wpList_store_dump (by rfl) _ _ rfl (D := E1) (Z := E) rfl rfl HB2''.out ?_; intro w4 h4 t4; have H4 := Lib.hid h4; have T4 := Lib.hid t4; clear h4 t4)
    have HRE := Lib.hid (HE1.out [w.heap.size + 1] w4 (fun k hk => by simp at hk; omega) T4.out)
    have HRD := Lib.hid (HD1.out [w.heap.size, w.heap.size + 1] w4 (fun k hk => by simp at hk; omega) (((T2.out.mono (by simp)).trans (HT3.out.mono (by simp))).trans (T4.out.mono (by simp))))
    have HX1 := Lib.hid (T4.out.keep H3.out (by simp))
    have HKEEP : Hid (∀ w', Turned [] w4 w' → w'.cell? ⟨w.heap.size, 0, none⟩ = some (.slice D1.procs.a D1.procs.len D1.procs.cap) ∧ w'.cell? ⟨w.heap.size, 1, none⟩ = some (.slice D1.held.a D1.held.len D1.held.cap) ∧ w'.cell? ⟨w.heap.size, 2, none⟩ = some (.slice D1.parks.a D1.parks.len D1.parks.cap) ∧ w'.cell? ⟨w.heap.size, 3, none⟩ = some (.slice D1.files.a D1.files.len D1.files.cap) ∧ w'.cell? ⟨w.heap.size, 4, none⟩ = some (.slice D1.pipes.a D1.pipes.len D1.pipes.cap) ∧ w'.cell? ⟨w.heap.size, 5, none⟩ = some (.slice D1.socks.a D1.socks.len D1.socks.cap) ∧ w'.cell? ⟨w.heap.size, 6, none⟩ = some (.slice D1.inodes.a D1.inodes.len D1.inodes.cap) ∧ w'.cell? ⟨w.heap.size, 7, none⟩ = some (.int .i64 D1.n0) ∧ w'.cell? ⟨w.heap.size, 8, none⟩ = some (.int .i64 D1.n1) ∧ w'.cell? ⟨w.heap.size, 9, none⟩ = some (.int .i64 D1.n2) ∧ w'.cell? ⟨w.heap.size, 10, none⟩ = some (.int .i64 D1.n3) ∧ w'.cell? ⟨w.heap.size, 11, none⟩ = some (.int .i64 D1.n4) ∧ w'.cell? ⟨w.heap.size + 1, 0, none⟩ = some (.slice E1.procs.a E1.procs.len E1.procs.cap) ∧ w'.cell? ⟨w.heap.size + 1, 1, none⟩ = some (.slice E1.held.a E1.held.len E1.held.cap) ∧ w'.cell? ⟨w.heap.size + 1, 2, none⟩ = some (.slice E1.parks.a E1.parks.len E1.parks.cap) ∧ w'.cell? ⟨w.heap.size + 1, 3, none⟩ = some (.slice E1.files.a E1.files.len E1.files.cap) ∧ w'.cell? ⟨w.heap.size + 1, 4, none⟩ = some (.slice E1.pipes.a E1.pipes.len E1.pipes.cap) ∧ w'.cell? ⟨w.heap.size + 1, 5, none⟩ = some (.slice E1.socks.a E1.socks.len E1.socks.cap) ∧ w'.cell? ⟨w.heap.size + 1, 6, none⟩ = some (.slice E1.inodes.a E1.inodes.len E1.inodes.cap) ∧ w'.cell? ⟨w.heap.size + 1, 7, none⟩ = some (.int .i64 E1.n0) ∧ w'.cell? ⟨w.heap.size + 1, 8, none⟩ = some (.int .i64 E1.n1) ∧ w'.cell? ⟨w.heap.size + 1, 9, none⟩ = some (.int .i64 E1.n2) ∧ w'.cell? ⟨w.heap.size + 1, 10, none⟩ = some (.int .i64 E1.n3) ∧ w'.cell? ⟨w.heap.size + 1, 11, none⟩ = some (.int .i64 E1.n4)) := Lib.hid fun w' h => by
      have h1 := box_cells (h.keep HX1.out (by simp))
      have h2 := box_cells (h.keep H4.out (by simp))
      simp only [Sl.v] at h1 h2
      obtain ⟨d0, d1, d2, d3, d4, d5, d6, d7, d8, d9, d10, d11⟩ := h1
      obtain ⟨e0, e1, e2, e3, e4, e5, e6, e7, e8, e9, e10, e11⟩ := h2
      exact ⟨d0, d1, d2, d3, d4, d5, d6, d7, d8, d9, d10, d11, e0, e1, e2, e3, e4, e5, e6, e7, e8, e9, e10, e11⟩
    have HA : Hid (∀ w', Turned [] w4 w' → Calls Try.prog 28 #[D1.v, E1.v, .int .i64 pid] w' fun e w'' => ∃ s : Sl Ob, e = .returned (.slice s.a s.len s.cap) ∧ RSl 2 RObj w'' s ∧ Turned [] w' w'' ∧ Srt s.xs ∧ ∀ o, o ∈ s.xs ↔ EffT D1 E1 o ∧ ¬ Auth D1 pid o) := Lib.hid fun w' ht => (outside_top (HRD.out.stays ht) (HRE.out.stays ht) HCD1.out HCE1.out HP.out).mono (by
      rintro e w3 ⟨v, l, rfl, hs, ho, ht3, -, hm⟩
      obtain ⟨s, rfl, rfl, hr⟩ := ho.sl (fun o ho => EffT.wf HRD.out ((hm o).1 ho).1)
      exact ⟨s, rfl, hr, ht3, hs, hm⟩)
    have HR : Hid (∀ w', Turned [] w4 w' → Calls Try.prog 29 #[D1.v, E1.v, .int .i64 pid] w' fun e w'' => ∃ s : Sl Ob, e = .returned (.slice s.a s.len s.cap) ∧ RSl 2 RObj w'' s ∧ Turned [] w' w'' ∧ Srt s.xs ∧ ∀ o, o ∈ s.xs ↔ EffT D1 E1 o ∧ ¬ Auth D1 pid o) := Lib.hid fun w' ht => (ref_outside (HCD1.out.small HRD.out) (HRD.out.stays ht) (HRE.out.stays ht) HCD1.out HP.out).mono (by
      rintro e w3 ⟨s, rfl, hr, hs, ht3, hm⟩
      exact ⟨s, rfl, hr, ht3, hs, hm⟩)
    have HSAME : Hid (∀ w' (s t : Sl Ob), RSl 2 RObj w' s → RSl 2 RObj w' t → Srt s.xs → Srt t.xs → (∀ o, o ∈ s.xs ↔ EffT D1 E1 o ∧ ¬ Auth D1 pid o) → (∀ o, o ∈ t.xs ↔ EffT D1 E1 o ∧ ¬ Auth D1 pid o) → Calls Try.prog 23 #[.slice s.a s.len s.cap, .slice t.a t.len t.cap] w' fun e w'' => e = .returned (.bool true) ∧ Turned [] w' w'') := Lib.hid fun w' s t hs ht h1 h2 h3 h4 => by
      have h := same_objs hs ht
      rw [show decide (s.xs = t.xs) = true by simpa using srt_ext h1 h2 (fun o => (h3 o).trans (h4 o).symm)] at h
      exact h
    simp only [DumpV.v, DumpV.cells, Sl.v] at HA HR
    go_region_held3 (fun w' => w'.cell? ⟨w.heap.size, 0, none⟩ = some (.slice D1.procs.a D1.procs.len D1.procs.cap) ∧ w'.cell? ⟨w.heap.size, 1, none⟩ = some (.slice D1.held.a D1.held.len D1.held.cap) ∧ w'.cell? ⟨w.heap.size, 2, none⟩ = some (.slice D1.parks.a D1.parks.len D1.parks.cap) ∧ w'.cell? ⟨w.heap.size, 3, none⟩ = some (.slice D1.files.a D1.files.len D1.files.cap) ∧ w'.cell? ⟨w.heap.size, 4, none⟩ = some (.slice D1.pipes.a D1.pipes.len D1.pipes.cap) ∧ w'.cell? ⟨w.heap.size, 5, none⟩ = some (.slice D1.socks.a D1.socks.len D1.socks.cap) ∧ w'.cell? ⟨w.heap.size, 6, none⟩ = some (.slice D1.inodes.a D1.inodes.len D1.inodes.cap) ∧ w'.cell? ⟨w.heap.size, 7, none⟩ = some (.int .i64 D1.n0) ∧ w'.cell? ⟨w.heap.size, 8, none⟩ = some (.int .i64 D1.n1) ∧ w'.cell? ⟨w.heap.size, 9, none⟩ = some (.int .i64 D1.n2) ∧ w'.cell? ⟨w.heap.size, 10, none⟩ = some (.int .i64 D1.n3) ∧ w'.cell? ⟨w.heap.size, 11, none⟩ = some (.int .i64 D1.n4) ∧ w'.cell? ⟨w.heap.size + 1, 0, none⟩ = some (.slice E1.procs.a E1.procs.len E1.procs.cap) ∧ w'.cell? ⟨w.heap.size + 1, 1, none⟩ = some (.slice E1.held.a E1.held.len E1.held.cap) ∧ w'.cell? ⟨w.heap.size + 1, 2, none⟩ = some (.slice E1.parks.a E1.parks.len E1.parks.cap) ∧ w'.cell? ⟨w.heap.size + 1, 3, none⟩ = some (.slice E1.files.a E1.files.len E1.files.cap) ∧ w'.cell? ⟨w.heap.size + 1, 4, none⟩ = some (.slice E1.pipes.a E1.pipes.len E1.pipes.cap) ∧ w'.cell? ⟨w.heap.size + 1, 5, none⟩ = some (.slice E1.socks.a E1.socks.len E1.socks.cap) ∧ w'.cell? ⟨w.heap.size + 1, 6, none⟩ = some (.slice E1.inodes.a E1.inodes.len E1.inodes.cap) ∧ w'.cell? ⟨w.heap.size + 1, 7, none⟩ = some (.int .i64 E1.n0) ∧ w'.cell? ⟨w.heap.size + 1, 8, none⟩ = some (.int .i64 E1.n1) ∧ w'.cell? ⟨w.heap.size + 1, 9, none⟩ = some (.int .i64 E1.n2) ∧ w'.cell? ⟨w.heap.size + 1, 10, none⟩ = some (.int .i64 E1.n3) ∧ w'.cell? ⟨w.heap.size + 1, 11, none⟩ = some (.int .i64 E1.n4))
      ((refine HKEEP.out _ ?_; (repeat (first | exact Turned.refl _ _ | exact HTL.out | exact HTN.out | exact HTC.out | exact HT2.out | exact HTA.out | exact HTB.out | refine Turned.drew ?_ | refine Turned.drewN ?_ _ | refine Turned.alloc ?_ _))))
      ((first
        | (go_at_call 28; have hq := HTB; refine (HA.out _ (by (repeat (first | exact Turned.refl _ _ | exact HTL.out | exact HTN.out | exact HTC.out | exact HT2.out | exact HTA.out | exact HTB.out | refine Turned.drew ?_ | refine Turned.drewN ?_ _ | refine Turned.alloc ?_ _)))).mono ?_; rintro e wA ⟨s, rfl, hr, ht, hs, hm⟩; have HT2 := Lib.hid (HTB.out.trans (Turned.trans (by exact Turned.refl _ _) ht)); have HRA := Lib.hid hr; have HRB2 := Lib.hid (HRB.out.stays stays_obj ht); have HSA := Lib.hid (And.intro hs hm); have HRA2 := HRA; clear hq hr ht hs hm)
        | (go_at_call 29; have hq := HTA; refine (HR.out _ (by (repeat (first | exact Turned.refl _ _ | exact HTL.out | exact HTN.out | exact HTC.out | exact HT2.out | exact HTA.out | exact HTB.out | refine Turned.drew ?_ | refine Turned.drewN ?_ _ | refine Turned.alloc ?_ _)))).mono ?_; rintro e wB ⟨t, rfl, hr, ht, hs, hm⟩; have HT2 := Lib.hid (HTA.out.trans (Turned.trans (by exact Turned.refl _ _) ht)); have HRB := Lib.hid hr; have HRA2 := Lib.hid (HRA.out.stays stays_obj ht); have HSB := Lib.hid (And.intro hs hm); have HRB2 := HRB; clear hq hr ht hs hm)
        | (go_at_call 28; refine (HA.out _ ((Turned.refl [] w4).drewN 1)).mono ?_; rintro e wA ⟨s, rfl, hr, ht, hs, hm⟩; have HTA := Lib.hid (((Turned.refl [] w4).drewN 1).trans ht); have HRA := Lib.hid hr; have HSA := Lib.hid (And.intro hs hm); clear hr ht hs hm)
        | (go_at_call 29; refine (HR.out _ ((Turned.refl [] w4).drewN 1)).mono ?_; rintro e wB ⟨t, rfl, hr, ht, hs, hm⟩; have HTB := Lib.hid (((Turned.refl [] w4).drewN 1).trans ht); have HRB := Lib.hid hr; have HSB := Lib.hid (And.intro hs hm); clear hr ht hs hm)
        | (go_at_call 23; refine (HSAME.out _ _ _ HRA2.out HRB2.out HSA.out.1 HSB.out.1 HSA.out.2 HSB.out.2).mono ?_; rintro e w5 ⟨rfl, ht⟩; have HTC := Lib.hid (HT2.out.trans ht); clear ht)
        | (go_at_call 22; refine lives_any.mono ?_; rintro e w6 ⟨rfl, ht⟩; have HTL := Lib.hid (HTC.out.trans ht); clear ht)))
    all_goals
      go_wp2_with fail
      go_ret
      exact ⟨rfl, (HW2.out.trans HT3.out).step (T4.out.step (S' := []) HTL.out (by simp)) (fun i hi => by simp at hi; right; omega)⟩
end Go.Proofs.Yteaglbfodeineaa
