/-
  A dump that is cut: the walk of Few.
-/
import Derived.Test.YteaglbfodeineaaFewA
import Derived.Test.YteaglbfodeineaaFewB
import Derived.Test.YteaglbfodeineaaBox
import Derived.Deep.DeepCutAuto
import Derived.Deep.RegionHeld3
namespace Go.Proofs.Yteaglbfodeineaa
open Go.RowKit

theorem heap_alloc_first (w : World) (a b : Obj) : ((w.alloc a).alloc b).heap[w.heap.size]? = some a := ((Turned.refl [] (w.alloc a)).alloc b).keep (heap_alloc_new w a) (by simp)

theorem Own9.ge {α : Type} {cells : α → List Value} {e : TypeId} {R : World → List Value → α → Prop} {w0 w : World} {base g n cap : Nat} {l : List α} (h : Own9 cells e R w0 w base (.slice (some ⟨g, 0, none⟩) n cap) l) : base ≤ g := by
  rcases h.own.2 with ⟨h1, _⟩ | ⟨g', cap', cur, hv, hg, _⟩
  · cases h1
  · cases hv; exact hg
theorem Own9.rsl {α : Type} {cells : α → List Value} {e : TypeId} {R : World → List Value → α → Prop} {w0 w : World} {base g n cap : Nat} {l : List α} (h9 : ∀ x, (cells x).length = 9) (hR : Stays R)
    (h : Own9 cells e R w0 w base (.slice (some ⟨g, 0, none⟩) n cap) l) (ht : Turned [] w0 w) (hn : l.length = n) : RSl 9 R w ⟨some ⟨g, 0, none⟩, n, cap, l⟩ := by
  have h' := h
  rcases h.own.2 with ⟨h1, _⟩ | ⟨g', cap', cur, hv, hg, hb, h1, h2, h3, h4⟩
  · cases h1
  · cases hv
    refine ⟨by omega, h2, fun e => by simp at e, hn, fun i x hx => ?_⟩
    refine ⟨g, 0, cells x, rfl, h9 x, fun j u hj => ?_, hR _ _ _ _ ht (h.rd x (List.mem_of_getElem? hx))⟩
    rw [Nat.zero_add]
    exact h'.cell h9 hx hj
theorem Own9.apart {α β : Type} {cells : α → List Value} {cells' : β → List Value} {e e' : TypeId} {R : World → List Value → α → Prop} {R' : World → List Value → β → Prop} {w0 w : World} {base g n cap g' n' cap' : Nat} {l : List α} {l' : List β}
    (h : Own9 cells e R w0 w base (.slice (some ⟨g, 0, none⟩) n cap) l) (h' : Own9 cells' e' R' w0 w base (.slice (some ⟨g', 0, none⟩) n' cap') l') (he : e ≠ e') : g ≠ g' := fun e1 => by
  rcases h.own.2 with ⟨h1, _⟩ | ⟨g1, c1, cur1, hv, _, hb, _⟩
  · cases h1
  · rcases h'.own.2 with ⟨h1, _⟩ | ⟨g2, c2, cur2, hv', _, hb', _⟩
    · cases h1
    · cases hv; cases hv'
      rw [e1, hb'] at hb
      simp at hb
      exact he hb.2.symm

theorem waits_next {ss : List SockV} {k : Nat} {s' : SockV} (h : ∀ j s, j < k → ss[j]? = some s → s.waits.len ≤ 8) (h' : s'.waits.len ≤ 8) : ∀ j s, j < k + 1 → (ss.set k s')[j]? = some s → s.waits.len ≤ 8 := fun j s hj hs => by
  by_cases e : k = j
  · subst e
    rw [List.getElem?_set] at hs
    simp at hs
    rw [← hs.2]; exact h'
  · rw [List.getElem?_set_ne e] at hs
    exact h j s (by omega) hs
theorem waits_same {ss : List SockV} {k : Nat} {s' : SockV} (h : ∀ j s, j < k → ss[j]? = some s → s.waits.len ≤ 8) (hs' : ss[k]? = some s') (h' : s'.waits.len ≤ 8) : ∀ j s, j < k + 1 → ss[j]? = some s → s.waits.len ≤ 8 := fun j s hj hs => by
  by_cases e : k = j
  · subst e
    rw [hs'] at hs
    cases hs; exact h'
  · exact h j s (by omega) hs
theorem inos_next {ss : List InodeV} {k : Nat} {s' : InodeV} (h : ∀ j s, j < k → ss[j]? = some s → s.inos.len ≤ 20) (h' : s'.inos.len ≤ 20) : ∀ j s, j < k + 1 → (ss.set k s')[j]? = some s → s.inos.len ≤ 20 := fun j s hj hs => by
  by_cases e : k = j
  · subst e
    rw [List.getElem?_set] at hs
    simp at hs
    rw [← hs.2]; exact h'
  · rw [List.getElem?_set_ne e] at hs
    exact h j s (by omega) hs
theorem inos_same {ss : List InodeV} {k : Nat} {s' : InodeV} (h : ∀ j s, j < k → ss[j]? = some s → s.inos.len ≤ 20) (hs' : ss[k]? = some s') (h' : s'.inos.len ≤ 20) : ∀ j s, j < k + 1 → ss[j]? = some s → s.inos.len ≤ 20 := fun j s hj hs => by
  by_cases e : k = j
  · subst e
    rw [hs'] at hs
    cases hs; exact h'
  · exact h j s (by omega) hs

def Bd (k : Nat) (D : DumpV) : Prop := (1 ≤ k → D.procs.len ≤ 8) ∧ (2 ≤ k → D.held.len ≤ 12) ∧ (3 ≤ k → D.files.len ≤ 12) ∧ (4 ≤ k → D.pipes.len ≤ 8) ∧ (5 ≤ k → D.socks.len ≤ 8) ∧ (6 ≤ k → D.inodes.len ≤ 12)

/-- A dump in its box, cut as far as k says. -/
structure Fw (u w wx : World) (k : Nat) (D : DumpV) : Prop where
  box : wx.heap[w.heap.size]? = some (.cells D.cells.toArray 48 (0, 0))
  res : ∃ Z : DumpV, wx.heap[w.heap.size + 1]? = some (.cells Z.cells.toArray 48 (0, 0))
  rd : RDump u D
  t : Turned [] w wx
  bd : Bd k D

theorem RSl.addr {α : Type} {size : Nat} {R : World → List Value → α → Prop} {w : World} {s : Sl α} (h : RSl size R w s) (hl : 0 < s.len) : ∃ b o, s.a = some ⟨b, o, none⟩ := by
  have hn := h.n
  obtain ⟨b, o, cs, ha, _⟩ := h.at_ 0 (s.xs[0]'(by omega)) (by simp)
  exact ⟨b, o, ha⟩

theorem Fw.set {u w wx : World} {k m : Nat} {D D' : DumpV} {y : Value} (h : Fw u w wx k D) (hc : D.cells.toArray.setIfInBounds m y = D'.cells.toArray) (hr : RDump u D') (hb : Bd (k + 1) D') : Fw u w (wx.setCell ⟨w.heap.size, m, none⟩ y) (k + 1) D' := by
  obtain ⟨Z, h1⟩ := h.res
  have t1 : Turned [w.heap.size] wx (wx.setCell ⟨w.heap.size, m, none⟩ y) := (Turned.refl _ _).setCell (.inl (by simp)) _
  refine ⟨by rw [heap_same_set h.box, hc], ⟨Z, t1.keep h1 (by simp)⟩, hr, h.t.step t1 (fun i hi => by simp at hi; omega), hb⟩

theorem Fw.next {u w wx : World} {k : Nat} {D : DumpV} (h : Fw u w wx k D) (hb : Bd (k + 1) D) : Fw u w wx (k + 1) D := ⟨h.box, h.res, h.rd, h.t, hb⟩

set_option maxRecDepth 100000 in
set_option maxHeartbeats 8000000 in
theorem few_any {u w : World} {D : DumpV} (hu : Turned [] u w) (hD : RDump u D) : Calls Try.prog 31 #[D.v] w fun e w' => ∃ D', e = .returned D'.v ∧ Cut D' ∧ D'.held.len ≤ 12 ∧ Turned [] w w' ∧ ∀ S w2, (∀ k ∈ S, u.heap.size ≤ k ∧ k < w.heap.size) → Turned S w' w2 → RDump w2 D' := by
  have HD := Lib.hid hD
  have HU := Lib.hid hu
  clear hD hu
  simp only [DumpV.v, DumpV.cells, Sl.v]
  go_enter Try.func31, Try.ntmps31
  go_upto_if 11 with fail
  generalize hW0 : World.alloc (World.alloc w _) _ = W
  obtain ⟨Z, hW⟩ : ∃ Z : DumpV, W = (w.alloc (.cells D.cells.toArray 48 (0, 0))).alloc (.cells Z.cells.toArray 48 (0, 0)) := ⟨⟨⟨none, 0, 0, []⟩, ⟨none, 0, 0, []⟩, ⟨none, 0, 0, []⟩, ⟨none, 0, 0, []⟩, ⟨none, 0, 0, []⟩, ⟨none, 0, 0, []⟩, ⟨none, 0, 0, []⟩, 0, 0, 0, 0, 0⟩, hW0.symm⟩
  clear hW0
  have HF := Lib.hid (show Fw u w W 0 D by
    rw [hW]
    exact ⟨((Turned.refl [] _).alloc _).keep (heap_alloc_new _ _) (by simp), ⟨Z, heap_alloc_second _ _ _⟩, HD.out, ((Turned.refl _ _).alloc _).alloc _, by unfold Bd; simp⟩)
  clear hW Z
  go_cut [] (fun wx => ∃ D', Fw u w wx 1 D')
  case first =>
    as_aux_lemma =>
    have c0 : W.cell? ⟨w.heap.size, 0, none⟩ = some (.slice D.procs.a D.procs.len D.procs.cap) := block_cell HF.out.box rfl
    have z0 := block_free HF.out.box 0
    have hlc := HF.out.rd.procs.lc
    have hcm := HF.out.rd.procs.cm
    unfold maxLen at hcm
    by_cases hgt : 8 < D.procs.len
    · obtain ⟨b, o, ha⟩ := HF.out.rd.procs.addr (by omega)
      rw [ha] at c0
      have HA := Lib.hid ha
      have HGT := Lib.hid hgt
      go_wp2
      go_meet
      refine ⟨{ D with procs := D.procs.cut 8 }, HF.out.set (by simp [DumpV.cells, Sl.cut, Sl.v, HA.out]) ⟨HF.out.rd.procs.cut (by have := HGT.out; omega), HF.out.rd.held, HF.out.rd.files, HF.out.rd.pipes, HF.out.rd.socks, HF.out.rd.inodes⟩ ?_⟩
      obtain ⟨h0, h1, h2, h3, h4, h5⟩ := HF.out.bd
      exact ⟨fun _ => Nat.le_refl _, fun h => h1 (by omega), fun h => h2 (by omega), fun h => h3 (by omega), fun h => h4 (by omega), fun h => h5 (by omega)⟩
    · go_wp2
      go_meet
      refine ⟨D, HF.out.next ?_⟩
      obtain ⟨h0, h1, h2, h3, h4, h5⟩ := HF.out.bd
      exact ⟨fun _ => by omega, fun h => h1 (by omega), fun h => h2 (by omega), fun h => h3 (by omega), fun h => h4 (by omega), fun h => h5 (by omega)⟩
  case rest =>
  obtain ⟨D1, hF⟩ := hcut
  clear HF
  have HF := Lib.hid hF
  clear hF
  have c0 : wc.cell? ⟨w.heap.size, 1, none⟩ = some (.slice D1.held.a D1.held.len D1.held.cap) := block_cell HF.out.box rfl
  go_upto_if 19 with fail
  go_cut [] (fun wx => ∃ D', Fw u w wx 2 D')
  case first =>
    as_aux_lemma =>
    have c0 : wc.cell? ⟨w.heap.size, 1, none⟩ = some (.slice D1.held.a D1.held.len D1.held.cap) := block_cell HF.out.box rfl
    have z0 := block_free HF.out.box 1
    have hlc := HF.out.rd.held.lc
    have hcm := HF.out.rd.held.cm
    unfold maxLen at hcm
    by_cases hgt : 12 < D1.held.len
    · obtain ⟨b, o, ha⟩ := HF.out.rd.held.addr (by omega)
      rw [ha] at c0
      have HA := Lib.hid ha
      have HGT := Lib.hid hgt
      go_wp2
      go_meet
      refine ⟨{ D1 with held := D1.held.cut 12 }, HF.out.set (by simp [DumpV.cells, Sl.cut, Sl.v, HA.out]) ⟨HF.out.rd.procs, HF.out.rd.held.cut (by have := HGT.out; omega), HF.out.rd.files, HF.out.rd.pipes, HF.out.rd.socks, HF.out.rd.inodes⟩ ?_⟩
      obtain ⟨h0, h1, h2, h3, h4, h5⟩ := HF.out.bd
      exact ⟨fun h => h0 (by omega), fun _ => Nat.le_refl _, fun h => h2 (by omega), fun h => h3 (by omega), fun h => h4 (by omega), fun h => h5 (by omega)⟩
    · go_wp2
      go_meet
      refine ⟨D1, HF.out.next ?_⟩
      obtain ⟨h0, h1, h2, h3, h4, h5⟩ := HF.out.bd
      exact ⟨fun h => h0 (by omega), fun _ => by omega, fun h => h2 (by omega), fun h => h3 (by omega), fun h => h4 (by omega), fun h => h5 (by omega)⟩
  case rest =>
  obtain ⟨D2, hF⟩ := hcut
  clear HF
  have HF := Lib.hid hF
  clear hF
  have c0 : wc.cell? ⟨w.heap.size, 3, none⟩ = some (.slice D2.files.a D2.files.len D2.files.cap) := block_cell HF.out.box rfl
  go_upto_if 27 with fail
  go_cut [] (fun wx => ∃ D', Fw u w wx 3 D')
  case first =>
    as_aux_lemma =>
    have c0 : wc.cell? ⟨w.heap.size, 3, none⟩ = some (.slice D2.files.a D2.files.len D2.files.cap) := block_cell HF.out.box rfl
    have z0 := block_free HF.out.box 3
    have hlc := HF.out.rd.files.lc
    have hcm := HF.out.rd.files.cm
    unfold maxLen at hcm
    by_cases hgt : 12 < D2.files.len
    · obtain ⟨b, o, ha⟩ := HF.out.rd.files.addr (by omega)
      rw [ha] at c0
      have HA := Lib.hid ha
      have HGT := Lib.hid hgt
      go_wp2
      go_meet
      refine ⟨{ D2 with files := D2.files.cut 12 }, HF.out.set (by simp [DumpV.cells, Sl.cut, Sl.v, HA.out]) ⟨HF.out.rd.procs, HF.out.rd.held, HF.out.rd.files.cut (by have := HGT.out; omega), HF.out.rd.pipes, HF.out.rd.socks, HF.out.rd.inodes⟩ ?_⟩
      obtain ⟨h0, h1, h2, h3, h4, h5⟩ := HF.out.bd
      exact ⟨fun h => h0 (by omega), fun h => h1 (by omega), fun _ => Nat.le_refl _, fun h => h3 (by omega), fun h => h4 (by omega), fun h => h5 (by omega)⟩
    · go_wp2
      go_meet
      refine ⟨D2, HF.out.next ?_⟩
      obtain ⟨h0, h1, h2, h3, h4, h5⟩ := HF.out.bd
      exact ⟨fun h => h0 (by omega), fun h => h1 (by omega), fun _ => by omega, fun h => h3 (by omega), fun h => h4 (by omega), fun h => h5 (by omega)⟩
  case rest =>
  obtain ⟨D3, hF⟩ := hcut
  clear HF
  have HF := Lib.hid hF
  clear hF
  have c0 : wc.cell? ⟨w.heap.size, 4, none⟩ = some (.slice D3.pipes.a D3.pipes.len D3.pipes.cap) := block_cell HF.out.box rfl
  go_upto_if 35 with fail
  go_cut [] (fun wx => ∃ D', Fw u w wx 4 D')
  case first =>
    as_aux_lemma =>
    have c0 : wc.cell? ⟨w.heap.size, 4, none⟩ = some (.slice D3.pipes.a D3.pipes.len D3.pipes.cap) := block_cell HF.out.box rfl
    have z0 := block_free HF.out.box 4
    have hlc := HF.out.rd.pipes.lc
    have hcm := HF.out.rd.pipes.cm
    unfold maxLen at hcm
    by_cases hgt : 8 < D3.pipes.len
    · obtain ⟨b, o, ha⟩ := HF.out.rd.pipes.addr (by omega)
      rw [ha] at c0
      have HA := Lib.hid ha
      have HGT := Lib.hid hgt
      go_wp2
      go_meet
      refine ⟨{ D3 with pipes := D3.pipes.cut 8 }, HF.out.set (by simp [DumpV.cells, Sl.cut, Sl.v, HA.out]) ⟨HF.out.rd.procs, HF.out.rd.held, HF.out.rd.files, HF.out.rd.pipes.cut (by have := HGT.out; omega), HF.out.rd.socks, HF.out.rd.inodes⟩ ?_⟩
      obtain ⟨h0, h1, h2, h3, h4, h5⟩ := HF.out.bd
      exact ⟨fun h => h0 (by omega), fun h => h1 (by omega), fun h => h2 (by omega), fun _ => Nat.le_refl _, fun h => h4 (by omega), fun h => h5 (by omega)⟩
    · go_wp2
      go_meet
      refine ⟨D3, HF.out.next ?_⟩
      obtain ⟨h0, h1, h2, h3, h4, h5⟩ := HF.out.bd
      exact ⟨fun h => h0 (by omega), fun h => h1 (by omega), fun h => h2 (by omega), fun _ => by omega, fun h => h4 (by omega), fun h => h5 (by omega)⟩
  case rest =>
  obtain ⟨D4, hF⟩ := hcut
  clear HF
  have HF := Lib.hid hF
  clear hF
  have c0 : wc.cell? ⟨w.heap.size, 5, none⟩ = some (.slice D4.socks.a D4.socks.len D4.socks.cap) := block_cell HF.out.box rfl
  go_upto_if 43 with fail
  go_cut [] (fun wx => ∃ D', Fw u w wx 5 D')
  case first =>
    as_aux_lemma =>
    have c0 : wc.cell? ⟨w.heap.size, 5, none⟩ = some (.slice D4.socks.a D4.socks.len D4.socks.cap) := block_cell HF.out.box rfl
    have z0 := block_free HF.out.box 5
    have hlc := HF.out.rd.socks.lc
    have hcm := HF.out.rd.socks.cm
    unfold maxLen at hcm
    by_cases hgt : 8 < D4.socks.len
    · obtain ⟨b, o, ha⟩ := HF.out.rd.socks.addr (by omega)
      rw [ha] at c0
      have HA := Lib.hid ha
      have HGT := Lib.hid hgt
      go_wp2
      go_meet
      refine ⟨{ D4 with socks := D4.socks.cut 8 }, HF.out.set (by simp [DumpV.cells, Sl.cut, Sl.v, HA.out]) ⟨HF.out.rd.procs, HF.out.rd.held, HF.out.rd.files, HF.out.rd.pipes, HF.out.rd.socks.cut (by have := HGT.out; omega), HF.out.rd.inodes⟩ ?_⟩
      obtain ⟨h0, h1, h2, h3, h4, h5⟩ := HF.out.bd
      exact ⟨fun h => h0 (by omega), fun h => h1 (by omega), fun h => h2 (by omega), fun h => h3 (by omega), fun _ => Nat.le_refl _, fun h => h5 (by omega)⟩
    · go_wp2
      go_meet
      refine ⟨D4, HF.out.next ?_⟩
      obtain ⟨h0, h1, h2, h3, h4, h5⟩ := HF.out.bd
      exact ⟨fun h => h0 (by omega), fun h => h1 (by omega), fun h => h2 (by omega), fun h => h3 (by omega), fun _ => by omega, fun h => h5 (by omega)⟩
  case rest =>
  obtain ⟨D5, hF⟩ := hcut
  clear HF
  have HF := Lib.hid hF
  clear hF
  have c0 : wc.cell? ⟨w.heap.size, 6, none⟩ = some (.slice D5.inodes.a D5.inodes.len D5.inodes.cap) := block_cell HF.out.box rfl
  go_upto_if 51 with fail
  go_cut [] (fun wx => ∃ D', Fw u w wx 6 D')
  case first =>
    as_aux_lemma =>
    have c0 : wc.cell? ⟨w.heap.size, 6, none⟩ = some (.slice D5.inodes.a D5.inodes.len D5.inodes.cap) := block_cell HF.out.box rfl
    have z0 := block_free HF.out.box 6
    have hlc := HF.out.rd.inodes.lc
    have hcm := HF.out.rd.inodes.cm
    unfold maxLen at hcm
    by_cases hgt : 12 < D5.inodes.len
    · obtain ⟨b, o, ha⟩ := HF.out.rd.inodes.addr (by omega)
      rw [ha] at c0
      have HA := Lib.hid ha
      have HGT := Lib.hid hgt
      go_wp2
      go_meet
      refine ⟨{ D5 with inodes := D5.inodes.cut 12 }, HF.out.set (by simp [DumpV.cells, Sl.cut, Sl.v, HA.out]) ⟨HF.out.rd.procs, HF.out.rd.held, HF.out.rd.files, HF.out.rd.pipes, HF.out.rd.socks, HF.out.rd.inodes.cut (by have := HGT.out; omega)⟩ ?_⟩
      obtain ⟨h0, h1, h2, h3, h4, h5⟩ := HF.out.bd
      exact ⟨fun h => h0 (by omega), fun h => h1 (by omega), fun h => h2 (by omega), fun h => h3 (by omega), fun h => h4 (by omega), fun _ => Nat.le_refl _⟩
    · go_wp2
      go_meet
      refine ⟨D5, HF.out.next ?_⟩
      obtain ⟨h0, h1, h2, h3, h4, h5⟩ := HF.out.bd
      exact ⟨fun h => h0 (by omega), fun h => h1 (by omega), fun h => h2 (by omega), fun h => h3 (by omega), fun h => h4 (by omega), fun _ => by omega⟩
  case rest =>
  obtain ⟨D6, hF⟩ := hcut
  clear HF
  have HF := Lib.hid hF
  clear hF
  have c5 : wc.cell? ⟨w.heap.size, 5, none⟩ = some (.slice D6.socks.a D6.socks.len D6.socks.cap) := block_cell HF.out.box rfl
  have c6 : wc.cell? ⟨w.heap.size, 6, none⟩ = some (.slice D6.inodes.a D6.inodes.len D6.inodes.cap) := block_cell HF.out.box rfl
  obtain ⟨V, hV⟩ : ∃ V : World, V = wc := ⟨_, rfl⟩
  have HVT := Lib.hid (show Turned [] V wc by rw [hV]; exact Turned.refl _ _)
  have HFV := Lib.hid (show Fw u w V 6 D6 by rw [hV]; exact HF.out)
  clear HF hV
  have hsl := HFV.out.bd.2.2.2.2.1 (by omega)
  have hil := HFV.out.bd.2.2.2.2.2 (by omega)
  go_upto_region 13 with fail
  go_cut [3, 4] (fun s3 s4 wx => ∃ g1 k1 g2 k2, s3 = .slice (some ⟨g1, 0, none⟩) D6.socks.len k1 ∧ s4 = .slice (some ⟨g2, 0, none⟩) D6.inodes.len k2 ∧ Own9 SockV.cells 77 RSock u wx (w.heap.size + 2) (.slice (some ⟨g1, 0, none⟩) D6.socks.len k1) D6.socks.xs ∧
    Own9 InodeV.cells 87 RInode u wx (w.heap.size + 2) (.slice (some ⟨g2, 0, none⟩) D6.inodes.len k2) D6.inodes.xs ∧ Turned [] V wx)
  case first =>
    as_aux_lemma =>
    have hsz : w.heap.size + 1 < wc.heap.size := by
      obtain ⟨Z, h1⟩ := HFV.out.res
      exact Nat.lt_of_lt_of_le (lt_of_heap h1) HVT.out.size
    go_region_held3 (fun w' => w'.cell? ⟨w.heap.size, 5, none⟩ = some (.slice D6.socks.a D6.socks.len D6.socks.cap) ∧ w'.cell? ⟨w.heap.size, 6, none⟩ = some (.slice D6.inodes.a D6.inodes.len D6.inodes.cap))
      (first | go_keep | (go_split_ands; first | exact ⟨HTS.out.cell (block_cell HFV.out.box rfl) (by simp), HTS.out.cell (block_cell HFV.out.box rfl) (by simp)⟩ | exact ⟨HTI.out.cell (block_cell HFV.out.box rfl) (by simp), HTI.out.cell (block_cell HFV.out.box rfl) (by simp)⟩))
      (first
      | ((refine step_append9 (cells := SockV.cells) (R := RSock) (e := 77) (bytes := 96) (w0 := u) (base := w.heap.size + 2) (by rfl) _ _ (by rfl) Try.underlying44 Try.info77 (by rfl) (by omega) sock9 sock_one sockCs (by rfl) (by first | omega | (simp; omega)) (by rfl) HFV.out.rd.socks (by omega) (HFV.out.rd.socks.stays stays_sock (HU.out.trans (HFV.out.t.trans (by (repeat (first | exact HVT.out | exact HTS.out | exact HTI.out | refine Turned.drew ?_ | refine Turned.drewN ?_ _ | refine Turned.alloc ?_ _)))))) (by (first | exact heap_alloc_new _ _ | exact heap_alloc_first _ _ _ | exact heap_alloc_second _ _ _ | exact (HGI.out.block _ (by simp <;> omega) (by simp <;> omega)).trans (heap_alloc_second _ _ _) | exact (HGI.out.block _ (by simp <;> omega) (by simp <;> omega)).trans (heap_alloc_first _ _ _))) ?_; intro g1 k1 w1 ho1 hg1 hb1; have HO1 := Lib.hid ho1; have HTS := Lib.hid (show Turned [] V w1 from Turned.grown (by (repeat (first | exact HVT.out | exact HTS.out | exact HTI.out | refine Turned.drew ?_ | refine Turned.drewN ?_ _ | refine Turned.alloc ?_ _))) hg1 (fun q hq => by cases hq; first | exact .inr (Nat.le_trans HVT.out.size (by first | omega | (simp; omega))))); have HGS := Lib.hid hg1; have HBS := Lib.hid hb1; have hszw1 : wc.heap.size ≤ w1.heap.size := (by have := hg1.size; first | omega | (simp at this; omega)); clear ho1 hg1 hb1))
      | ((refine step_append9 (cells := InodeV.cells) (R := RInode) (e := 87) (bytes := 112) (w0 := u) (base := w.heap.size + 2) (by rfl) _ _ (by rfl) Try.underlying45 Try.info87 (by rfl) (by omega) inode9 inode_one inodeCs (by rfl) (by first | omega | (simp; omega)) (by rfl) HFV.out.rd.inodes (by omega) (HFV.out.rd.inodes.stays stays_inode (HU.out.trans (HFV.out.t.trans (by (repeat (first | exact HVT.out | exact HTS.out | exact HTI.out | refine Turned.drew ?_ | refine Turned.drewN ?_ _ | refine Turned.alloc ?_ _)))))) (by (first | exact heap_alloc_new _ _ | exact heap_alloc_first _ _ _ | exact heap_alloc_second _ _ _ | exact (HGS.out.block _ (by simp <;> omega) (by simp <;> omega)).trans (heap_alloc_second _ _ _) | exact (HGS.out.block _ (by simp <;> omega) (by simp <;> omega)).trans (heap_alloc_first _ _ _))) ?_; intro g2 k2 w2 ho2 hg2 hb2; have HO2 := Lib.hid ho2; have HTI := Lib.hid (show Turned [] V w2 from Turned.grown (by (repeat (first | exact HVT.out | exact HTS.out | exact HTI.out | refine Turned.drew ?_ | refine Turned.drewN ?_ _ | refine Turned.alloc ?_ _))) hg2 (fun q hq => by cases hq; first | exact .inr (Nat.le_trans HVT.out.size (by first | omega | (simp; omega))))); have HGI := Lib.hid hg2; have HBI := Lib.hid hb2; have hszw2 : wc.heap.size ≤ w2.heap.size := (by have := hg2.size; first | omega | (simp at this; omega)); clear ho2 hg2 hb2)))
    all_goals (go_wp2_with fail; go_meet; first | exact ⟨_, _, _, _, rfl, rfl, (HO1.out.keep (by (repeat (first | exact Turned.refl _ _ | refine Turned.drew ?_ | refine Turned.drewN ?_ _ | refine Turned.alloc ?_ _)))).grown HGI.out HBI.out (by decide), HO2.out, HTI.out⟩ | exact ⟨_, _, _, _, rfl, rfl, HO1.out, (HO2.out.keep (by (repeat (first | exact Turned.refl _ _ | refine Turned.drew ?_ | refine Turned.drewN ?_ _ | refine Turned.alloc ?_ _)))).grown HGS.out HBS.out (by decide), HTS.out⟩)
  case rest =>
  obtain ⟨g1, k1, g2, k2, rfl, rfl, ho1, ho2, ht⟩ := hcut
  have HO1 := Lib.hid ho1
  have HO2 := Lib.hid ho2
  have HTC := Lib.hid ht
  have hn1 := HFV.out.rd.socks.n
  have hn2 := HFV.out.rd.inodes.n
  have hg12 : g1 ≠ g2 := Own9.apart ho1 ho2 (by decide)
  have hg1 := ho1.ge
  have hg2 := ho2.ge
  clear ho1 ho2 ht HVT c5 c6
  go_wp2
  go_loopw [5] (fun i wr => ∃ k ss, k ≤ D6.socks.len ∧ i = .int .i64 (k : Nat) ∧ Own9 SockV.cells 77 RSock u wr (w.heap.size + 2) (.slice (some ⟨g1, 0, none⟩) D6.socks.len k1) ss ∧ ss.length = D6.socks.len ∧ (∀ j s, j < k → ss[j]? = some s → s.waits.len ≤ 8) ∧ Turned [g1] wc wr) (fun i _ => D6.socks.len - (intOf i).toNat)
  case atStart => exact ⟨0, D6.socks.xs, by omega, rfl, HO1.out, hn1, fun j s h => by omega, Turned.refl _ _⟩
  case round =>
    obtain ⟨k, ss, hk, rfl, hown, hlen, hwa, hT⟩ := hrel
    have HOWN := Lib.hid hown
    have HWA := Lib.hid hwa
    have HT := Lib.hid hT
    clear hown hwa hT
    by_cases hlt : k < D6.socks.len
    · as_aux_lemma =>
      obtain ⟨s, hs⟩ : ∃ s, ss[k]? = some s := ⟨ss[k]'(by omega), by simp⟩
      have HS := Lib.hid hs
      have HRD := Lib.hid (HOWN.out.rd s (List.mem_of_getElem? hs))
      have e8 : wr.cell? ⟨g1, k * 9 + 8, none⟩ = some (.slice s.parts.a s.parts.len s.parts.cap) := HOWN.out.cell sock9 hs rfl
      have e5 : wr.cell? ⟨g1, k * 9 + 5, none⟩ = some (.slice s.waits.a s.waits.len s.waits.cap) := HOWN.out.cell sock9 hs rfl
      have z8 := HOWN.out.free (by omega) (k * 9 + 8)
      have z5 := HOWN.out.free (by omega) (k * 9 + 5)
      have q8 := HRD.out.2.2.2.cm
      have q5 := HRD.out.2.2.1.cm
      have r8 := HRD.out.2.2.2.lc
      have r5 := HRD.out.2.2.1.lc
      unfold maxLen at q8 q5
      have hgl : g1 < wr.heap.size := World.block_lt_of_cell? wr _ e8
      clear hs
      by_cases hp : 6 < s.parts.len
      · obtain ⟨b, o, ha⟩ := HRD.out.2.2.2.addr (by omega)
        rw [ha] at e8
        have HA := Lib.hid ha
        have HP := Lib.hid hp
        clear ha
        have HO8 := Lib.hid (HOWN.out.set (y := { s with parts := s.parts.cut 6 }) sock9 HS.out (j := 8) (u := .slice (some ⟨b, o, none⟩) 6 s.parts.cap) (by omega) (by simp [SockV.cells, Sl.cut, Sl.v, HA.out]) ⟨rfl, HRD.out.2.1, HRD.out.2.2.1, HRD.out.2.2.2.cut (by omega)⟩)
        by_cases hw : 8 < s.waits.len
        · obtain ⟨b', o', ha'⟩ := HRD.out.2.2.1.addr (by omega)
          rw [ha'] at e5
          have HA' := Lib.hid ha'
          have HW := Lib.hid hw
          clear ha'
          go_wp2
          go_roundw
          case rel =>
            have h2 := HO8.out.set (y := { s with parts := s.parts.cut 6, waits := s.waits.cut 8 }) (i := k) sock9 (by rw [List.getElem?_set_self (by omega)]) (j := 5) (u := .slice (some ⟨b', o', none⟩) 8 s.waits.cap) (by omega) (by simp [SockV.cells, Sl.cut, Sl.v, HA'.out]) ⟨rfl, HRD.out.2.1, HRD.out.2.2.1.cut (by have := HW.out; omega), HRD.out.2.2.2.cut (by have := HP.out; omega)⟩
            rw [List.set_set] at h2
            exact ⟨k + 1, _, by omega, by go_num, h2, by simp [hlen], waits_next HWA.out (Nat.le_refl _), (HT.out.setCell (.inl (by simp)) _).setCell (.inl (by simp)) _⟩
          case measure => simp [intOf]; omega
        · have HW := Lib.hid hw
          go_wp2
          go_roundw
          case rel => exact ⟨k + 1, _, by omega, by go_num, HO8.out, by simp [hlen], waits_next HWA.out (by have := HW.out; show s.waits.len ≤ 8; omega), HT.out.setCell (.inl (by simp)) _⟩
          case measure => simp [intOf]; omega
      · by_cases hw : 8 < s.waits.len
        · obtain ⟨b', o', ha'⟩ := HRD.out.2.2.1.addr (by omega)
          rw [ha'] at e5
          have HA' := Lib.hid ha'
          have HW := Lib.hid hw
          clear ha'
          have HO5 := Lib.hid (HOWN.out.set (y := { s with waits := s.waits.cut 8 }) sock9 HS.out (j := 5) (u := .slice (some ⟨b', o', none⟩) 8 s.waits.cap) (by omega) (by simp [SockV.cells, Sl.cut, Sl.v, HA'.out]) ⟨rfl, HRD.out.2.1, HRD.out.2.2.1.cut (by omega), HRD.out.2.2.2⟩)
          go_wp2
          go_roundw
          case rel => exact ⟨k + 1, _, by omega, by go_num, HO5.out, by simp [hlen], waits_next HWA.out (Nat.le_refl _), HT.out.setCell (.inl (by simp)) _⟩
          case measure => simp [intOf]; omega
        · have HW := Lib.hid hw
          go_wp2
          go_roundw
          case rel => exact ⟨k + 1, _, by omega, by go_num, HOWN.out, hlen, waits_same HWA.out HS.out (by have := HW.out; omega), HT.out⟩
          case measure => simp [intOf]; omega
    · obtain rfl : k = D6.socks.len := by omega
      have HWS := Lib.hid (show ∀ s ∈ ss, s.waits.len ≤ 8 from fun s hs => by
        obtain ⟨i, hi⟩ := List.getElem?_of_mem hs
        exact HWA.out i s (by have := (List.getElem?_eq_some_iff.1 hi).1; omega) hi)
      obtain ⟨wo, rfl⟩ : ∃ wo : World, wo = wr := ⟨_, rfl⟩
      have HO2' := Lib.hid (HO2.out.kept HT.out (fun k hk => by simp [Value.ownBlock] at hk; simp; omega))
      have HLEN1 := Lib.hid hlen
      clear HO1 HO2 hlt hk hlen
      go_wp2
      go_loopw [6] (fun i wr => ∃ k ss, k ≤ D6.inodes.len ∧ i = .int .i64 (k : Nat) ∧ Own9 InodeV.cells 87 RInode u wr (w.heap.size + 2) (.slice (some ⟨g2, 0, none⟩) D6.inodes.len k2) ss ∧ ss.length = D6.inodes.len ∧ (∀ j s, j < k → ss[j]? = some s → s.inos.len ≤ 20) ∧ Turned [g2] wo wr) (fun i _ => D6.inodes.len - (intOf i).toNat)
      case atStart => exact ⟨0, D6.inodes.xs, by omega, rfl, HO2'.out, hn2, fun j s h => by omega, Turned.refl _ _⟩
      case round =>
        obtain ⟨k, si, hk, rfl, hown2, hlen2, hwa2, hT2⟩ := hrel
        have HOWN2 := Lib.hid hown2
        have HWA2 := Lib.hid hwa2
        have HT2 := Lib.hid hT2
        clear hown2 hwa2 hT2
        by_cases hlt : k < D6.inodes.len
        · as_aux_lemma =>
          obtain ⟨s, hs⟩ : ∃ s, si[k]? = some s := ⟨si[k]'(by omega), by simp⟩
          have HS := Lib.hid hs
          have HRD := Lib.hid (HOWN2.out.rd s (List.mem_of_getElem? hs))
          have e8 : wr.cell? ⟨g2, k * 9 + 8, none⟩ = some (.slice s.inos.a s.inos.len s.inos.cap) := HOWN2.out.cell inode9 hs rfl
          have e6 : wr.cell? ⟨g2, k * 9 + 6, none⟩ = some (.int .i64 s.blocks) := HOWN2.out.cell inode9 hs rfl
          have z8 := HOWN2.out.free (by omega) (k * 9 + 8)
          have z6 := HOWN2.out.free (by omega) (k * 9 + 6)
          have q8 := HRD.out.2.2.2.cm
          have r8 := HRD.out.2.2.2.lc
          unfold maxLen at q8
          have hgl : g2 < wr.heap.size := World.block_lt_of_cell? wr _ e8
          clear hs
          by_cases hp : 20 < s.inos.len
          · obtain ⟨b, o, ha⟩ := HRD.out.2.2.2.addr (by omega)
            rw [ha] at e8
            have HA := Lib.hid ha
            have HP := Lib.hid hp
            clear ha
            have HO8 := Lib.hid (HOWN2.out.set (y := { s with inos := s.inos.cut 20 }) inode9 HS.out (j := 8) (u := .slice (some ⟨b, o, none⟩) 20 s.inos.cap) (by omega) (by simp [InodeV.cells, Sl.cut, Sl.v, HA.out]) ⟨rfl, HRD.out.2.1, HRD.out.2.2.1, HRD.out.2.2.2.cut (by omega)⟩)
            have HB6 := Lib.hid (show Own9 InodeV.cells 87 RInode u ((wr.setCell ⟨g2, k * 9 + 8, none⟩ (.slice (some ⟨b, o, none⟩) 20 s.inos.cap)).setCell ⟨g2, k * 9 + 6, none⟩ (.int .i64 5000)) (w.heap.size + 2) (.slice (some ⟨g2, 0, none⟩) D6.inodes.len k2) (si.set k { s with inos := s.inos.cut 20, blocks := 5000 }) by
              have h2 := HO8.out.set (y := { s with inos := s.inos.cut 20, blocks := 5000 }) (i := k) inode9 (by rw [List.getElem?_set_self (by omega)]) (j := 6) (u := .int .i64 5000) (by omega) (by simp [InodeV.cells, Sl.cut, Sl.v]) ⟨rfl, HRD.out.2.1, HRD.out.2.2.1, HRD.out.2.2.2.cut (by have := HP.out; omega)⟩
              rwa [List.set_set] at h2)
            by_cases hneg : s.blocks < 0
            · have HNEG := Lib.hid hneg
              go_wp2
              go_roundw
              case rel => exact ⟨k + 1, _, by omega, by go_num, HB6.out, by simp [hlen2], inos_next HWA2.out (Nat.le_refl _), (HT2.out.setCell (.inl (by simp)) _).setCell (.inl (by simp)) _⟩
              case measure => simp [intOf]; omega
            · by_cases hbig : 5000 < s.blocks
              · go_wp2
                go_roundw
                case rel => exact ⟨k + 1, _, by omega, by go_num, HB6.out, by simp [hlen2], inos_next HWA2.out (Nat.le_refl _), (HT2.out.setCell (.inl (by simp)) _).setCell (.inl (by simp)) _⟩
                case measure => simp [intOf]; omega
              · go_wp2
                go_roundw
                case rel => exact ⟨k + 1, _, by omega, by go_num, HO8.out, by simp [hlen2], inos_next HWA2.out (Nat.le_refl _), HT2.out.setCell (.inl (by simp)) _⟩
                case measure => simp [intOf]; omega
          · have HP := Lib.hid hp
            have HB6 := Lib.hid (HOWN2.out.set (y := { s with blocks := 5000 }) inode9 HS.out (j := 6) (u := .int .i64 5000) (by omega) (by simp [InodeV.cells, Sl.v]) ⟨rfl, HRD.out.2.1, HRD.out.2.2.1, HRD.out.2.2.2⟩)
            have hp' : s.inos.len ≤ 20 := by omega
            by_cases hneg : s.blocks < 0
            · go_wp2
              go_roundw
              case rel => exact ⟨k + 1, _, by omega, by go_num, HB6.out, by simp [hlen2], inos_next HWA2.out hp', HT2.out.setCell (.inl (by simp)) _⟩
              case measure => simp [intOf]; omega
            · by_cases hbig : 5000 < s.blocks
              · go_wp2
                go_roundw
                case rel => exact ⟨k + 1, _, by omega, by go_num, HB6.out, by simp [hlen2], inos_next HWA2.out hp', HT2.out.setCell (.inl (by simp)) _⟩
                case measure => simp [intOf]; omega
              · go_wp2
                go_roundw
                case rel => exact ⟨k + 1, _, by omega, by go_num, HOWN2.out, hlen2, inos_same HWA2.out HS.out hp', HT2.out⟩
                case measure => simp [intOf]; omega
        · as_aux_lemma =>
          obtain rfl : k = D6.inodes.len := by omega
          have HIS := Lib.hid (show ∀ s ∈ si, s.inos.len ≤ 20 from fun s hs => by
            obtain ⟨i, hi⟩ := List.getElem?_of_mem hs
            exact HWA2.out i s (by have := (List.getElem?_eq_some_iff.1 hi).1; omega) hi)
          obtain ⟨wz, rfl⟩ : ∃ wz : World, wz = wr := ⟨_, rfl⟩
          have HSO := Lib.hid (HOWN.out.kept HT2.out (fun k hk => by simp [Value.ownBlock] at hk; simp; omega))
          have HBOX := Lib.hid (HT2.out.keep (HT.out.keep (HTC.out.keep HFV.out.box (by simp)) (by simp; omega)) (by simp; omega))
          obtain ⟨Z, hcs⟩ := HFV.out.res
          have HRES := Lib.hid (HT2.out.keep (HT.out.keep (HTC.out.keep hcs (by simp)) (by simp; omega)) (by simp; omega))
          have HTZ := Lib.hid (show Turned [] w wz from ((HFV.out.t.trans HTC.out).step HT.out (fun i hi => by simp at hi; right; omega)).step HT2.out (fun i hi => by simp at hi; right; omega))
          obtain ⟨d0, d1, d2, d3, d4, d5, d6, d7, d8, d9, d10, d11⟩ := box_cells HBOX.out
          simp only [Sl.v] at d0 d1 d2 d3 d4 d5 d6
          have z5 := block_free HBOX.out 5
          have z6 := block_free HBOX.out 6
          have hbl := lt_of_heap HBOX.out
          have hrl := lt_of_heap HRES.out
          have hst := ((Turned.refl [w.heap.size] wz).setCell (p := ⟨w.heap.size, 5, none⟩) (.inl (by simp)) (.slice (some ⟨g1, 0, none⟩) D6.socks.len k1)).setCell (p := ⟨w.heap.size, 6, none⟩) (.inl (by simp)) (.slice (some ⟨g2, 0, none⟩) D6.inodes.len k2)
          have HST := Lib.hid hst
          have HRE2 := Lib.hid (hst.keep HRES.out (by simp))
          clear hst
          go_wp2_with (refine wpList_store_dump (by rfl) _ _ rfl (D := { D6 with socks := ⟨some ⟨g1, 0, none⟩, D6.socks.len, k1, ss⟩, inodes := ⟨some ⟨g2, 0, none⟩, D6.inodes.len, k2, si⟩ }) (Z := Z) rfl rfl HRE2.out ?_; intro w9 h9 t9; have H9 := Lib.hid h9; have T9 := Lib.hid ((HST.out.mono (S' := [w.heap.size, w.heap.size + 1]) (by simp)).trans (t9.mono (by simp))); clear h9 t9)
          (try simp only [Exit.inBlock, Exit.then])
          refine bodyPost_ret (results_dump rfl _ _ rfl H9.out) rfl ?_
          have HT9 := Lib.hid (HTZ.out.step T9.out (fun i hi => by simp at hi; right; omega))
          have HSO9 := Lib.hid (HSO.out.kept T9.out (fun k hk => by simp [Value.ownBlock] at hk; simp; omega))
          have HSI9 := Lib.hid (HOWN2.out.kept T9.out (fun k hk => by simp [Value.ownBlock] at hk; simp; omega))
          obtain ⟨b0, b1, b2, b3, b4, b5⟩ := HFV.out.bd
          have hcut : Cut { D6 with socks := ⟨some ⟨g1, 0, none⟩, D6.socks.len, k1, ss⟩, inodes := ⟨some ⟨g2, 0, none⟩, D6.inodes.len, k2, si⟩ } := ⟨b0 (by omega), by have := b1 (by omega); show D6.held.len ≤ 13; omega, b2 (by omega), b3 (by omega), hsl, hil, HIS.out, HWS.out⟩
          refine ⟨_, rfl, hcut, b1 (by omega), HT9.out, fun S w2 hS t2 => ?_⟩
          have hu2 : Turned [] u w2 := (HU.out.trans HT9.out).step t2 (fun i hi => .inr (hS i hi).1)
          exact ⟨HFV.out.rd.procs.stays stays_proc hu2, HFV.out.rd.held.stays stays_held hu2, HFV.out.rd.files.stays stays_file hu2, HFV.out.rd.pipes.stays stays_pipe hu2,
            (HSO9.out.kept t2 (fun k hk hk' => by simp [Value.ownBlock] at hk; have := (hS k hk').2; omega)).rsl sock9 stays_sock hu2 HLEN1.out,
            (HSI9.out.kept t2 (fun k hk hk' => by simp [Value.ownBlock] at hk; have := (hS k hk').2; omega)).rsl inode9 stays_inode hu2 hlen2⟩
end Go.Proofs.Yteaglbfodeineaa
