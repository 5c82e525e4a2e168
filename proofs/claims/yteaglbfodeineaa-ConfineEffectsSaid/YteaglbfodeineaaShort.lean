/-
  A dump that is cut: the walk of short.
-/
import Derived.Test.YteaglbfodeineaaBox
import Derived.Test.YteaglbfodeineaaTopA
import Derived.Test.YteaglbfodeineaaFewB
namespace Go.Proofs.Yteaglbfodeineaa
open Go.RowKit

/-- What Few promises. -/
def FewSays : Prop := ∀ (u w : World) (D : DumpV), Turned [] u w → RDump u D → Calls Try.prog 31 #[D.v] w fun e w' => ∃ D', e = .returned D'.v ∧ Cut D' ∧ D'.held.len ≤ 12 ∧ Turned [] w w' ∧ ∀ S w2, (∀ k ∈ S, u.heap.size ≤ k ∧ k < w.heap.size) → Turned S w' w2 → RDump w2 D'

/-- What short comes to. -/
def ShortDid (u w : World) (e : Ending) (w' : World) : Prop := ∃ D' b, e = .returned (.tuple #[D'.v, .bool b]) ∧ Cut D' ∧ D'.held.len ≤ 12 ∧ Turned [] w w' ∧ ∀ S w2, (∀ k ∈ S, u.heap.size ≤ k ∧ k < w.heap.size) → Turned S w' w2 → RDump w2 D'

set_option maxRecDepth 100000 in
set_option maxHeartbeats 8000000 in
theorem short_any (hfew : FewSays) {u w : World} {D : DumpV} (hu : Turned [] u w) (hD : RDump u D) : Calls Try.prog 21 #[D.v] w (ShortDid u w) := by
  have HC : Hid (∀ w1, Turned [] u w1 → Calls Try.prog 31 #[D.v] w1 fun e w' => ∃ D', e = .returned D'.v ∧ Cut D' ∧ D'.held.len ≤ 12 ∧ Turned [] w1 w' ∧ ∀ S w2, (∀ k ∈ S, u.heap.size ≤ k ∧ k < w1.heap.size) → Turned S w' w2 → RDump w2 D') := Lib.hid fun w1 h => hfew u w1 D h hD
  have HU := Lib.hid hu
  clear hD hfew hu
  simp only [DumpV.v, DumpV.cells, Sl.v] at HC ⊢
  go_enter Try.func21, Try.ntmps21
  go_wp2_with fail
  generalize hW0 : World.alloc (World.alloc w _) _ = W
  obtain ⟨Z, hW⟩ : ∃ Z : DumpV, W = (w.alloc (.cells D.cells.toArray 48 (0, 0))).alloc (.cells Z.cells.toArray 48 (0, 0)) := ⟨⟨⟨none, 0, 0, []⟩, ⟨none, 0, 0, []⟩, ⟨none, 0, 0, []⟩, ⟨none, 0, 0, []⟩, ⟨none, 0, 0, []⟩, ⟨none, 0, 0, []⟩, ⟨none, 0, 0, []⟩, 0, 0, 0, 0, 0⟩, hW0.symm⟩
  clear hW0
  have HB1 := Lib.hid (show W.heap[w.heap.size]? = some (.cells D.cells.toArray 48 (0, 0)) by rw [hW]; exact ((Turned.refl [] _).alloc _).keep (heap_alloc_new _ _) (by simp))
  have HB2 := Lib.hid (show W.heap[w.heap.size + 1]? = some (.cells Z.cells.toArray 48 (0, 0)) by rw [hW]; exact heap_alloc_second _ _ _)
  have HTW := Lib.hid (show Turned [] w W by rw [hW]; exact ((Turned.refl _ _).alloc _).alloc _)
  have hWs : W.heap.size = w.heap.size + 2 := by rw [hW]; simp
  have HWS := Lib.hid hWs
  clear hW hWs
  refine (HC.out _ (HU.out.trans HTW.out)).mono ?_
  rintro e w1 ⟨E, rfl, hcE, hh, ht1, hE⟩
  have HE := Lib.hid hE
  have HCE := Lib.hid hcE
  have HH := Lib.hid hh
  have HT1 := Lib.hid ht1
  have HB1' := Lib.hid (ht1.keep HB1.out (by simp))
  have HB2' := Lib.hid (ht1.keep HB2.out (by simp))
  clear hE hcE hh ht1 HC
  go_wp2_with (refine wpList_store_dump (by rfl) _ _ rfl (D := E) (Z := D) rfl rfl HB1'.out ?_; intro w2 h2 t2; have H2 := Lib.hid h2; have T2 := Lib.hid t2; clear h2 t2)
  have HR2 := Lib.hid (HE.out [w.heap.size] w2 (fun k hk => by simp at hk; have := HU.out.size; have := HWS.out; omega) T2.out)
  have HRES := Lib.hid (T2.out.keep HB2'.out (by simp))
  obtain ⟨d0, d1, d2, d3, d4, d5, d6, d7, d8, d9, d10, d11⟩ := box_cells H2.out
  simp only [Sl.v] at d0 d1 d2 d3 d4 d5 d6
  have hn5 := HR2.out.socks.n
  have hc5 := HR2.out.socks.cm
  have hl5 := HR2.out.socks.lc
  unfold maxLen at hc5
  have HFIN : Hid (∀ (b : Bool) (w3 : World), Turned [w.heap.size + 1] w2 w3 → ShortDid u w (.returned (.tuple #[E.v, .bool b])) w3) := Lib.hid fun b w3 t3 => by
    refine ⟨E, b, rfl, HCE.out, HH.out, (((HTW.out.trans HT1.out).step T2.out (fun i hi => by simp at hi; right; omega)).step t3 (fun i hi => by simp at hi; right; omega)), fun S w4 hS t4 => HE.out (S ++ [w.heap.size, w.heap.size + 1]) w4 (fun k hk => ?_) ?_⟩
    · have := HU.out.size
      have := HWS.out
      rcases List.mem_append.1 hk with hk | hk
      · have := hS k hk; omega
      · simp at hk; omega
    · exact ((T2.out.mono (by simp)).trans (t3.mono (by simp))).trans (t4.mono (by simp +contextual))
  go_loop [4] (fun i => ∃ k : Nat, k ≤ E.socks.len ∧ i = .int .i64 k) (fun i => E.socks.len - (intOf i).toNat)
  case atStart => exact ⟨0, by omega, rfl⟩
  case round =>
    obtain ⟨k, hk, rfl⟩ := hrel
    by_cases hlt : k < E.socks.len
    · obtain ⟨s, hs⟩ : ∃ s, E.socks.xs[k]? = some s := ⟨E.socks.xs[k]'(by omega), by simp⟩
      obtain ⟨b, o, hab, -, -, -, -, -, -, -, -, e8, -, -, hp⟩ := sock_cells (HR2.out.socks.at_ k s hs)
      have HP := Lib.hid hp
      have hn8 := hp.n
      have hc8 := hp.cm
      have hl8 := hp.lc
      unfold maxLen at hc8
      simp only [Sl.v] at e8
      rw [hab] at d5
      have HAB := Lib.hid hab
      clear hs hp hab
      go_wp2
      go_loop [5] (fun i => ∃ j : Nat, j ≤ s.parts.len ∧ i = .int .i64 j) (fun i => s.parts.len - (intOf i).toNat)
      case atStart => exact ⟨0, by omega, rfl⟩
      case round =>
        obtain ⟨j, hj, rfl⟩ := hrel
        by_cases hlj : j < s.parts.len
        · obtain ⟨x, hx⟩ : ∃ x, s.parts.xs[j]? = some x := ⟨s.parts.xs[j]'(by omega), by simp⟩
          obtain ⟨b', o', hab', -, f1, -, -⟩ := part_cells (HP.out.at_ j x hx)
          simp only [Sl.v] at f1
          rw [hab'] at e8
          clear hx hab'
          by_cases h20 : 20 < x.l.len
          · go_wp2_with (refine wpList_store_dump (by rfl) _ _ rfl (D := { E with socks := ⟨some ⟨b, o, none⟩, E.socks.len, E.socks.cap, E.socks.xs⟩ }) (Z := Z) rfl rfl HRES.out ?_; intro w3 h3 t3; have H3 := Lib.hid h3; have T3 := Lib.hid t3; clear h3 t3)
            (try simp only [Exit.inBlock, Exit.then])
            have h3 := H3.out
            rw [← HAB.out] at h3
            refine bodyPost_ret (results_dump2 (D := E) rfl _ _ rfl rfl h3) rfl ?_
            exact HFIN.out false w3 T3.out
          · go_wp2
            go_round
            case rel => exact ⟨j + 1, by omega, by go_num⟩
            case measure => simp [intOf]; omega
        · have hj' : j = s.parts.len := by omega
          go_wp2
          go_round
          case rel => exact ⟨k + 1, by omega, by go_num⟩
          case measure => simp [intOf]; omega
    · have hk' : k = E.socks.len := by omega
      go_wp2_with (refine wpList_store_dump (by rfl) _ _ rfl (D := E) (Z := Z) rfl rfl HRES.out ?_; intro w3 h3 t3; have H3 := Lib.hid h3; have T3 := Lib.hid t3; clear h3 t3)
      (try simp only [Exit.inBlock, Exit.then])
      refine bodyPost_ret (results_dump2 rfl _ _ rfl rfl H3.out) rfl ?_
      exact HFIN.out true w3 T3.out
end Go.Proofs.Yteaglbfodeineaa
