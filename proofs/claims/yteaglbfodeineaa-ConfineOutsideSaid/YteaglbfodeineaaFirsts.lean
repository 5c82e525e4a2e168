/-
  Where things with numbers stand first: the map.
-/
import Derived.Test.YteaglbfodeineaaMaps
import Derived.Handy
import Derived.OwnWalk
namespace Go.Proofs.Yteaglbfodeineaa
open Go.RowKit

/-- The first place from k on, as the map has it. -/
def ixFrom (ids : List Int) (k : Nat) : Int → Option Value := fun id => (ixOf (ids.drop k) id).map fun j => .int .i64 ((j + k : Nat) : Int)

theorem ixFrom_step {ids : List Int} {k : Nat} {x : Int} (h : ids[k]? = some x) : upd (ixFrom ids (k + 1)) x (.int .i64 k) = ixFrom ids k := by
  funext id
  obtain ⟨hk, rfl⟩ := List.getElem?_eq_some_iff.1 h
  unfold ixFrom upd
  rw [List.drop_eq_getElem_cons hk]
  by_cases he : id = ids[k]
  · subst he; simp [ixOf]
  · have h1 : ixOf (ids[k] :: ids.drop (k + 1)) id = (ixOf (ids.drop (k + 1)) id).map (· + 1) := by
      conv => lhs; unfold ixOf
      rw [if_neg (Ne.symm he)]
    rw [if_neg he, h1]
    cases hq : ixOf (ids.drop (k + 1)) id with
    | none => show Option.map _ (ixOf (ids.drop (k + 1)) id) = _; rw [hq]; rfl
    | some j => show Option.map _ (ixOf (ids.drop (k + 1)) id) = _; rw [hq]; simp; omega

theorem ixFrom_end {ids : List Int} {k : Nat} (h : ids.length ≤ k) : ixFrom ids k = fun _ => none := by
  funext id
  simp [ixFrom, List.drop_eq_nil_of_le h, ixOf]

theorem Turned.map {w w1 w2 : World} {b : Nat} (h : Turned [] w w1) (hg : w1.grownBy w2 (some b)) (hb : w.heap.size ≤ b) : Turned [] w w2 :=
  h.grown hg (fun k hk => by cases hk; exact .inr hb)

set_option maxHeartbeats 1000000 in
theorem number_63 {w : World} {B i : Nat} {s : Sl ProcV} {x : ProcV} (hs : RSl 7 RProc w s) (hc : w.cell? ⟨B, 0, none⟩ = some s.v) (hx : s.xs[i]? = some x) :
    Calls Try.prog 63 #[.int .i64 i, .pointer (some ⟨B, 0, none⟩)] w fun e w' => e = .returned (.int .i64 x.pid) ∧ Turned [] w w' := by
  obtain ⟨a, n, c, xs⟩ := s
  have hl := hs.lc
  have hcm := hs.cm
  have hn := hs.n
  have hat := hs.at_ i x hx
  simp only at hl hcm hn hat hc hx
  have hi : i < n := by rw [← hn]; exact (List.getElem?_eq_some_iff.1 hx).1
  unfold maxLen at hcm
  obtain ⟨b, o, rfl, e0, _⟩ := proc_cells hat
  clear hs hx hat
  simp only [Sl.v] at hc
  go_enter Try.func63, Try.ntmps63
  go_wp2
  go_ret
  exact ⟨rfl, Turned.refl _ _⟩

set_option maxHeartbeats 1000000 in
theorem firsts_63 {w : World} {B n : Nat} {ids : List Int} (hn : ids.length = n) (hm : n ≤ maxLen) (hid : ∀ x ∈ ids, I64 x)
    (hcl : ∀ (i : Nat) (x : Int), ids[i]? = some x → ∀ w1, Turned [] w w1 → Calls Try.prog 63 #[.int .i64 i, .pointer (some ⟨B, 0, none⟩)] w1 fun e w2 => e = .returned (.int .i64 x) ∧ Turned [] w1 w2) :
    Calls Try.prog 62 #[.int .i64 n, .func (.func 63) #[] #[.pointer (some ⟨B, 0, none⟩)]] w fun e w' => ∃ b, e = .returned (.map (some b)) ∧ w.heap.size ≤ b ∧ IsMapAt KInt w' b n (ixFrom ids 0) ∧ Turned [] w w' := by
  unfold maxLen at hm
  have HCL := Lib.hid hcl
  have HID := Lib.hid hid
  clear hcl hid
  have hmm := @run_makeMap Try.prog
  go_enter Try.func62, Try.ntmps62
  go_wp2
  generalize hW : World.alloc w _ = W
  have hT : Turned [] w W := by rw [← hW]; exact (Turned.refl _ _).alloc _
  have hI : IsMapAt KInt W w.heap.size 0 (fun _ => none) := by rw [← hW]; exact IsMapAt.made _ _
  have HT0 := Lib.hid hT
  have HI0 := Lib.hid hI
  clear hW hT hI
  go_loopw [6] (fun i wr => ∃ k : Nat, k ≤ n ∧ i = .int .i64 ((k : Int) - 1) ∧ IsMapAt KInt wr w.heap.size (n - k) (ixFrom ids k) ∧ Turned [] w wr) (fun i _ => (intOf i + 1).toNat)
  case atStart => exact ⟨n, by omega, rfl, by rw [ixFrom_end (by omega), Nat.sub_self]; exact HI0.out, HT0.out⟩
  case round =>
    obtain ⟨k, hk, rfl, hI, hT⟩ := hrel
    have HI := Lib.hid hI
    have HT := Lib.hid hT
    clear hI hT HI0 HT0
    by_cases h0 : 1 ≤ k
    · obtain ⟨j, rfl⟩ : ∃ j, k = j + 1 := ⟨k - 1, by omega⟩
      obtain ⟨x, hx⟩ : ∃ x, ids[j]? = some x := ⟨ids[j], by simp⟩
      have hxw := HID.out x (List.mem_of_getElem? hx)
      have HX := Lib.hid hx
      have HXW := Lib.hid hxw
      clear hx hxw
      have hj1 : ((j + 1 : Nat) : Int) - 1 = j := by omega
      rw [hj1]
      clear hj1
      go_wp2_with (first | (go_at_call 63; refine (HCL.out j x HX.out _ HT.out).mono ?_; rintro e w2 ⟨rfl, ht2⟩; have HT2 := Lib.hid (HT.out.trans ht2); have HI2 := Lib.hid (HI.out.kept ht2 (by simp)); clear ht2 HT HI) | (at_mapUpdate; refine wpList_update_is KInt (x := x) (v := .int .i64 j) rfl _ _ _ rfl HI2.out Try.underlying100 (by unfold maxLen; omega) HXW.out rfl rfl rfl ?_; intro w3 hm3 hg3; have HM3 := Lib.hid hm3; have HT3 := Lib.hid (HT2.out.map hg3 (Nat.le_refl _)); clear hm3 hg3))
      go_roundw
      case rel => exact ⟨j, by omega, rfl, by have := HM3.out; rw [ixFrom_step HX.out] at this; exact this.mono (by omega), HT3.out⟩
      case measure => simp [intOf]
    · obtain rfl : k = 0 := by omega
      go_wp2
      go_ret
      exact ⟨_, rfl, Nat.le_refl _, HI.out, HT.out⟩

set_option maxHeartbeats 1000000 in
theorem number_64 {w : World} {B i : Nat} {s : Sl FileV} {x : FileV} (hs : RSl 6 RFile w s) (hc : w.cell? ⟨B, 3, none⟩ = some s.v) (hx : s.xs[i]? = some x) :
    Calls Try.prog 64 #[.int .i64 i, .pointer (some ⟨B, 0, none⟩)] w fun e w' => e = .returned (.int .i64 x.id) ∧ Turned [] w w' := by
  obtain ⟨a, n, c, xs⟩ := s
  have hl := hs.lc
  have hcm := hs.cm
  have hn := hs.n
  have hat := hs.at_ i x hx
  simp only at hl hcm hn hat hc hx
  have hi : i < n := by rw [← hn]; exact (List.getElem?_eq_some_iff.1 hx).1
  unfold maxLen at hcm
  obtain ⟨b, o, rfl, e0, _⟩ := file_cells hat
  clear hs hx hat
  simp only [Sl.v] at hc
  go_enter Try.func64, Try.ntmps64
  go_wp2
  go_ret
  exact ⟨rfl, Turned.refl _ _⟩

set_option maxHeartbeats 1000000 in
theorem firsts_64 {w : World} {B n : Nat} {ids : List Int} (hn : ids.length = n) (hm : n ≤ maxLen) (hid : ∀ x ∈ ids, I64 x)
    (hcl : ∀ (i : Nat) (x : Int), ids[i]? = some x → ∀ w1, Turned [] w w1 → Calls Try.prog 64 #[.int .i64 i, .pointer (some ⟨B, 0, none⟩)] w1 fun e w2 => e = .returned (.int .i64 x) ∧ Turned [] w1 w2) :
    Calls Try.prog 62 #[.int .i64 n, .func (.func 64) #[] #[.pointer (some ⟨B, 0, none⟩)]] w fun e w' => ∃ b, e = .returned (.map (some b)) ∧ w.heap.size ≤ b ∧ IsMapAt KInt w' b n (ixFrom ids 0) ∧ Turned [] w w' := by
  unfold maxLen at hm
  have HCL := Lib.hid hcl
  have HID := Lib.hid hid
  clear hcl hid
  have hmm := @run_makeMap Try.prog
  go_enter Try.func62, Try.ntmps62
  go_wp2
  generalize hW : World.alloc w _ = W
  have hT : Turned [] w W := by rw [← hW]; exact (Turned.refl _ _).alloc _
  have hI : IsMapAt KInt W w.heap.size 0 (fun _ => none) := by rw [← hW]; exact IsMapAt.made _ _
  have HT0 := Lib.hid hT
  have HI0 := Lib.hid hI
  clear hW hT hI
  go_loopw [6] (fun i wr => ∃ k : Nat, k ≤ n ∧ i = .int .i64 ((k : Int) - 1) ∧ IsMapAt KInt wr w.heap.size (n - k) (ixFrom ids k) ∧ Turned [] w wr) (fun i _ => (intOf i + 1).toNat)
  case atStart => exact ⟨n, by omega, rfl, by rw [ixFrom_end (by omega), Nat.sub_self]; exact HI0.out, HT0.out⟩
  case round =>
    obtain ⟨k, hk, rfl, hI, hT⟩ := hrel
    have HI := Lib.hid hI
    have HT := Lib.hid hT
    clear hI hT HI0 HT0
    by_cases h0 : 1 ≤ k
    · obtain ⟨j, rfl⟩ : ∃ j, k = j + 1 := ⟨k - 1, by omega⟩
      obtain ⟨x, hx⟩ : ∃ x, ids[j]? = some x := ⟨ids[j], by simp⟩
      have hxw := HID.out x (List.mem_of_getElem? hx)
      have HX := Lib.hid hx
      have HXW := Lib.hid hxw
      clear hx hxw
      have hj1 : ((j + 1 : Nat) : Int) - 1 = j := by omega
      rw [hj1]
      clear hj1
      go_wp2_with (first | (go_at_call 64; refine (HCL.out j x HX.out _ HT.out).mono ?_; rintro e w2 ⟨rfl, ht2⟩; have HT2 := Lib.hid (HT.out.trans ht2); have HI2 := Lib.hid (HI.out.kept ht2 (by simp)); clear ht2 HT HI) | (at_mapUpdate; refine wpList_update_is KInt (x := x) (v := .int .i64 j) rfl _ _ _ rfl HI2.out Try.underlying100 (by unfold maxLen; omega) HXW.out rfl rfl rfl ?_; intro w3 hm3 hg3; have HM3 := Lib.hid hm3; have HT3 := Lib.hid (HT2.out.map hg3 (Nat.le_refl _)); clear hm3 hg3))
      go_roundw
      case rel => exact ⟨j, by omega, rfl, by have := HM3.out; rw [ixFrom_step HX.out] at this; exact this.mono (by omega), HT3.out⟩
      case measure => simp [intOf]
    · obtain rfl : k = 0 := by omega
      go_wp2
      go_ret
      exact ⟨_, rfl, Nat.le_refl _, HI.out, HT.out⟩

set_option maxHeartbeats 1000000 in
theorem number_65 {w : World} {B i : Nat} {s : Sl PipeV} {x : PipeV} (hs : RSl 4 RPipe w s) (hc : w.cell? ⟨B, 4, none⟩ = some s.v) (hx : s.xs[i]? = some x) :
    Calls Try.prog 65 #[.int .i64 i, .pointer (some ⟨B, 0, none⟩)] w fun e w' => e = .returned (.int .i64 x.id) ∧ Turned [] w w' := by
  obtain ⟨a, n, c, xs⟩ := s
  have hl := hs.lc
  have hcm := hs.cm
  have hn := hs.n
  have hat := hs.at_ i x hx
  simp only at hl hcm hn hat hc hx
  have hi : i < n := by rw [← hn]; exact (List.getElem?_eq_some_iff.1 hx).1
  unfold maxLen at hcm
  obtain ⟨b, o, rfl, e0, _⟩ := pipe_cells hat
  clear hs hx hat
  simp only [Sl.v] at hc
  go_enter Try.func65, Try.ntmps65
  go_wp2
  go_ret
  exact ⟨rfl, Turned.refl _ _⟩

set_option maxHeartbeats 1000000 in
theorem firsts_65 {w : World} {B n : Nat} {ids : List Int} (hn : ids.length = n) (hm : n ≤ maxLen) (hid : ∀ x ∈ ids, I64 x)
    (hcl : ∀ (i : Nat) (x : Int), ids[i]? = some x → ∀ w1, Turned [] w w1 → Calls Try.prog 65 #[.int .i64 i, .pointer (some ⟨B, 0, none⟩)] w1 fun e w2 => e = .returned (.int .i64 x) ∧ Turned [] w1 w2) :
    Calls Try.prog 62 #[.int .i64 n, .func (.func 65) #[] #[.pointer (some ⟨B, 0, none⟩)]] w fun e w' => ∃ b, e = .returned (.map (some b)) ∧ w.heap.size ≤ b ∧ IsMapAt KInt w' b n (ixFrom ids 0) ∧ Turned [] w w' := by
  unfold maxLen at hm
  have HCL := Lib.hid hcl
  have HID := Lib.hid hid
  clear hcl hid
  have hmm := @run_makeMap Try.prog
  go_enter Try.func62, Try.ntmps62
  go_wp2
  generalize hW : World.alloc w _ = W
  have hT : Turned [] w W := by rw [← hW]; exact (Turned.refl _ _).alloc _
  have hI : IsMapAt KInt W w.heap.size 0 (fun _ => none) := by rw [← hW]; exact IsMapAt.made _ _
  have HT0 := Lib.hid hT
  have HI0 := Lib.hid hI
  clear hW hT hI
  go_loopw [6] (fun i wr => ∃ k : Nat, k ≤ n ∧ i = .int .i64 ((k : Int) - 1) ∧ IsMapAt KInt wr w.heap.size (n - k) (ixFrom ids k) ∧ Turned [] w wr) (fun i _ => (intOf i + 1).toNat)
  case atStart => exact ⟨n, by omega, rfl, by rw [ixFrom_end (by omega), Nat.sub_self]; exact HI0.out, HT0.out⟩
  case round =>
    obtain ⟨k, hk, rfl, hI, hT⟩ := hrel
    have HI := Lib.hid hI
    have HT := Lib.hid hT
    clear hI hT HI0 HT0
    by_cases h0 : 1 ≤ k
    · obtain ⟨j, rfl⟩ : ∃ j, k = j + 1 := ⟨k - 1, by omega⟩
      obtain ⟨x, hx⟩ : ∃ x, ids[j]? = some x := ⟨ids[j], by simp⟩
      have hxw := HID.out x (List.mem_of_getElem? hx)
      have HX := Lib.hid hx
      have HXW := Lib.hid hxw
      clear hx hxw
      have hj1 : ((j + 1 : Nat) : Int) - 1 = j := by omega
      rw [hj1]
      clear hj1
      go_wp2_with (first | (go_at_call 65; refine (HCL.out j x HX.out _ HT.out).mono ?_; rintro e w2 ⟨rfl, ht2⟩; have HT2 := Lib.hid (HT.out.trans ht2); have HI2 := Lib.hid (HI.out.kept ht2 (by simp)); clear ht2 HT HI) | (at_mapUpdate; refine wpList_update_is KInt (x := x) (v := .int .i64 j) rfl _ _ _ rfl HI2.out Try.underlying100 (by unfold maxLen; omega) HXW.out rfl rfl rfl ?_; intro w3 hm3 hg3; have HM3 := Lib.hid hm3; have HT3 := Lib.hid (HT2.out.map hg3 (Nat.le_refl _)); clear hm3 hg3))
      go_roundw
      case rel => exact ⟨j, by omega, rfl, by have := HM3.out; rw [ixFrom_step HX.out] at this; exact this.mono (by omega), HT3.out⟩
      case measure => simp [intOf]
    · obtain rfl : k = 0 := by omega
      go_wp2
      go_ret
      exact ⟨_, rfl, Nat.le_refl _, HI.out, HT.out⟩

set_option maxHeartbeats 1000000 in
theorem number_66 {w : World} {B i : Nat} {s : Sl SockV} {x : SockV} (hs : RSl 9 RSock w s) (hc : w.cell? ⟨B, 5, none⟩ = some s.v) (hx : s.xs[i]? = some x) :
    Calls Try.prog 66 #[.int .i64 i, .pointer (some ⟨B, 0, none⟩)] w fun e w' => e = .returned (.int .i64 x.id) ∧ Turned [] w w' := by
  obtain ⟨a, n, c, xs⟩ := s
  have hl := hs.lc
  have hcm := hs.cm
  have hn := hs.n
  have hat := hs.at_ i x hx
  simp only at hl hcm hn hat hc hx
  have hi : i < n := by rw [← hn]; exact (List.getElem?_eq_some_iff.1 hx).1
  unfold maxLen at hcm
  obtain ⟨b, o, rfl, e0, _⟩ := sock_cells hat
  clear hs hx hat
  simp only [Sl.v] at hc
  go_enter Try.func66, Try.ntmps66
  go_wp2
  go_ret
  exact ⟨rfl, Turned.refl _ _⟩

set_option maxHeartbeats 1000000 in
theorem firsts_66 {w : World} {B n : Nat} {ids : List Int} (hn : ids.length = n) (hm : n ≤ maxLen) (hid : ∀ x ∈ ids, I64 x)
    (hcl : ∀ (i : Nat) (x : Int), ids[i]? = some x → ∀ w1, Turned [] w w1 → Calls Try.prog 66 #[.int .i64 i, .pointer (some ⟨B, 0, none⟩)] w1 fun e w2 => e = .returned (.int .i64 x) ∧ Turned [] w1 w2) :
    Calls Try.prog 62 #[.int .i64 n, .func (.func 66) #[] #[.pointer (some ⟨B, 0, none⟩)]] w fun e w' => ∃ b, e = .returned (.map (some b)) ∧ w.heap.size ≤ b ∧ IsMapAt KInt w' b n (ixFrom ids 0) ∧ Turned [] w w' := by
  unfold maxLen at hm
  have HCL := Lib.hid hcl
  have HID := Lib.hid hid
  clear hcl hid
  have hmm := @run_makeMap Try.prog
  go_enter Try.func62, Try.ntmps62
  go_wp2
  generalize hW : World.alloc w _ = W
  have hT : Turned [] w W := by rw [← hW]; exact (Turned.refl _ _).alloc _
  have hI : IsMapAt KInt W w.heap.size 0 (fun _ => none) := by rw [← hW]; exact IsMapAt.made _ _
  have HT0 := Lib.hid hT
  have HI0 := Lib.hid hI
  clear hW hT hI
  go_loopw [6] (fun i wr => ∃ k : Nat, k ≤ n ∧ i = .int .i64 ((k : Int) - 1) ∧ IsMapAt KInt wr w.heap.size (n - k) (ixFrom ids k) ∧ Turned [] w wr) (fun i _ => (intOf i + 1).toNat)
  case atStart => exact ⟨n, by omega, rfl, by rw [ixFrom_end (by omega), Nat.sub_self]; exact HI0.out, HT0.out⟩
  case round =>
    obtain ⟨k, hk, rfl, hI, hT⟩ := hrel
    have HI := Lib.hid hI
    have HT := Lib.hid hT
    clear hI hT HI0 HT0
    by_cases h0 : 1 ≤ k
    · obtain ⟨j, rfl⟩ : ∃ j, k = j + 1 := ⟨k - 1, by omega⟩
      obtain ⟨x, hx⟩ : ∃ x, ids[j]? = some x := ⟨ids[j], by simp⟩
      have hxw := HID.out x (List.mem_of_getElem? hx)
      have HX := Lib.hid hx
      have HXW := Lib.hid hxw
      clear hx hxw
      have hj1 : ((j + 1 : Nat) : Int) - 1 = j := by omega
      rw [hj1]
      clear hj1
      go_wp2_with (first | (go_at_call 66; refine (HCL.out j x HX.out _ HT.out).mono ?_; rintro e w2 ⟨rfl, ht2⟩; have HT2 := Lib.hid (HT.out.trans ht2); have HI2 := Lib.hid (HI.out.kept ht2 (by simp)); clear ht2 HT HI) | (at_mapUpdate; refine wpList_update_is KInt (x := x) (v := .int .i64 j) rfl _ _ _ rfl HI2.out Try.underlying100 (by unfold maxLen; omega) HXW.out rfl rfl rfl ?_; intro w3 hm3 hg3; have HM3 := Lib.hid hm3; have HT3 := Lib.hid (HT2.out.map hg3 (Nat.le_refl _)); clear hm3 hg3))
      go_roundw
      case rel => exact ⟨j, by omega, rfl, by have := HM3.out; rw [ixFrom_step HX.out] at this; exact this.mono (by omega), HT3.out⟩
      case measure => simp [intOf]
    · obtain rfl : k = 0 := by omega
      go_wp2
      go_ret
      exact ⟨_, rfl, Nat.le_refl _, HI.out, HT.out⟩

set_option maxHeartbeats 1000000 in
theorem number_67 {w : World} {B i : Nat} {s : Sl InodeV} {x : InodeV} (hs : RSl 9 RInode w s) (hc : w.cell? ⟨B, 6, none⟩ = some s.v) (hx : s.xs[i]? = some x) :
    Calls Try.prog 67 #[.int .i64 i, .pointer (some ⟨B, 0, none⟩)] w fun e w' => e = .returned (.int .i64 x.ino) ∧ Turned [] w w' := by
  obtain ⟨a, n, c, xs⟩ := s
  have hl := hs.lc
  have hcm := hs.cm
  have hn := hs.n
  have hat := hs.at_ i x hx
  simp only at hl hcm hn hat hc hx
  have hi : i < n := by rw [← hn]; exact (List.getElem?_eq_some_iff.1 hx).1
  unfold maxLen at hcm
  obtain ⟨b, o, rfl, e0, _⟩ := inode_cells hat
  clear hs hx hat
  simp only [Sl.v] at hc
  go_enter Try.func67, Try.ntmps67
  go_wp2
  go_ret
  exact ⟨rfl, Turned.refl _ _⟩

set_option maxHeartbeats 1000000 in
theorem firsts_67 {w : World} {B n : Nat} {ids : List Int} (hn : ids.length = n) (hm : n ≤ maxLen) (hid : ∀ x ∈ ids, I64 x)
    (hcl : ∀ (i : Nat) (x : Int), ids[i]? = some x → ∀ w1, Turned [] w w1 → Calls Try.prog 67 #[.int .i64 i, .pointer (some ⟨B, 0, none⟩)] w1 fun e w2 => e = .returned (.int .i64 x) ∧ Turned [] w1 w2) :
    Calls Try.prog 62 #[.int .i64 n, .func (.func 67) #[] #[.pointer (some ⟨B, 0, none⟩)]] w fun e w' => ∃ b, e = .returned (.map (some b)) ∧ w.heap.size ≤ b ∧ IsMapAt KInt w' b n (ixFrom ids 0) ∧ Turned [] w w' := by
  unfold maxLen at hm
  have HCL := Lib.hid hcl
  have HID := Lib.hid hid
  clear hcl hid
  have hmm := @run_makeMap Try.prog
  go_enter Try.func62, Try.ntmps62
  go_wp2
  generalize hW : World.alloc w _ = W
  have hT : Turned [] w W := by rw [← hW]; exact (Turned.refl _ _).alloc _
  have hI : IsMapAt KInt W w.heap.size 0 (fun _ => none) := by rw [← hW]; exact IsMapAt.made _ _
  have HT0 := Lib.hid hT
  have HI0 := Lib.hid hI
  clear hW hT hI
  go_loopw [6] (fun i wr => ∃ k : Nat, k ≤ n ∧ i = .int .i64 ((k : Int) - 1) ∧ IsMapAt KInt wr w.heap.size (n - k) (ixFrom ids k) ∧ Turned [] w wr) (fun i _ => (intOf i + 1).toNat)
  case atStart => exact ⟨n, by omega, rfl, by rw [ixFrom_end (by omega), Nat.sub_self]; exact HI0.out, HT0.out⟩
  case round =>
    obtain ⟨k, hk, rfl, hI, hT⟩ := hrel
    have HI := Lib.hid hI
    have HT := Lib.hid hT
    clear hI hT HI0 HT0
    by_cases h0 : 1 ≤ k
    · obtain ⟨j, rfl⟩ : ∃ j, k = j + 1 := ⟨k - 1, by omega⟩
      obtain ⟨x, hx⟩ : ∃ x, ids[j]? = some x := ⟨ids[j], by simp⟩
      have hxw := HID.out x (List.mem_of_getElem? hx)
      have HX := Lib.hid hx
      have HXW := Lib.hid hxw
      clear hx hxw
      have hj1 : ((j + 1 : Nat) : Int) - 1 = j := by omega
      rw [hj1]
      clear hj1
      go_wp2_with (first | (go_at_call 67; refine (HCL.out j x HX.out _ HT.out).mono ?_; rintro e w2 ⟨rfl, ht2⟩; have HT2 := Lib.hid (HT.out.trans ht2); have HI2 := Lib.hid (HI.out.kept ht2 (by simp)); clear ht2 HT HI) | (at_mapUpdate; refine wpList_update_is KInt (x := x) (v := .int .i64 j) rfl _ _ _ rfl HI2.out Try.underlying100 (by unfold maxLen; omega) HXW.out rfl rfl rfl ?_; intro w3 hm3 hg3; have HM3 := Lib.hid hm3; have HT3 := Lib.hid (HT2.out.map hg3 (Nat.le_refl _)); clear hm3 hg3))
      go_roundw
      case rel => exact ⟨j, by omega, rfl, by have := HM3.out; rw [ixFrom_step HX.out] at this; exact this.mono (by omega), HT3.out⟩
      case measure => simp [intOf]
    · obtain rfl : k = 0 := by omega
      go_wp2
      go_ret
      exact ⟨_, rfl, Nat.le_refl _, HI.out, HT.out⟩

end Go.Proofs.Yteaglbfodeineaa
