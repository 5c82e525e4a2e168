/-
  Whether two parts, two lists of parts, two sockets are one.
-/
import Derived.Test.YteaglbfodeineaaEqf
import Derived.Laws.BytesArg
import Derived.Deep.RegionWith
namespace Go.Proofs.Yteaglbfodeineaa
open Go.RowKit

def PartV.val (x : PartV) : Value := .agg #[x.b.v, x.l.v]
abbrev PassedKey := Int × Int × Int × Bool × List Int
instance passedKeyEq : DecidableEq PassedKey := inferInstance
abbrev PartKey := ByteArray × List PassedKey
instance partKeyEq : DecidableEq PartKey := @instDecidableEqProd _ _ inferInstance (@List.hasDecEq _ passedKeyEq)
abbrev SockKey := (Int × Int × Int × Int) × (Bool × Bool) × List Int × List PartKey
instance sockKeyEq : DecidableEq SockKey := @instDecidableEqProd _ _ inferInstance (@instDecidableEqProd _ _ inferInstance (@instDecidableEqProd _ _ inferInstance (@List.hasDecEq _ partKeyEq)))
/-- What is told of a part. -/
def PartV.key (x : PartV) : PartKey := (strOfNums x.b.xs, x.l.xs.map PassedV.key)

theorem conv_bytes {w : World} {s : Sl Int} (h : RSl 1 (RInt .u8) w s) : (convert 26 9 s.v).run Try.prog w = .ok (.string (strOfNums s.xs)) w := by
  obtain ⟨a, n, c, xs⟩ := s
  have hn := h.n
  have hat := h.at_
  have hnil := h.nil
  simp only at hn hat hnil
  cases a with
  | none =>
    obtain rfl : xs = [] := List.eq_nil_of_length_eq_zero (by rw [hn]; exact (hnil rfl).1)
    exact run_convert_bytes_nil w 26 5 Try.underlying26 Try.underlying5 _ _ 9 Try.underlying9
  | some a =>
    obtain ⟨b, o, sp⟩ := a
    by_cases h0 : n = 0
    · subst h0
      obtain rfl : xs = [] := List.eq_nil_of_length_eq_zero hn
      have := run_convert_bytes_string (P := Try.prog) w 26 9 5 (some ⟨b, o, sp⟩) 0 c Try.underlying26 Try.underlying5 Try.underlying9
      refine this.trans ?_
      rw [run_bytesToString w _ 0 c [] (by simp [loadCells, loadCellsFrom])]
      rfl
    · have hsp : sp = none := by
        obtain ⟨b', o', h1, _⟩ := int_cells (hat 0 (xs[0]'(by omega)) (by simp))
        simp at h1; exact h1.2.2
      subst hsp
      refine run_convert_bytes_arg w 26 5 Try.underlying26 Try.underlying5 b o n c xs hn (fun i hi => ?_) 9 Try.underlying9
      obtain ⟨b', o', h1, h2⟩ := int_cells (hat i (xs[i]'(by omega)) (by simp))
      simp at h1
      obtain ⟨rfl, rfl⟩ := h1
      rw [h2]; simp [List.getD, List.getElem?_eq_getElem (show i < xs.length by omega)]

set_option maxHeartbeats 4000000 in
theorem part_eq {w : World} {x y : PartV} (hb : RSl 1 (RInt .u8) w x.b) (hb' : RSl 1 (RInt .u8) w y.b) (hl : RSl 5 RPassed w x.l) (hl' : RSl 5 RPassed w y.l) :
    Calls Try.prog 71 #[x.val, y.val] w fun e w' => e = .returned (.bool (decide (x.key = y.key))) ∧ Turned [] w w' := by
  have H2 : Hid (∀ w1, Turned [] w w1 → Calls Try.prog 79 #[x.l.v, y.l.v, .func (.func 80) #[] #[]] w1 fun e w' => e = .returned (.bool (decide (x.l.xs.map PassedV.key = y.l.xs.map PassedV.key))) ∧ Turned [] w1 w') := Lib.hid fun w1 h => equalf_passed (hl.stays stays_passed h) (hl'.stays stays_passed h)
  have hcx : ∀ o1 o2, (convert 26 9 x.b.v).run Try.prog ((w.alloc o1).alloc o2) = .ok (.string (strOfNums x.b.xs)) ((w.alloc o1).alloc o2) := fun o1 o2 => conv_bytes (hb.stays (stays_int _) (((Turned.refl _ _).alloc _).alloc _))
  have hcy : ∀ o1 o2, (convert 26 9 y.b.v).run Try.prog ((w.alloc o1).alloc o2) = .ok (.string (strOfNums y.b.xs)) ((w.alloc o1).alloc o2) := fun o1 o2 => conv_bytes (hb'.stays (stays_int _) (((Turned.refl _ _).alloc _).alloc _))
  clear hl hl' hb hb'
  unfold PartV.val
  simp only [Sl.v] at *
  by_cases h0 : strOfNums x.b.xs = strOfNums y.b.xs
  · have b0 : ((strOfNums x.b.xs).toList == (strOfNums y.b.xs).toList) = true := by simp [h0]
    have HE := Lib.hid (show decide (x.key = y.key) = decide (x.l.xs.map PassedV.key = y.l.xs.map PassedV.key) by simp [PartV.key, h0])
    clear h0
    generalize decide (x.l.xs.map PassedV.key = y.l.xs.map PassedV.key) = r at H2 HE
    generalize strOfNums x.b.xs = s1 at hcx b0
    generalize strOfNums y.b.xs = s2 at hcy b0
    go_enter Try.func71, Try.ntmps71
    go_wp2_with (go_at_call 79; refine (H2.out _ (((Turned.refl [] w).alloc _).alloc _)).mono ?_; rintro e w2 ⟨rfl, ht2⟩; have HT2 := Lib.hid ((((Turned.refl [] w).alloc _).alloc _).trans ht2); clear ht2)
    all_goals
      go_ret
      exact ⟨by rw [HE.out]; first | rfl | simp, HT2.out⟩
  · have b0 : ((strOfNums x.b.xs).toList == (strOfNums y.b.xs).toList) = false := by simpa [bytes_eq] using h0
    have HE := Lib.hid (show decide (x.key = y.key) = false by simp [PartV.key, h0])
    clear h0
    generalize strOfNums x.b.xs = s1 at hcx b0
    generalize strOfNums y.b.xs = s2 at hcy b0
    go_enter Try.func71, Try.ntmps71
    go_wp2
    go_ret
    exact ⟨by rw [HE.out]; rfl, ((Turned.refl _ _).alloc _).alloc _⟩

set_option maxHeartbeats 4000000 in
theorem equalf_part {w : World} {s t : Sl PartV} (hs : RSl 2 RPart w s) (ht : RSl 2 RPart w t) :
    Calls Try.prog 70 #[s.v, t.v, .func (.func 71) #[] #[]] w fun e w' => e = .returned (.bool (decide (s.xs.map PartV.key = t.xs.map PartV.key))) ∧ Turned [] w w' := by
  obtain ⟨a, n, c, xs⟩ := s
  obtain ⟨a', n', c', ys⟩ := t
  have hl := hs.lc
  have hc := hs.cm
  have hn := hs.n
  have HAT := Lib.hid hs.at_
  have hl' := ht.lc
  have hc' := ht.cm
  have hn' := ht.n
  have HAT' := Lib.hid ht.at_
  clear hs ht
  simp only at hl hc hn hl' hc' hn'
  unfold maxLen at hc hc'
  simp only [Sl.v]
  by_cases hnn : n = n'
  · subst hnn
    go_enter Try.func70, Try.ntmps70
    go_wp2
    go_loopw [17] (fun i wr => ∃ k : Nat, k ≤ n ∧ i = .int .i64 k ∧ Turned [] w wr ∧ ∀ j, j < k → (xs.map PartV.key)[j]? = (ys.map PartV.key)[j]?) (fun i _ => n - (intOf i).toNat)
    case atStart => exact ⟨0, by omega, rfl, Turned.refl _ _, fun j h => by omega⟩
    case round =>
      obtain ⟨k, hk, rfl, hT, hno⟩ := hrel
      have HNO := Lib.hid hno
      have HT := Lib.hid hT
      clear hno hT
      by_cases hlt : k < n
      · obtain ⟨x, hx⟩ : ∃ x, xs[k]? = some x := ⟨xs[k], by simp⟩
        obtain ⟨y, hy⟩ : ∃ y, ys[k]? = some y := ⟨ys[k], by simp⟩
        have HX := Lib.hid hx
        have HY := Lib.hid hy
        obtain ⟨b, o, hab, e0, e1, r0, r1⟩ := part_cells ((HAT.out k x hx).stays stays_part HT.out)
        obtain ⟨b', o', hab', f0, f1, q0, q1⟩ := part_cells ((HAT'.out k y hy).stays stays_part HT.out)
        have HR : Hid (∀ w1, Turned [] wr w1 → Calls Try.prog 71 #[x.val, y.val] w1 fun e w' => e = .returned (.bool (decide (x.key = y.key))) ∧ Turned [] w1 w') := Lib.hid fun w1 h => part_eq (r0.stays (stays_int _) h) (q0.stays (stays_int _) h) (r1.stays stays_passed h) (q1.stays stays_passed h)
        simp only [Sl.v] at e0 e1 f0 f1
        unfold PartV.val at HR
        simp only [Sl.v] at HR
        rw [hab, hab']
        have hbl : b' < wr.heap.size := World.block_lt_of_cell? wr _ f0
        have hbn : ¬ b' = wr.heap.size := by omega
        clear hx hy r0 q0 r1 q1
        by_cases he : x.key = y.key
        · have HE := Lib.hid he
          rw [show decide (x.key = y.key) = true by simp [he]] at HR
          clear he
          go_wp2_with (go_at_call 71; refine (HR.out _ (((Turned.refl [] wr).alloc _).alloc _)).mono ?_; rintro e w2 ⟨rfl, ht2⟩; have HT2 := Lib.hid (HT.out.trans ((((Turned.refl [] wr).alloc _).alloc _).trans ht2)); clear ht2)
          go_roundw
          case rel => exact ⟨k + 1, by omega, by go_num, HT2.out, eq_on HNO.out (by rw [List.getElem?_map, HX.out]; rfl) (by rw [List.getElem?_map, HY.out]; rfl) HE.out⟩
          case measure => simp [intOf]; omega
        · have HE := Lib.hid he
          rw [show decide (x.key = y.key) = false by simp [he]] at HR
          clear he
          go_wp2_with (go_at_call 71; refine (HR.out _ (((Turned.refl [] wr).alloc _).alloc _)).mono ?_; rintro e w2 ⟨rfl, ht2⟩; have HT2 := Lib.hid (HT.out.trans ((((Turned.refl [] wr).alloc _).alloc _).trans ht2)); clear ht2)
          go_ret
          exact ⟨ret_b (by simp [map_ne HX.out HY.out HE.out]), HT2.out⟩
      · have hk' : k = n := by omega
        go_wp2
        go_ret
        exact ⟨ret_b (by simp [eq_all HNO.out (by simp; omega) (by simp; omega)]), HT.out⟩
  · have HNN := Lib.hid hnn
    go_enter Try.func70, Try.ntmps70
    go_wp2
    go_ret
    exact ⟨ret_b (by have : xs.map PartV.key ≠ ys.map PartV.key := fun e => HNN.out (by have := congrArg List.length e; simp at this; omega); simp [this]), Turned.refl _ _⟩
def SockV.val (x : SockV) : Value := .agg #[.int .i64 x.id, .int .i64 x.state, .int .i64 x.peer, .int .i64 x.bound, .int .i64 x.most, x.waits.v, .bool x.shutR, .bool x.shutW, x.parts.v]
/-- What is told of a socket, but for its number. -/
def SockV.key (x : SockV) : SockKey := ((x.state, x.peer, x.bound, x.most), (x.shutR, x.shutW), x.waits.xs, x.parts.xs.map PartV.key)

set_option maxHeartbeats 8000000 in
theorem sock_eq {w : World} {x y : SockV} (hw : RSl 1 (RInt .i64) w x.waits) (hw' : RSl 1 (RInt .i64) w y.waits) (hp : RSl 2 RPart w x.parts) (hp' : RSl 2 RPart w y.parts) :
    Calls Try.prog 50 #[x.val, y.val] w fun e w' => e = .returned (.bool (decide (x.key = y.key))) ∧ Turned [] w w' := by
  have H1 : Hid (∀ w1, Turned [] w w1 → Calls Try.prog 69 #[x.waits.v, y.waits.v] w1 fun e w' => e = .returned (.bool (decide (x.waits.xs = y.waits.xs))) ∧ Turned [] w1 w') := Lib.hid fun w1 h => equal_ints (hw.stays (stays_int _) h) (hw'.stays (stays_int _) h)
  have H2 : Hid (∀ w1, Turned [] w w1 → Calls Try.prog 70 #[x.parts.v, y.parts.v, .func (.func 71) #[] #[]] w1 fun e w' => e = .returned (.bool (decide (x.parts.xs.map PartV.key = y.parts.xs.map PartV.key))) ∧ Turned [] w1 w') := Lib.hid fun w1 h => equalf_part (hp.stays stays_part h) (hp'.stays stays_part h)
  clear hw hw' hp hp'
  unfold SockV.val
  simp only [Sl.v] at *
  by_cases h0 : x.state = y.state
  · have b0 : (x.state == y.state) = true := by simp [h0]
    by_cases h1 : x.peer = y.peer
    · have b1 : (x.peer == y.peer) = true := by simp [h1]
      by_cases h2 : x.bound = y.bound
      · have b2 : (x.bound == y.bound) = true := by simp [h2]
        by_cases h3 : x.most = y.most
        · have b3 : (x.most == y.most) = true := by simp [h3]
          by_cases h4 : x.shutR = y.shutR
          · have b4 : (x.shutR == y.shutR) = true := by simp [h4]
            by_cases h5 : x.shutW = y.shutW
            · have b5 : (x.shutW == y.shutW) = true := by simp [h5]
              have HE := Lib.hid (show decide (x.key = y.key) = (decide (x.waits.xs = y.waits.xs) && decide (x.parts.xs.map PartV.key = y.parts.xs.map PartV.key)) by simp [SockV.key, h0, h1, h2, h3, h4, h5])
              clear h0 h1 h2 h3 h4 h5
              generalize hr1 : decide (x.waits.xs = y.waits.xs) = r1 at H1 HE
              generalize hr2 : decide (x.parts.xs.map PartV.key = y.parts.xs.map PartV.key) = r2 at H2 HE
              clear hr1 hr2
              cases r1
              · go_enter Try.func50, Try.ntmps50
                go_wp2_with (go_at_call 69; refine (H1.out _ (((Turned.refl [] w).alloc _).alloc _)).mono ?_; rintro e w1 ⟨rfl, ht1⟩; have HT1 := Lib.hid ((((Turned.refl [] w).alloc _).alloc _).trans ht1); clear ht1)
                go_ret
                exact ⟨by rw [HE.out]; rfl, HT1.out⟩
              · go_enter Try.func50, Try.ntmps50
                go_wp2_with (first
                  | (go_at_call 69; refine (H1.out _ (((Turned.refl [] w).alloc _).alloc _)).mono ?_; rintro e w1 ⟨rfl, ht1⟩; have HT1 := Lib.hid ((((Turned.refl [] w).alloc _).alloc _).trans ht1); have c8 := ht1.cell (first_box (i := 8) rfl) (by simp); have d8 := ht1.cell (second_box (i := 8) rfl) (by simp); clear ht1)
                  | (go_at_call 70; refine (H2.out _ HT1.out).mono ?_; rintro e w2 ⟨rfl, ht2⟩; have HT2 := Lib.hid (HT1.out.trans ht2); clear ht2))
                all_goals
                  go_ret
                  exact ⟨by rw [HE.out]; first | rfl | simp, HT2.out⟩
            · have b5 : (x.shutW == y.shutW) = false := by simp [h5]
              have HE := Lib.hid (show decide (x.key = y.key) = false by simp [SockV.key, h5])
              clear h5
              go_enter Try.func50, Try.ntmps50
              go_wp2
              go_ret
              exact ⟨by rw [HE.out]; rfl, ((Turned.refl _ _).alloc _).alloc _⟩
          · have b4 : (x.shutR == y.shutR) = false := by simp [h4]
            have HE := Lib.hid (show decide (x.key = y.key) = false by simp [SockV.key, h4])
            clear h4
            go_enter Try.func50, Try.ntmps50
            go_wp2
            go_ret
            exact ⟨by rw [HE.out]; rfl, ((Turned.refl _ _).alloc _).alloc _⟩
        · have b3 : (x.most == y.most) = false := by simp [h3]
          have HE := Lib.hid (show decide (x.key = y.key) = false by simp [SockV.key, h3])
          clear h3
          go_enter Try.func50, Try.ntmps50
          go_wp2
          go_ret
          exact ⟨by rw [HE.out]; rfl, ((Turned.refl _ _).alloc _).alloc _⟩
      · have b2 : (x.bound == y.bound) = false := by simp [h2]
        have HE := Lib.hid (show decide (x.key = y.key) = false by simp [SockV.key, h2])
        clear h2
        go_enter Try.func50, Try.ntmps50
        go_wp2
        go_ret
        exact ⟨by rw [HE.out]; rfl, ((Turned.refl _ _).alloc _).alloc _⟩
    · have b1 : (x.peer == y.peer) = false := by simp [h1]
      have HE := Lib.hid (show decide (x.key = y.key) = false by simp [SockV.key, h1])
      clear h1
      go_enter Try.func50, Try.ntmps50
      go_wp2
      go_ret
      exact ⟨by rw [HE.out]; rfl, ((Turned.refl _ _).alloc _).alloc _⟩
  · have b0 : (x.state == y.state) = false := by simp [h0]
    have HE := Lib.hid (show decide (x.key = y.key) = false by simp [SockV.key, h0])
    clear h0
    go_enter Try.func50, Try.ntmps50
    go_wp2
    go_ret
    exact ⟨by rw [HE.out]; rfl, ((Turned.refl _ _).alloc _).alloc _⟩

set_option maxHeartbeats 4000000 in
theorem closure_49 {w : World} {B1 B2 i k : Nat} {s t : Sl SockV} {x y : SockV} (hs : RSl 9 RSock w s) (ht : RSl 9 RSock w t) (hc1 : w.cell? ⟨B1, 5, none⟩ = some s.v) (hc2 : w.cell? ⟨B2, 5, none⟩ = some t.v)
    (hx : s.xs[i]? = some x) (hy : t.xs[k]? = some y) :
    Calls Try.prog 49 #[.int .i64 i, .int .i64 k, .pointer (some ⟨B1, 0, none⟩), .pointer (some ⟨B2, 0, none⟩)] w fun e w' => e = .returned (.bool (decide (x.key = y.key))) ∧ Turned [] w w' := by
  have hl := hs.lc
  have hcm := hs.cm
  have hi : i < s.len := by rw [← hs.n]; exact (List.getElem?_eq_some_iff.1 hx).1
  have hl' := ht.lc
  have hcm' := ht.cm
  have hk : k < t.len := by rw [← ht.n]; exact (List.getElem?_eq_some_iff.1 hy).1
  unfold maxLen at hcm hcm'
  obtain ⟨b, o, hab, e0, e1, e2, e3, e4, e5, e6, e7, e8, _, r1, r2⟩ := sock_cells (hs.at_ i x hx)
  obtain ⟨b', o', hab', f0, f1, f2, f3, f4, f5, f6, f7, f8, _, q1, q2⟩ := sock_cells (ht.at_ k y hy)
  simp only [Sl.v] at hc1 hc2 e5 e8 f5 f8
  rw [hab] at hc1
  rw [hab'] at hc2
  have hpr : ∀ n, Calls Try.prog 50 #[x.val, y.val] (w.drewN n) fun e w' => e = .returned (.bool (decide (x.key = y.key))) ∧ Turned [] (w.drewN n) w' := fun n =>
    have h := (Turned.refl [] w).drewN n
    sock_eq (r1.stays (stays_int _) h) (q1.stays (stays_int _) h) (r2.stays stays_part h) (q2.stays stays_part h)
  unfold SockV.val at hpr
  simp only [Sl.v] at hpr
  have HPR := Lib.hid hpr
  generalize decide (x.key = y.key) = r at HPR ⊢
  clear hs ht hx hy hpr r1 r2 q1 q2
  go_enter Try.func49, Try.ntmps49
  go_wp2
  go_region_with (go_at_call 50; refine (HPR.out 1).mono ?_; rintro e w' ⟨rfl, ht⟩)
  all_goals
    go_wp2
    go_ret
    exact ⟨rfl, ((Turned.refl [] w).drewN 1).trans ht⟩
end Go.Proofs.Yteaglbfodeineaa
