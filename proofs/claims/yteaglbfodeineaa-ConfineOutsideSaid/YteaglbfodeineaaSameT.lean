/-
  Whether two passed descriptors, parts, sockets are one, by the references: lists of commands, of descriptors, of parts.
  Whether two lists of parts are one, by the reference.
  Whether two lists of sockets are one, by the reference.
  What has changed, as the reference gathers it: in plain words; where it stands; a region that draws its order, whose callees lay blocks of their own.
-/
import Derived.Test.YteaglbfodeineaaParts
import Derived.Deep.RegionHeld3
import Derived.Deep.DeepCutAuto
import Derived.Test.YteaglbfodeineaaIxa
import Derived.Test.YteaglbfodeineaaRefT
namespace Go.Proofs.Yteaglbfodeineaa
open Go.RowKit

set_option maxHeartbeats 4000000 in
theorem list_same {w : World} {a b : Bool} {s t : Sl Int} (hs : RSl 1 (RInt .i64) w s) (ht : RSl 1 (RInt .i64) w t) :
    Calls Try.prog 81 #[.agg #[.bool a, s.v], .agg #[.bool b, t.v]] w fun e w' => e = .returned (.bool (decide (a = b ∧ s.xs = t.xs))) ∧ Turned [] w w' := by
  have H2 : Hid (∀ w1, Turned [] w w1 → Calls Try.prog 35 #[s.v, t.v] w1 fun e w' => e = .returned (.bool (decide (s.xs = t.xs))) ∧ Turned [] w1 w') := Lib.hid fun w1 h => eq_nums (hs.stays (stays_int _) h) (ht.stays (stays_int _) h)
  clear hs ht
  simp only [Sl.v] at *
  by_cases h0 : a = b
  · have b0 : (a == b) = true := by simp [h0]
    have HE := Lib.hid (show decide (a = b ∧ s.xs = t.xs) = decide (s.xs = t.xs) by simp [h0])
    clear h0
    generalize decide (s.xs = t.xs) = r at H2 HE
    go_enter Try.func81, Try.ntmps81
    go_wp2_with (go_at_call 35; refine (H2.out _ (((Turned.refl [] w).alloc _).alloc _)).mono ?_; rintro e w2 ⟨rfl, ht2⟩; have HT2 := Lib.hid ((((Turned.refl [] w).alloc _).alloc _).trans ht2); clear ht2)
    all_goals
      go_ret
      exact ⟨by rw [HE.out]; first | rfl | simp, HT2.out⟩
  · have b0 : (a == b) = false := by simp [h0]
    have HE := Lib.hid (show decide (a = b ∧ s.xs = t.xs) = false by simp [h0])
    clear h0
    go_enter Try.func81, Try.ntmps81
    go_wp2
    go_ret
    exact ⟨by rw [HE.out]; rfl, ((Turned.refl _ _).alloc _).alloc _⟩

set_option maxRecDepth 100000 in
set_option maxHeartbeats 4000000 in
theorem given_same {w : World} {s t : Sl PassedV} (hs : RSl 5 RPassed w s) (ht : RSl 5 RPassed w t) :
    Calls Try.prog 72 #[s.v, t.v] w fun e w' => e = .returned (.bool (decide (s.xs.map PassedV.key = t.xs.map PassedV.key))) ∧ Turned [] w w' := by
  obtain ⟨a, n, c, xs⟩ := s
  obtain ⟨a', n', c', ys⟩ := t
  have hl := hs.lc
  have hc := hs.cm
  have hn := hs.n
  have HAT := Lib.hid hs.at_
  have hl' := ht.lc
  have hc' := ht.cm
  have hn' := ht.n
  have HAT' := Lib.hid ht.at_
  clear hs ht
  simp only at hl hc hn hl' hc' hn'
  unfold maxLen at hc hc'
  simp only [Sl.v]
  by_cases hnn : n = n'
  · subst hnn
    go_enter Try.func72, Try.ntmps72
    go_wp2
    go_loopw [5] (fun i wr => ∃ k : Nat, k ≤ n ∧ i = .int .i64 k ∧ Turned [] w wr ∧ ∀ j, j < k → (xs.map PassedV.key)[j]? = (ys.map PassedV.key)[j]?) (fun i _ => n - (intOf i).toNat)
    case atStart => exact ⟨0, by omega, rfl, Turned.refl _ _, fun j h => by omega⟩
    case round =>
      obtain ⟨k, hk, rfl, hT, hno⟩ := hrel
      have HNO := Lib.hid hno
      have HT := Lib.hid hT
      clear hno hT
      by_cases hlt : k < n
      · obtain ⟨x, hx⟩ : ∃ x, xs[k]? = some x := ⟨xs[k], by simp⟩
        obtain ⟨y, hy⟩ : ∃ y, ys[k]? = some y := ⟨ys[k], by simp⟩
        have HX := Lib.hid hx
        have HY := Lib.hid hy
        obtain ⟨b, o, hab, e0, e1, e2, e3, e4, -, r1⟩ := passed_cells ((HAT.out k x hx).stays stays_passed HT.out)
        obtain ⟨b', o', hab', f0, f1, f2, f3, f4, -, r2⟩ := passed_cells ((HAT'.out k y hy).stays stays_passed HT.out)
        have HR : Hid (∀ w1, Turned [] wr w1 → Calls Try.prog 81 #[.agg #[.bool x.all, x.l.v], .agg #[.bool y.all, y.l.v]] w1 fun e w' => e = .returned (.bool (decide (x.all = y.all ∧ x.l.xs = y.l.xs))) ∧ Turned [] w1 w') := Lib.hid fun w1 h => list_same (r1.stays (stays_int _) h) (r2.stays (stays_int _) h)
        simp only [Sl.v] at e3 f3 HR
        rw [hab, hab']
        have HKP : Hid (∀ w1, Turned [] wr w1 → w1.cell? ⟨b, o + k * 5, none⟩ = some (.int .i64 x.file) ∧ w1.cell? ⟨b, o + k * 5 + 1, none⟩ = some (.int .u32 x.rights) ∧ w1.cell? ⟨b, o + k * 5 + 2, none⟩ = some (.bool x.all) ∧ w1.cell? ⟨b, o + k * 5 + 3, none⟩ = some (.slice x.l.a x.l.len x.l.cap) ∧ w1.cell? ⟨b, o + k * 5 + 4, none⟩ = some (.int .i64 x.fcntls) ∧ w1.cell? ⟨b', o' + k * 5, none⟩ = some (.int .i64 y.file) ∧ w1.cell? ⟨b', o' + k * 5 + 1, none⟩ = some (.int .u32 y.rights) ∧ w1.cell? ⟨b', o' + k * 5 + 2, none⟩ = some (.bool y.all) ∧ w1.cell? ⟨b', o' + k * 5 + 3, none⟩ = some (.slice y.l.a y.l.len y.l.cap) ∧ w1.cell? ⟨b', o' + k * 5 + 4, none⟩ = some (.int .i64 y.fcntls)) := Lib.hid fun w1 h => ⟨h.cell e0 (by simp), h.cell e1 (by simp), h.cell e2 (by simp), h.cell e3 (by simp), h.cell e4 (by simp), h.cell f0 (by simp), h.cell f1 (by simp), h.cell f2 (by simp), h.cell f3 (by simp), h.cell f4 (by simp)⟩
        clear hx hy r1 r2 hab hab'
        by_cases h0 : x.file = y.file
        · have b0 : (x.file != y.file) = false := by simp [h0]
          by_cases h1 : x.rights = y.rights
          · have b1 : (x.rights != y.rights) = false := by simp [h1]
            by_cases h2 : x.fcntls = y.fcntls
            · have b2 : (x.fcntls != y.fcntls) = false := by simp [h2]
              by_cases h3 : x.all = y.all ∧ x.l.xs = y.l.xs
              · have HE := Lib.hid (show x.key = y.key by simp [PassedV.key, h0, h1, h2, h3])
                rw [show decide (x.all = y.all ∧ x.l.xs = y.l.xs) = true by simp [h3]] at HR
                clear h0 h1 h2 h3
                go_wp2
                go_region_held3 (fun w' => w'.cell? ⟨b, o + k * 5, none⟩ = some (.int .i64 x.file) ∧ w'.cell? ⟨b, o + k * 5 + 1, none⟩ = some (.int .u32 x.rights) ∧ w'.cell? ⟨b, o + k * 5 + 2, none⟩ = some (.bool x.all) ∧ w'.cell? ⟨b, o + k * 5 + 3, none⟩ = some (.slice x.l.a x.l.len x.l.cap) ∧ w'.cell? ⟨b, o + k * 5 + 4, none⟩ = some (.int .i64 x.fcntls) ∧ w'.cell? ⟨b', o' + k * 5, none⟩ = some (.int .i64 y.file) ∧ w'.cell? ⟨b', o' + k * 5 + 1, none⟩ = some (.int .u32 y.rights) ∧ w'.cell? ⟨b', o' + k * 5 + 2, none⟩ = some (.bool y.all) ∧ w'.cell? ⟨b', o' + k * 5 + 3, none⟩ = some (.slice y.l.a y.l.len y.l.cap) ∧ w'.cell? ⟨b', o' + k * 5 + 4, none⟩ = some (.int .i64 y.fcntls))
                  (first | exact HKP.out _ HT2.out | exact HKP.out _ (Turned.refl _ _).drew | exact HKP.out _ ((Turned.refl _ _).drewN 1))
                  ((go_at_call 81; refine (HR.out _ ((Turned.refl [] wr).drewN 1)).mono ?_; rintro e w2 ⟨rfl, ht2⟩; have HT2 := Lib.hid (((Turned.refl [] wr).drewN 1).trans ht2); clear ht2))
                all_goals
                  go_wp2
                  go_roundw
                  case rel => exact ⟨k + 1, by omega, by go_num, HT.out.trans HT2.out, eq_on HNO.out (by rw [List.getElem?_map, HX.out]; rfl) (by rw [List.getElem?_map, HY.out]; rfl) HE.out⟩
                  case measure => simp [intOf]; omega
              · have HE := Lib.hid (show x.key ≠ y.key by simp [PassedV.key]; intro _ _ _ h4 h5; exact h3 ⟨h4, h5⟩)
                rw [show decide (x.all = y.all ∧ x.l.xs = y.l.xs) = false by simp only [h3, decide_false]] at HR
                clear h0 h1 h2 h3
                go_wp2
                go_region_held3 (fun w' => w'.cell? ⟨b, o + k * 5, none⟩ = some (.int .i64 x.file) ∧ w'.cell? ⟨b, o + k * 5 + 1, none⟩ = some (.int .u32 x.rights) ∧ w'.cell? ⟨b, o + k * 5 + 2, none⟩ = some (.bool x.all) ∧ w'.cell? ⟨b, o + k * 5 + 3, none⟩ = some (.slice x.l.a x.l.len x.l.cap) ∧ w'.cell? ⟨b, o + k * 5 + 4, none⟩ = some (.int .i64 x.fcntls) ∧ w'.cell? ⟨b', o' + k * 5, none⟩ = some (.int .i64 y.file) ∧ w'.cell? ⟨b', o' + k * 5 + 1, none⟩ = some (.int .u32 y.rights) ∧ w'.cell? ⟨b', o' + k * 5 + 2, none⟩ = some (.bool y.all) ∧ w'.cell? ⟨b', o' + k * 5 + 3, none⟩ = some (.slice y.l.a y.l.len y.l.cap) ∧ w'.cell? ⟨b', o' + k * 5 + 4, none⟩ = some (.int .i64 y.fcntls))
                  (first | exact HKP.out _ HT2.out | exact HKP.out _ (Turned.refl _ _).drew | exact HKP.out _ ((Turned.refl _ _).drewN 1))
                  ((go_at_call 81; refine (HR.out _ ((Turned.refl [] wr).drewN 1)).mono ?_; rintro e w2 ⟨rfl, ht2⟩; have HT2 := Lib.hid (((Turned.refl [] wr).drewN 1).trans ht2); clear ht2))
                all_goals
                  go_wp2
                  go_ret
                  exact ⟨ret_b (by simp [map_ne HX.out HY.out HE.out]), HT.out.trans HT2.out⟩
            · have b2 : (x.fcntls != y.fcntls) = true := by simp [h2]
              have HE := Lib.hid (show x.key ≠ y.key by simp [PassedV.key, h2])
              clear h0 h1 h2
              go_wp2
              go_quiet (fail)
              go_wp2
              go_ret
              exact ⟨ret_b (by simp [map_ne HX.out HY.out HE.out]), HT.out.drewN _⟩
          · have b1 : (x.rights != y.rights) = true := by simp [h1]
            have HE := Lib.hid (show x.key ≠ y.key by simp [PassedV.key, h1])
            clear h0 h1
            go_wp2
            go_quiet (fail)
            go_wp2
            go_ret
            exact ⟨ret_b (by simp [map_ne HX.out HY.out HE.out]), HT.out.drewN _⟩
        · have b0 : (x.file != y.file) = true := by simp [h0]
          have HE := Lib.hid (show x.key ≠ y.key by simp [PassedV.key, h0])
          clear h0
          go_wp2
          go_quiet (fail)
          go_wp2
          go_ret
          exact ⟨ret_b (by simp [map_ne HX.out HY.out HE.out]), HT.out.drewN _⟩
      · have hk' : k = n := by omega
        go_wp2
        go_ret
        exact ⟨ret_b (by simp [eq_all HNO.out (by simp; omega) (by simp; omega)]), HT.out⟩
  · have HNN := Lib.hid hnn
    go_enter Try.func72, Try.ntmps72
    go_wp2
    go_ret
    exact ⟨ret_b (by have : xs.map PassedV.key ≠ ys.map PassedV.key := fun e => HNN.out (by have := congrArg List.length e; simp at this; omega); simp [this]), Turned.refl _ _⟩
end Go.Proofs.Yteaglbfodeineaa

namespace Go.Proofs.Yteaglbfodeineaa
open Go.RowKit

set_option maxRecDepth 100000 in
set_option maxHeartbeats 4000000 in
theorem parts_same {w : World} {s t : Sl PartV} (hs : RSl 2 RPart w s) (ht : RSl 2 RPart w t) :
    Calls Try.prog 53 #[s.v, t.v] w fun e w' => e = .returned (.bool (decide (s.xs.map PartV.key = t.xs.map PartV.key))) ∧ Turned [] w w' := by
  obtain ⟨a, n, c, xs⟩ := s
  obtain ⟨a', n', c', ys⟩ := t
  have hl := hs.lc
  have hc := hs.cm
  have hn := hs.n
  have HAT := Lib.hid hs.at_
  have hl' := ht.lc
  have hc' := ht.cm
  have hn' := ht.n
  have HAT' := Lib.hid ht.at_
  clear hs ht
  simp only at hl hc hn hl' hc' hn'
  unfold maxLen at hc hc'
  simp only [Sl.v]
  by_cases hnn : n = n'
  · subst hnn
    go_enter Try.func53, Try.ntmps53
    go_wp2
    go_loopw [5] (fun i wr => ∃ k : Nat, k ≤ n ∧ i = .int .i64 k ∧ Turned [] w wr ∧ ∀ j, j < k → (xs.map PartV.key)[j]? = (ys.map PartV.key)[j]?) (fun i _ => n - (intOf i).toNat)
    case atStart => exact ⟨0, by omega, rfl, Turned.refl _ _, fun j h => by omega⟩
    case round =>
      obtain ⟨k, hk, rfl, hT, hno⟩ := hrel
      have HNO := Lib.hid hno
      have HT := Lib.hid hT
      clear hno hT
      by_cases hlt : k < n
      · obtain ⟨x, hx⟩ : ∃ x, xs[k]? = some x := ⟨xs[k], by simp⟩
        obtain ⟨y, hy⟩ : ∃ y, ys[k]? = some y := ⟨ys[k], by simp⟩
        have HX := Lib.hid hx
        have HY := Lib.hid hy
        obtain ⟨b, o, hab, e0, e1, r0, r1⟩ := part_cells ((HAT.out k x hx).stays stays_part HT.out)
        obtain ⟨b', o', hab', f0, f1, q0, q1⟩ := part_cells ((HAT'.out k y hy).stays stays_part HT.out)
        have HR : Hid (∀ w1, Turned [] wr w1 → Calls Try.prog 72 #[x.l.v, y.l.v] w1 fun e w' => e = .returned (.bool (decide (x.l.xs.map PassedV.key = y.l.xs.map PassedV.key))) ∧ Turned [] w1 w') := Lib.hid fun w1 h => given_same (r1.stays stays_passed h) (q1.stays stays_passed h)
        have HCX : Hid (∀ w1, Turned [] wr w1 → (convert 26 9 x.b.v).run Try.prog w1 = .ok (.string (strOfNums x.b.xs)) w1) := Lib.hid fun w1 h => conv_bytes (r0.stays (stays_int _) h)
        have HCY : Hid (∀ w1, Turned [] wr w1 → (convert 26 9 y.b.v).run Try.prog w1 = .ok (.string (strOfNums y.b.xs)) w1) := Lib.hid fun w1 h => conv_bytes (q0.stays (stays_int _) h)
        simp only [Sl.v] at e0 e1 f0 f1 HR HCX HCY
        rw [hab, hab']
        have HK : Hid (x.key = y.key ↔ strOfNums x.b.xs = strOfNums y.b.xs ∧ x.l.xs.map PassedV.key = y.l.xs.map PassedV.key) := Lib.hid (by simp [PartV.key])
        clear hx hy r0 r1 q0 q1 hab hab'
        generalize strOfNums x.b.xs = s1 at HK HCX
        generalize strOfNums y.b.xs = s2 at HK HCY
        have HKP : Hid (∀ w1, Turned [] wr w1 → w1.cell? ⟨b, o + k * 2, none⟩ = some (.slice x.b.a x.b.len x.b.cap) ∧ w1.cell? ⟨b, o + k * 2 + 1, none⟩ = some (.slice x.l.a x.l.len x.l.cap) ∧ w1.cell? ⟨b', o' + k * 2, none⟩ = some (.slice y.b.a y.b.len y.b.cap) ∧ w1.cell? ⟨b', o' + k * 2 + 1, none⟩ = some (.slice y.l.a y.l.len y.l.cap) ∧ (convert 26 9 (.slice x.b.a x.b.len x.b.cap)).run Try.prog w1 = .ok (.string s1) w1 ∧ (convert 26 9 (.slice y.b.a y.b.len y.b.cap)).run Try.prog w1 = .ok (.string s2) w1) := Lib.hid fun w1 h => ⟨h.cell e0 (by simp), h.cell e1 (by simp), h.cell f0 (by simp), h.cell f1 (by simp), HCX.out _ h, HCY.out _ h⟩
        by_cases h0 : s1 = s2
        · have b0 : (s1.toList == s2.toList) = true := by simp [h0]
          have b1 : (s1.toList != s2.toList) = false := by simp [h0]
          by_cases h3 : x.l.xs.map PassedV.key = y.l.xs.map PassedV.key
          · have HE := Lib.hid (HK.out.2 ⟨h0, h3⟩)
            rw [show decide (x.l.xs.map PassedV.key = y.l.xs.map PassedV.key) = true by simp [h3]] at HR
            clear h0 h3 HCX HCY HK
            go_wp2
            go_region_held3 (fun w' => w'.cell? ⟨b, o + k * 2, none⟩ = some (.slice x.b.a x.b.len x.b.cap) ∧ w'.cell? ⟨b, o + k * 2 + 1, none⟩ = some (.slice x.l.a x.l.len x.l.cap) ∧ w'.cell? ⟨b', o' + k * 2, none⟩ = some (.slice y.b.a y.b.len y.b.cap) ∧ w'.cell? ⟨b', o' + k * 2 + 1, none⟩ = some (.slice y.l.a y.l.len y.l.cap) ∧ (convert 26 9 (.slice x.b.a x.b.len x.b.cap)).run Try.prog w' = .ok (.string s1) w' ∧ (convert 26 9 (.slice y.b.a y.b.len y.b.cap)).run Try.prog w' = .ok (.string s2) w')
              (first | exact HKP.out _ HT2.out | exact HKP.out _ (Turned.refl _ _).drew | exact HKP.out _ ((Turned.refl _ _).drewN 1))
              ((go_at_call 72; refine (HR.out _ ((Turned.refl [] wr).drewN 1)).mono ?_; rintro e w2 ⟨rfl, ht2⟩; have HT2 := Lib.hid (((Turned.refl [] wr).drewN 1).trans ht2); clear ht2))
            all_goals
              go_wp2
              go_roundw
              case rel => exact ⟨k + 1, by omega, by go_num, HT.out.trans HT2.out, eq_on HNO.out (by rw [List.getElem?_map, HX.out]; rfl) (by rw [List.getElem?_map, HY.out]; rfl) HE.out⟩
              case measure => simp [intOf]; omega
          · have HE := Lib.hid (show x.key ≠ y.key from fun e => h3 (HK.out.1 e).2)
            rw [show decide (x.l.xs.map PassedV.key = y.l.xs.map PassedV.key) = false by simp only [h3, decide_false]] at HR
            clear h0 h3 HCX HCY HK
            go_wp2
            go_region_held3 (fun w' => w'.cell? ⟨b, o + k * 2, none⟩ = some (.slice x.b.a x.b.len x.b.cap) ∧ w'.cell? ⟨b, o + k * 2 + 1, none⟩ = some (.slice x.l.a x.l.len x.l.cap) ∧ w'.cell? ⟨b', o' + k * 2, none⟩ = some (.slice y.b.a y.b.len y.b.cap) ∧ w'.cell? ⟨b', o' + k * 2 + 1, none⟩ = some (.slice y.l.a y.l.len y.l.cap) ∧ (convert 26 9 (.slice x.b.a x.b.len x.b.cap)).run Try.prog w' = .ok (.string s1) w' ∧ (convert 26 9 (.slice y.b.a y.b.len y.b.cap)).run Try.prog w' = .ok (.string s2) w')
              (first | exact HKP.out _ HT2.out | exact HKP.out _ (Turned.refl _ _).drew | exact HKP.out _ ((Turned.refl _ _).drewN 1))
              ((go_at_call 72; refine (HR.out _ ((Turned.refl [] wr).drewN 1)).mono ?_; rintro e w2 ⟨rfl, ht2⟩; have HT2 := Lib.hid (((Turned.refl [] wr).drewN 1).trans ht2); clear ht2))
            all_goals
              go_wp2
              go_ret
              exact ⟨ret_b (by simp [map_ne HX.out HY.out HE.out]), HT.out.trans HT2.out⟩
        · have b0 : (s1.toList == s2.toList) = false := by simpa [bytes_eq] using h0
          have b1 : (s1.toList != s2.toList) = true := by simp [bne, b0]
          have HE := Lib.hid (show x.key ≠ y.key from fun e => h0 (HK.out.1 e).1)
          have hcx : ∀ nq, (convert 26 9 (.slice x.b.a x.b.len x.b.cap)).run Try.prog (wr.drewN nq) = .ok (.string s1) (wr.drewN nq) := fun nq => HCX.out _ ((Turned.refl _ _).drewN nq)
          have hcy : ∀ nq, (convert 26 9 (.slice y.b.a y.b.len y.b.cap)).run Try.prog (wr.drewN nq) = .ok (.string s2) (wr.drewN nq) := fun nq => HCY.out _ ((Turned.refl _ _).drewN nq)
          clear h0 HCX HCY HK HKP
          go_wp2
          go_quiet (fail)
          go_wp2
          go_ret
          exact ⟨ret_b (by simp [map_ne HX.out HY.out HE.out]), HT.out.drewN _⟩
      · have hk' : k = n := by omega
        go_wp2
        go_ret
        exact ⟨ret_b (by simp [eq_all HNO.out (by simp; omega) (by simp; omega)]), HT.out⟩
  · have HNN := Lib.hid hnn
    go_enter Try.func53, Try.ntmps53
    go_wp2
    go_ret
    exact ⟨ret_b (by have : xs.map PartV.key ≠ ys.map PartV.key := fun e => HNN.out (by have := congrArg List.length e; simp at this; omega); simp [this]), Turned.refl _ _⟩
end Go.Proofs.Yteaglbfodeineaa

namespace Go.Proofs.Yteaglbfodeineaa
open Go.RowKit

/-- All that is told of a socket. -/
def SockV.full (x : SockV) : Int × SockKey := (x.id, x.key)

theorem two_first (w : World) (a b : Obj) : ((w.alloc a).alloc b).drew.heap[w.heap.size]? = some a := (((Turned.refl [] (w.alloc a)).alloc b).drew).keep (heap_alloc_new w a) (by simp)
theorem two_second (w : World) (a b : Obj) : ((w.alloc a).alloc b).drew.heap[w.heap.size + 1]? = some b := by
  have h := heap_alloc_new (w.alloc a) b
  rw [show (w.alloc a).heap.size = w.heap.size + 1 by simp] at h
  exact ((Turned.refl [] _).drew).keep h (by simp)

set_option maxRecDepth 100000 in
set_option maxHeartbeats 4000000 in
theorem socks_same {w : World} {s t : Sl SockV} (hs : RSl 9 RSock w s) (ht : RSl 9 RSock w t) :
    Calls Try.prog 39 #[s.v, t.v] w fun e w' => e = .returned (.bool (decide (s.xs.map SockV.full = t.xs.map SockV.full))) ∧ Turned [] w w' := by
  obtain ⟨a, n, c, xs⟩ := s
  obtain ⟨a', n', c', ys⟩ := t
  have hl := hs.lc
  have hc := hs.cm
  have hn := hs.n
  have HAT := Lib.hid hs.at_
  have hl' := ht.lc
  have hc' := ht.cm
  have hn' := ht.n
  have HAT' := Lib.hid ht.at_
  clear hs ht
  simp only at hl hc hn hl' hc' hn'
  unfold maxLen at hc hc'
  simp only [Sl.v]
  by_cases hnn : n = n'
  · subst hnn
    go_enter Try.func39, Try.ntmps39
    go_wp2
    go_loopw [5] (fun i wr => ∃ k : Nat, k ≤ n ∧ i = .int .i64 k ∧ Turned [] w wr ∧ ∀ j, j < k → (xs.map SockV.full)[j]? = (ys.map SockV.full)[j]?) (fun i _ => n - (intOf i).toNat)
    case atStart => exact ⟨0, by omega, rfl, Turned.refl _ _, fun j h => by omega⟩
    case round =>
      obtain ⟨k, hk, rfl, hT, hno⟩ := hrel
      have HNO := Lib.hid hno
      have HT := Lib.hid hT
      clear hno hT
      by_cases hlt : k < n
      · obtain ⟨x, hx⟩ : ∃ x, xs[k]? = some x := ⟨xs[k], by simp⟩
        obtain ⟨y, hy⟩ : ∃ y, ys[k]? = some y := ⟨ys[k], by simp⟩
        have HX := Lib.hid hx
        have HY := Lib.hid hy
        obtain ⟨b, o, hab, e0, e1, e2, e3, e4, e5, e6, e7, e8, -, r1, r2⟩ := sock_cells ((HAT.out k x hx).stays stays_sock HT.out)
        obtain ⟨b', o', hab', f0, f1, f2, f3, f4, f5, f6, f7, f8, -, q1, q2⟩ := sock_cells ((HAT'.out k y hy).stays stays_sock HT.out)
        have HR1 : Hid (∀ w1, Turned [] wr w1 → Calls Try.prog 35 #[x.waits.v, y.waits.v] w1 fun e w' => e = .returned (.bool (decide (x.waits.xs = y.waits.xs))) ∧ Turned [] w1 w') := Lib.hid fun w1 h => eq_nums (r1.stays (stays_int _) h) (q1.stays (stays_int _) h)
        have HR2 : Hid (∀ w1, Turned [] wr w1 → Calls Try.prog 53 #[x.parts.v, y.parts.v] w1 fun e w' => e = .returned (.bool (decide (x.parts.xs.map PartV.key = y.parts.xs.map PartV.key))) ∧ Turned [] w1 w') := Lib.hid fun w1 h => parts_same (r2.stays stays_part h) (q2.stays stays_part h)
        simp only [Sl.v] at e5 e8 f5 f8 HR1 HR2
        rw [hab, hab']
        clear hx hy r1 r2 q1 q2 hab hab'
        have HKP : Hid (∀ w1, Turned [] wr w1 → w1.cell? ⟨b, o + k * 9, none⟩ = some (.int .i64 x.id) ∧ w1.cell? ⟨b, o + k * 9 + 1, none⟩ = some (.int .i64 x.state) ∧ w1.cell? ⟨b, o + k * 9 + 2, none⟩ = some (.int .i64 x.peer) ∧ w1.cell? ⟨b, o + k * 9 + 3, none⟩ = some (.int .i64 x.bound) ∧ w1.cell? ⟨b, o + k * 9 + 4, none⟩ = some (.int .i64 x.most) ∧ w1.cell? ⟨b, o + k * 9 + 5, none⟩ = some (.slice x.waits.a x.waits.len x.waits.cap) ∧ w1.cell? ⟨b, o + k * 9 + 6, none⟩ = some (.bool x.shutR) ∧ w1.cell? ⟨b, o + k * 9 + 7, none⟩ = some (.bool x.shutW) ∧ w1.cell? ⟨b, o + k * 9 + 8, none⟩ = some (.slice x.parts.a x.parts.len x.parts.cap) ∧ w1.cell? ⟨b', o' + k * 9, none⟩ = some (.int .i64 y.id) ∧ w1.cell? ⟨b', o' + k * 9 + 1, none⟩ = some (.int .i64 y.state) ∧ w1.cell? ⟨b', o' + k * 9 + 2, none⟩ = some (.int .i64 y.peer) ∧ w1.cell? ⟨b', o' + k * 9 + 3, none⟩ = some (.int .i64 y.bound) ∧ w1.cell? ⟨b', o' + k * 9 + 4, none⟩ = some (.int .i64 y.most) ∧ w1.cell? ⟨b', o' + k * 9 + 5, none⟩ = some (.slice y.waits.a y.waits.len y.waits.cap) ∧ w1.cell? ⟨b', o' + k * 9 + 6, none⟩ = some (.bool y.shutR) ∧ w1.cell? ⟨b', o' + k * 9 + 7, none⟩ = some (.bool y.shutW) ∧ w1.cell? ⟨b', o' + k * 9 + 8, none⟩ = some (.slice y.parts.a y.parts.len y.parts.cap)) := Lib.hid fun w1 h => ⟨h.cell e0 (by simp), h.cell e1 (by simp), h.cell e2 (by simp), h.cell e3 (by simp), h.cell e4 (by simp), h.cell e5 (by simp), h.cell e6 (by simp), h.cell e7 (by simp), h.cell e8 (by simp), h.cell f0 (by simp), h.cell f1 (by simp), h.cell f2 (by simp), h.cell f3 (by simp), h.cell f4 (by simp), h.cell f5 (by simp), h.cell f6 (by simp), h.cell f7 (by simp), h.cell f8 (by simp)⟩
        go_wp2
        go_cut [6, 7] (fun v6 v7 wx => ∃ p q z z', v6 = .pointer (some ⟨p, 0, none⟩) ∧ v7 = .pointer (some ⟨q, 0, none⟩) ∧ wx.heap[p]? = some (.cells #[.int .i64 x.id, .int .i64 x.state, .int .i64 x.peer, .int .i64 x.bound, .int .i64 x.most, .slice x.waits.a x.waits.len x.waits.cap, .bool x.shutR, .bool x.shutW, .slice x.parts.a x.parts.len x.parts.cap] 77 z) ∧ wx.heap[q]? = some (.cells #[.int .i64 y.id, .int .i64 y.state, .int .i64 y.peer, .int .i64 y.bound, .int .i64 y.most, .slice y.waits.a y.waits.len y.waits.cap, .bool y.shutR, .bool y.shutW, .slice y.parts.a y.parts.len y.parts.cap] 77 z') ∧ Turned [] wr wx)
        case first =>
          go_region_held3 (fun w' => w'.cell? ⟨b, o + k * 9, none⟩ = some (.int .i64 x.id) ∧ w'.cell? ⟨b, o + k * 9 + 1, none⟩ = some (.int .i64 x.state) ∧ w'.cell? ⟨b, o + k * 9 + 2, none⟩ = some (.int .i64 x.peer) ∧ w'.cell? ⟨b, o + k * 9 + 3, none⟩ = some (.int .i64 x.bound) ∧ w'.cell? ⟨b, o + k * 9 + 4, none⟩ = some (.int .i64 x.most) ∧ w'.cell? ⟨b, o + k * 9 + 5, none⟩ = some (.slice x.waits.a x.waits.len x.waits.cap) ∧ w'.cell? ⟨b, o + k * 9 + 6, none⟩ = some (.bool x.shutR) ∧ w'.cell? ⟨b, o + k * 9 + 7, none⟩ = some (.bool x.shutW) ∧ w'.cell? ⟨b, o + k * 9 + 8, none⟩ = some (.slice x.parts.a x.parts.len x.parts.cap) ∧ w'.cell? ⟨b', o' + k * 9, none⟩ = some (.int .i64 y.id) ∧ w'.cell? ⟨b', o' + k * 9 + 1, none⟩ = some (.int .i64 y.state) ∧ w'.cell? ⟨b', o' + k * 9 + 2, none⟩ = some (.int .i64 y.peer) ∧ w'.cell? ⟨b', o' + k * 9 + 3, none⟩ = some (.int .i64 y.bound) ∧ w'.cell? ⟨b', o' + k * 9 + 4, none⟩ = some (.int .i64 y.most) ∧ w'.cell? ⟨b', o' + k * 9 + 5, none⟩ = some (.slice y.waits.a y.waits.len y.waits.cap) ∧ w'.cell? ⟨b', o' + k * 9 + 6, none⟩ = some (.bool y.shutR) ∧ w'.cell? ⟨b', o' + k * 9 + 7, none⟩ = some (.bool y.shutW) ∧ w'.cell? ⟨b', o' + k * 9 + 8, none⟩ = some (.slice y.parts.a y.parts.len y.parts.cap))
            ((refine HKP.out _ ?_; (repeat (first | exact Turned.refl _ _ | refine Turned.drew ?_ | refine Turned.drewN ?_ _ | refine Turned.alloc ?_ _))))
            (fail)
          · go_wp2_with fail
            go_meet
            exact ⟨_, _, _, _, rfl, rfl, two_first _ _ _, two_second _ _ _, (((Turned.refl _ _).alloc _).alloc _).drew⟩
          · go_wp2_with fail
            go_meet
            exact ⟨_, _, _, _, rfl, rfl, two_second _ _ _, two_first _ _ _, (((Turned.refl _ _).alloc _).alloc _).drew⟩
        case rest =>
        obtain ⟨p, q, z, z', rfl, rfl, hp, hq, hc2⟩ := hcut
        have HTC := Lib.hid hc2
        have p0 := block_cell (k := 0) hp rfl
        have p1 := block_cell (k := 1) hp rfl
        have p2 := block_cell (k := 2) hp rfl
        have p3 := block_cell (k := 3) hp rfl
        have p4 := block_cell (k := 4) hp rfl
        have p5 := block_cell (k := 5) hp rfl
        have p6 := block_cell (k := 6) hp rfl
        have p7 := block_cell (k := 7) hp rfl
        have p8 := block_cell (k := 8) hp rfl
        have q0 := block_cell (k := 0) hq rfl
        have q1 := block_cell (k := 1) hq rfl
        have q2 := block_cell (k := 2) hq rfl
        have q3 := block_cell (k := 3) hq rfl
        have q4 := block_cell (k := 4) hq rfl
        have q5 := block_cell (k := 5) hq rfl
        have q6 := block_cell (k := 6) hq rfl
        have q7 := block_cell (k := 7) hq rfl
        have q8 := block_cell (k := 8) hq rfl
        have HP8 := Lib.hid p8
        have HQ8 := Lib.hid q8
        clear hp hq hc2 HKP e0 e1 e2 e3 e4 e5 e6 e7 e8 f0 f1 f2 f3 f4 f5 f6 f7 f8
        by_cases h0 : x.id = y.id
        · have b0 : (x.id != y.id) = false := by simp [h0]
          by_cases h1 : x.state = y.state
          · have b1 : (x.state != y.state) = false := by simp [h1]
            by_cases h2 : x.peer = y.peer
            · have b2 : (x.peer != y.peer) = false := by simp [h2]
              by_cases h3 : x.bound = y.bound
              · have b3 : (x.bound != y.bound) = false := by simp [h3]
                by_cases h4 : x.most = y.most
                · have b4 : (x.most != y.most) = false := by simp [h4]
                  by_cases h5 : x.shutR = y.shutR
                  · skip
                    by_cases h6 : x.shutW = y.shutW
                    · skip
                      have HE := Lib.hid (show x.full = y.full ↔ x.waits.xs = y.waits.xs ∧ x.parts.xs.map PartV.key = y.parts.xs.map PartV.key by simp [SockV.full, SockV.key, h0, h1, h2, h3, h4, h5, h6])
                      clear h0 h1 h2 h3 h4
                      by_cases hw : x.waits.xs = y.waits.xs
                      · rw [show decide (x.waits.xs = y.waits.xs) = true by simp [hw]] at HR1
                        by_cases hp2 : x.parts.xs.map PartV.key = y.parts.xs.map PartV.key
                        · rw [show decide (x.parts.xs.map PartV.key = y.parts.xs.map PartV.key) = true by simp [hp2]] at HR2
                          have HF := Lib.hid (HE.out.2 ⟨hw, hp2⟩)
                          clear hw hp2 HE
                          go_wp2_with (first
                            | (go_at_call 35; refine (HR1.out _ HTC.out).mono ?_; rintro e w1 ⟨rfl, ht1⟩; have HT1 := Lib.hid (HTC.out.trans ht1); have p8 := ht1.cell HP8.out (by simp); have q8 := ht1.cell HQ8.out (by simp); clear ht1)
                            | (go_at_call 53; refine (HR2.out _ HT1.out).mono ?_; rintro e w2 ⟨rfl, ht2⟩; have HT2 := Lib.hid (HT1.out.trans ht2); clear ht2))
                          go_roundw
                          case rel => exact ⟨k + 1, by omega, by go_num, HT.out.trans HT2.out, eq_on HNO.out (by rw [List.getElem?_map, HX.out]; rfl) (by rw [List.getElem?_map, HY.out]; rfl) HF.out⟩
                          case measure => simp [intOf]; omega
                        · rw [show decide (x.parts.xs.map PartV.key = y.parts.xs.map PartV.key) = false by simp only [hp2, decide_false]] at HR2
                          have HF := Lib.hid (show x.full ≠ y.full from fun e => hp2 (HE.out.1 e).2)
                          clear hw hp2 HE
                          go_wp2_with (first
                            | (go_at_call 35; refine (HR1.out _ HTC.out).mono ?_; rintro e w1 ⟨rfl, ht1⟩; have HT1 := Lib.hid (HTC.out.trans ht1); have p8 := ht1.cell HP8.out (by simp); have q8 := ht1.cell HQ8.out (by simp); clear ht1)
                            | (go_at_call 53; refine (HR2.out _ HT1.out).mono ?_; rintro e w2 ⟨rfl, ht2⟩; have HT2 := Lib.hid (HT1.out.trans ht2); clear ht2))
                          go_ret
                          exact ⟨ret_b (by simp [map_ne HX.out HY.out HF.out]), HT.out.trans HT2.out⟩
                      · rw [show decide (x.waits.xs = y.waits.xs) = false by simp only [hw, decide_false]] at HR1
                        have HF := Lib.hid (show x.full ≠ y.full from fun e => hw (HE.out.1 e).1)
                        clear hw HE
                        go_wp2_with (go_at_call 35; refine (HR1.out _ HTC.out).mono ?_; rintro e w1 ⟨rfl, ht1⟩; have HT1 := Lib.hid (HTC.out.trans ht1); clear ht1)
                        go_ret
                        exact ⟨ret_b (by simp [map_ne HX.out HY.out HF.out]), HT.out.trans HT1.out⟩
                    · skip
                      have HF := Lib.hid (show x.full ≠ y.full by simp [SockV.full, SockV.key, h6])
                      clear h0 h1 h2 h3 h4
                      go_wp2
                      go_ret
                      exact ⟨ret_b (by simp [map_ne HX.out HY.out HF.out]), HT.out.trans HTC.out⟩
                  · skip
                    have HF := Lib.hid (show x.full ≠ y.full by simp [SockV.full, SockV.key, h5])
                    clear h0 h1 h2 h3 h4
                    go_wp2
                    go_ret
                    exact ⟨ret_b (by simp [map_ne HX.out HY.out HF.out]), HT.out.trans HTC.out⟩
                · have b4 : (x.most != y.most) = true := by simp [h4]
                  have HF := Lib.hid (show x.full ≠ y.full by simp [SockV.full, SockV.key, h4])
                  clear h0 h1 h2 h3 h4
                  go_wp2
                  go_ret
                  exact ⟨ret_b (by simp [map_ne HX.out HY.out HF.out]), HT.out.trans HTC.out⟩
              · have b3 : (x.bound != y.bound) = true := by simp [h3]
                have HF := Lib.hid (show x.full ≠ y.full by simp [SockV.full, SockV.key, h3])
                clear h0 h1 h2 h3
                go_wp2
                go_ret
                exact ⟨ret_b (by simp [map_ne HX.out HY.out HF.out]), HT.out.trans HTC.out⟩
            · have b2 : (x.peer != y.peer) = true := by simp [h2]
              have HF := Lib.hid (show x.full ≠ y.full by simp [SockV.full, SockV.key, h2])
              clear h0 h1 h2
              go_wp2
              go_ret
              exact ⟨ret_b (by simp [map_ne HX.out HY.out HF.out]), HT.out.trans HTC.out⟩
          · have b1 : (x.state != y.state) = true := by simp [h1]
            have HF := Lib.hid (show x.full ≠ y.full by simp [SockV.full, SockV.key, h1])
            clear h0 h1
            go_wp2
            go_ret
            exact ⟨ret_b (by simp [map_ne HX.out HY.out HF.out]), HT.out.trans HTC.out⟩
        · have b0 : (x.id != y.id) = true := by simp [h0]
          have HF := Lib.hid (show x.full ≠ y.full by simp [SockV.full, SockV.key, h0])
          clear h0
          go_wp2
          go_ret
          exact ⟨ret_b (by simp [map_ne HX.out HY.out HF.out]), HT.out.trans HTC.out⟩
      · have hk' : k = n := by omega
        go_wp2
        go_ret
        exact ⟨ret_b (by simp [eq_all HNO.out (by simp; omega) (by simp; omega)]), HT.out⟩
  · have HNN := Lib.hid hnn
    go_enter Try.func39, Try.ntmps39
    go_wp2
    go_ret
    exact ⟨ret_b (by have : xs.map SockV.full ≠ ys.map SockV.full := fun e => HNN.out (by have := congrArg List.length e; simp at this; omega); simp [this]), Turned.refl _ _⟩
end Go.Proofs.Yteaglbfodeineaa

namespace Go.Proofs.Yteaglbfodeineaa
open Go.RowKit

/-- A world that is W but for new blocks. -/
structure TBy (W : World) where
  w : World
  t : Turned [] W w
instance (W : World) : Inhabited (TBy W) := ⟨⟨W, Turned.refl _ _⟩⟩

/-- A region that draws its order, whose operations only read, and whose callees read and lay blocks of their own: walked once, in the order of the text. -/
theorem wp_region_turned {P : Program} {id : Nat} {Q : Exit → Act → World → Prop} {a : Act} {w : World} {l : List Oper} (hm : P.follows .mixedOrders = true) (hB : Region.lexB .any l.toArray = true)
    (h : wpQuiet P l.toArray (fun w' => ∃ p : TBy w, w' = p.w) (fun a' => ∀ w', (∃ p : TBy w, w' = p.w) → Q .normal a' w') l a) : (Code.region id l.toArray true).wp P Q a w :=
  wp_region_quiet (C := fun w' => ∃ p : TBy w, w' = p.w) hm hB ⟨⟨w.drew, (Turned.refl _ _).drew⟩, rfl⟩ (by simpa using h)

theorem Calls.tby {P : Program} {f : FuncId} {args : Array Value} {W : World} {p : TBy W} {v : Value}
    (h : Calls P f args p.w fun e w' => e = .returned v ∧ Turned [] p.w w') : Calls P f args p.w fun e w'' => e = .returned v ∧ ∃ q : TBy W, w'' = q.w :=
  h.mono fun _ w'' ⟨he, ht⟩ => ⟨he, ⟨w'', p.t.trans ht⟩, rfl⟩

/-- The thing with the number id stands first among the first k, and is gone, or another. -/
def ChgK (ids ids' : List Int) (same : Nat → Nat → Bool) (k : Nat) (id : Int) : Prop := ∃ i, i < k ∧ ixOf ids id = some i ∧ ∀ j, ixOf ids' id = some j → same i j = false

section
variable {ids ids' : List Int} {same : Nat → Nat → Bool} {k : Nat} {id kind : Int} {A : Ob → Prop}

theorem chg_none (o : Ob) : (A o ∨ o.1 = kind ∧ ChgK ids ids' same 0 o.2) ↔ A o := by
  simp [ChgK]

theorem chg_put (hi : ixOf ids id = some k) (hc : ∀ j, ixOf ids' id = some j → same k j = false) (o : Ob) :
    (A o ∨ o.1 = kind ∧ ChgK ids ids' same (k + 1) o.2) ↔ (A o ∨ o.1 = kind ∧ ChgK ids ids' same k o.2) ∨ o = (kind, id) := by
  constructor
  · rintro (h | ⟨h1, i, hik, hii, hj⟩)
    · exact .inl (.inl h)
    · by_cases e : i = k
      · subst e
        have h2 := (ixOf_some.1 hi).1
        rw [(ixOf_some.1 hii).1] at h2
        simp at h2
        exact .inr (Prod.ext h1 h2)
      · exact .inl (.inr ⟨h1, i, by omega, hii, hj⟩)
  · rintro ((h | ⟨h1, i, hik, hii, hj⟩) | h)
    · exact .inl h
    · exact .inr ⟨h1, i, by omega, hii, hj⟩
    · subst h; exact .inr ⟨rfl, k, Nat.lt_succ_self _, hi, hc⟩

theorem chg_skip (hk : ids[k]? = some id) (hn : ¬ (ixOf ids id = some k ∧ ∀ j, ixOf ids' id = some j → same k j = false)) (o : Ob) :
    (A o ∨ o.1 = kind ∧ ChgK ids ids' same (k + 1) o.2) ↔ (A o ∨ o.1 = kind ∧ ChgK ids ids' same k o.2) := by
  refine or_congr_right (and_congr_right fun _ => ⟨?_, fun ⟨i, hik, h⟩ => ⟨i, by omega, h⟩⟩)
  rintro ⟨i, hik, hii, hj⟩
  by_cases e : i = k
  · subst e
    have h2 := (ixOf_some.1 hii).1
    rw [hk] at h2
    simp at h2
    rw [← h2] at hii hj
    exact absurd ⟨hii, hj⟩ hn
  · exact ⟨i, by omega, hii, hj⟩

theorem chg_all {n : Nat} (hn : ids.length = n) (o : Ob) : (A o ∨ o.1 = kind ∧ ChgK ids ids' same n o.2) ↔ (A o ∨ o.1 = kind ∧ Chg ids ids' same o.2) := by
  refine or_congr_right (and_congr_right fun _ => ⟨fun ⟨i, _, h⟩ => ⟨i, h⟩, fun ⟨i, hi, h⟩ => ⟨i, ?_, hi, h⟩⟩)
  rw [← hn]
  exact (List.getElem?_eq_some_iff.1 (ixOf_some.1 hi).1).1

theorem ix_of (hk : ids[k]? = some id) : ∃ i, ixOf ids id = some i := by
  cases h : ixOf ids id with
  | some i => exact ⟨i, rfl⟩
  | none => exact absurd (List.mem_of_getElem? hk) (ixOf_none.1 h)
end

/-- What has been gathered behind each of the four loops. -/
def Eff1 (D E : DumpV) (o : Ob) : Prop := False ∨ o.1 = 1 ∧ Chg D.inodeIds E.inodeIds (sameIno D E) o.2
def Eff2 (D E : DumpV) (o : Ob) : Prop := Eff1 D E o ∨ o.1 = 5 ∧ Chg D.pipeIds E.pipeIds (samePipe D E) o.2
def Eff3 (D E : DumpV) (o : Ob) : Prop := Eff2 D E o ∨ o.1 = 6 ∧ Chg D.sockIds E.sockIds (sameSock D E) o.2
def Eff4 (D E : DumpV) (o : Ob) : Prop := Eff3 D E o ∨ o.1 = 7 ∧ Chg D.procIds E.procIds (sameProc D E) o.2
theorem eff4_iff {D E : DumpV} {o : Ob} : Eff4 D E o ↔ EffT D E o := by
  simp only [Eff4, Eff3, Eff2, Eff1, EffT, or_assoc, false_or]

/-- One of a list, as a list of its own. -/
theorem RSl.one {α : Type} {size : Nat} {R : World → List Value → α → Prop} {w : World} {s : Sl α} {b o k : Nat} {x : α} (h : RSl size R w s) (ha : s.a = some ⟨b, o, none⟩) (hx : s.xs[k]? = some x) :
    RSl size R w ⟨some ⟨b, o + k * size, none⟩, 1, s.cap - k, [x]⟩ := by
  have hl : k < s.len := by rw [← h.n]; exact (List.getElem?_eq_some_iff.1 hx).1
  have h1 := h.lc
  have h2 := h.cm
  refine ⟨by show 1 ≤ s.cap - k; omega, by show s.cap - k ≤ maxLen; omega, fun e => by simp at e, rfl, fun i y hy => ?_⟩
  have hi : i = 0 := by have := (List.getElem?_eq_some_iff.1 hy).1; simp only [List.length_singleton] at this; omega
  subst hi
  simp at hy; subst hy
  obtain ⟨b', o', cs, h3, h4, h5, h6⟩ := h.at_ k x hx
  rw [ha] at h3
  simp at h3
  obtain ⟨rfl, rfl⟩ := h3
  exact ⟨b, o + k * size, cs, rfl, h4, fun j u hj => by have := h5 j u hj; rwa [Nat.zero_mul, Nat.add_zero], h6⟩

/-- Where the reference's Effects stands: the list t has what P says. -/
structure EAt (w wr : World) (D E : DumpV) (m : Nat) (t : Sl Ob) (P : Ob → Prop) : Prop where
  box1 : wr.heap[w.heap.size]? = some (.cells D.cells.toArray 48 (0, 0))
  box2 : wr.heap[w.heap.size + 1]? = some (.cells E.cells.toArray 48 (0, 0))
  tw : Turned [] w wr
  ord : Ord wr t
  len : t.len ≤ m
  mem : ∀ x, x ∈ t.xs ↔ P x

theorem EAt.keep {w wr wr' : World} {D E : DumpV} {m : Nat} {t : Sl Ob} {P : Ob → Prop} (h : EAt w wr D E m t P) (ht : Turned [] wr wr') : EAt w wr' D E m t P :=
  ⟨ht.keep h.box1 (by simp), ht.keep h.box2 (by simp), h.tw.trans ht, h.ord.stays ht, h.len, h.mem⟩

theorem EAt.iff {w wr : World} {D E : DumpV} {m m' : Nat} {t : Sl Ob} {P P' : Ob → Prop} (h : EAt w wr D E m t P) (hm : m ≤ m') (hP : ∀ o, P' o ↔ P o) : EAt w wr D E m' t P' :=
  ⟨h.box1, h.box2, h.tw, h.ord, Nat.le_trans h.len hm, fun x => by rw [h.mem x, hP x]⟩

theorem EAt.put {w wr : World} {D E : DumpV} {m : Nat} {t : Sl Ob} {P : Ob → Prop} (h : EAt w wr D E m t P) (hm : m ≤ 100) {kind id : Int} (hk : I64 kind) (hi : I64 id) :
    Calls Try.prog 36 #[.slice t.a t.len t.cap, .int .i64 kind, .int .i64 id] wr fun e w' => ∃ t', e = .returned (.slice t'.a t'.len t'.cap) ∧ EAt w w' D E (m + 1) t' (fun x => P x ∨ x = (kind, id)) ∧ Turned [] wr w' :=
  (put_any h.ord hk hi (by have := h.len; omega)).mono (by
    rintro e w' ⟨t', rfl, ho, hl, ht, -, hm'⟩
    exact ⟨t', rfl, ⟨ht.keep h.box1 (by simp), ht.keep h.box2 (by simp), h.tw.trans ht, ho, by have := h.len; omega, fun x => by rw [hm' x, h.mem x]⟩, ht⟩)

theorem EAt.start {w : World} {D E : DumpV} {c : Array Value} {t : TypeId} {z : Nat × Nat} : EAt w (((w.alloc (.cells D.cells.toArray 48 (0, 0))).alloc (.cells E.cells.toArray 48 (0, 0))).alloc (.cells c t z)) D E 0 ⟨some ⟨w.heap.size + 1 + 1, 0, none⟩, 0, 0, []⟩ (fun _ => False) := by
  have h1 : ((w.alloc (.cells D.cells.toArray 48 (0, 0))).alloc (.cells E.cells.toArray 48 (0, 0))).heap[w.heap.size]? = some (.cells D.cells.toArray 48 (0, 0)) := ((Turned.refl [] _).alloc _).keep (heap_alloc_new w _) (by simp)
  have h2 : ((w.alloc (.cells D.cells.toArray 48 (0, 0))).alloc (.cells E.cells.toArray 48 (0, 0))).heap[w.heap.size + 1]? = some (.cells E.cells.toArray 48 (0, 0)) := heap_alloc_second w _ _
  exact ⟨((Turned.refl [] _).alloc _).keep h1 (by simp), ((Turned.refl [] _).alloc _).keep h2 (by simp), (((Turned.refl _ _).alloc _).alloc _).alloc _,
    ⟨⟨Nat.le_refl _, Nat.zero_le _, fun e => by simp at e, rfl, fun i y hy => by simp at hy⟩, List.Pairwise.nil⟩, Nat.le_refl _, fun x => by simp⟩
end Go.Proofs.Yteaglbfodeineaa
