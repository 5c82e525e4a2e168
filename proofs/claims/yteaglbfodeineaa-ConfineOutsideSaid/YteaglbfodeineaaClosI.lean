/-
  Whether two inodes are one: the closure of effects.
-/
import Derived.Test.YteaglbfodeineaaInodes
import Derived.Deep.RegionWith
namespace Go.Proofs.Yteaglbfodeineaa
open Go.RowKit

set_option maxHeartbeats 4000000 in
theorem closure_46 {w : World} {B1 B2 i k : Nat} {s t : Sl InodeV} {x y : InodeV} (hs : RSl 9 RInode w s) (ht : RSl 9 RInode w t) (hc1 : w.cell? ⟨B1, 6, none⟩ = some s.v) (hc2 : w.cell? ⟨B2, 6, none⟩ = some t.v)
    (hx : s.xs[i]? = some x) (hy : t.xs[k]? = some y) :
    Calls Try.prog 46 #[.int .i64 i, .int .i64 k, .pointer (some ⟨B1, 0, none⟩), .pointer (some ⟨B2, 0, none⟩)] w fun e w' => e = .returned (.bool (inodeEq x y)) ∧ Turned [] w w' := by
  have hl := hs.lc
  have hcm := hs.cm
  have hi : i < s.len := by rw [← hs.n]; exact (List.getElem?_eq_some_iff.1 hx).1
  have hl' := ht.lc
  have hcm' := ht.cm
  have hk : k < t.len := by rw [← ht.n]; exact (List.getElem?_eq_some_iff.1 hy).1
  unfold maxLen at hcm hcm'
  obtain ⟨b, o, hab, e0, e1, e2, e3, e4, e5, e6, e7, e8, _, r1, r2⟩ := inode_cells (hs.at_ i x hx)
  obtain ⟨b', o', hab', f0, f1, f2, f3, f4, f5, f6, f7, f8, _, q1, q2⟩ := inode_cells (ht.at_ k y hy)
  simp only [Sl.v] at hc1 hc2 e7 e8 f7 f8
  rw [hab] at hc1
  rw [hab'] at hc2
  have hpr : ∀ n, Calls Try.prog 47 #[x.val, y.val] (w.drewN n) fun e w' => e = .returned (.bool (inodeEq x y)) ∧ Turned [] (w.drewN n) w' := fun n =>
    have h := (Turned.refl [] w).drewN n
    inode_eq (r1.stays stays_str h) (q1.stays stays_str h) (r2.stays (stays_int _) h) (q2.stays (stays_int _) h)
  unfold InodeV.val at hpr
  simp only [Sl.v] at hpr
  have HPR := Lib.hid hpr
  generalize inodeEq x y = r at HPR ⊢
  clear hs ht hx hy hpr r1 r2 q1 q2
  go_enter Try.func46, Try.ntmps46
  go_wp2
  go_region_with (go_at_call 47; refine (HPR.out 1).mono ?_; rintro e w' ⟨rfl, ht⟩)
  all_goals
    go_wp2
    go_ret
    exact ⟨rfl, ((Turned.refl [] w).drewN 1).trans ht⟩
end Go.Proofs.Yteaglbfodeineaa
