/-
  Whether two inodes are one.
-/
import Derived.Test.YteaglbfodeineaaEquals
namespace Go.Proofs.Yteaglbfodeineaa
open Go.RowKit

def InodeV.val (x : InodeV) : Value := .agg #[.int .i64 x.ino, .int .i64 x.kind, .int .i64 x.links, .int .i64 x.holds, .int .i64 x.parent, .string x.text, .int .i64 x.blocks, x.names.v, x.inos.v]
def inodeEq (x y : InodeV) : Bool := decide (x.kind = y.kind ∧ x.text = y.text ∧ x.names.xs = y.names.xs ∧ x.inos.xs = y.inos.xs)

theorem first_box {w : World} {cs cs' : Array Value} {e e' : TypeId} {z z' : Nat × Nat} {i : Nat} {v : Value} (hv : cs[i]? = some v) : ((w.alloc (.cells cs e z)).alloc (.cells cs' e' z')).cell? ⟨w.heap.size, i, none⟩ = some v :=
  ((Turned.refl [] (w.alloc (.cells cs e z))).alloc (.cells cs' e' z')).cell (by rw [World.cell?_alloc_mark]; exact hv) (by simp)
theorem second_box {w : World} {a : Obj} {cs' : Array Value} {e' : TypeId} {z' : Nat × Nat} {i : Nat} {v : Value} (hv : cs'[i]? = some v) : ((w.alloc a).alloc (.cells cs' e' z')).cell? ⟨w.heap.size + 1, i, none⟩ = some v := by
  have hs : (w.alloc a).heap.size = w.heap.size + 1 := by simp
  rw [← hs, World.cell?_alloc_mark]; exact hv

set_option maxHeartbeats 4000000 in
theorem inode_eq {w : World} {x y : InodeV} (hn : RSl 1 RStr w x.names) (hn' : RSl 1 RStr w y.names) (hi : RSl 1 (RInt .i64) w x.inos) (hi' : RSl 1 (RInt .i64) w y.inos) :
    Calls Try.prog 47 #[x.val, y.val] w fun e w' => e = .returned (.bool (inodeEq x y)) ∧ Turned [] w w' := by
  have H1 : Hid (∀ w1, Turned [] w w1 → Calls Try.prog 68 #[x.names.v, y.names.v] w1 fun e w' => e = .returned (.bool (decide (x.names.xs = y.names.xs))) ∧ Turned [] w1 w') := Lib.hid fun w1 h => equal_strs (hn.stays stays_str h) (hn'.stays stays_str h)
  have H2 : Hid (∀ w1, Turned [] w w1 → Calls Try.prog 69 #[x.inos.v, y.inos.v] w1 fun e w' => e = .returned (.bool (decide (x.inos.xs = y.inos.xs))) ∧ Turned [] w1 w') := Lib.hid fun w1 h => equal_ints (hi.stays (stays_int _) h) (hi'.stays (stays_int _) h)
  clear hn hn' hi hi'
  unfold InodeV.val
  simp only [Sl.v] at *
  by_cases h1 : x.kind = y.kind
  · have b1 : (x.kind == y.kind) = true := by simp [h1]
    by_cases h2 : x.text = y.text
    · have b2 : (x.text.toList == y.text.toList) = true := by simp [h2]
      have HE := Lib.hid (show inodeEq x y = (decide (x.names.xs = y.names.xs) && decide (x.inos.xs = y.inos.xs)) by simp [inodeEq, h1, h2])
      clear h1 h2
      generalize hr1 : decide (x.names.xs = y.names.xs) = r1 at H1 HE
      generalize hr2 : decide (x.inos.xs = y.inos.xs) = r2 at H2 HE
      clear hr1 hr2
      cases r1
      · go_enter Try.func47, Try.ntmps47
        go_wp2_with (go_at_call 68; refine (H1.out _ (((Turned.refl [] w).alloc _).alloc _)).mono ?_; rintro e w1 ⟨rfl, ht1⟩; have HT1 := Lib.hid ((((Turned.refl [] w).alloc _).alloc _).trans ht1); clear ht1)
        go_ret
        exact ⟨by rw [HE.out]; rfl, HT1.out⟩
      · go_enter Try.func47, Try.ntmps47
        go_wp2_with (first
          | (go_at_call 68; refine (H1.out _ (((Turned.refl [] w).alloc _).alloc _)).mono ?_; rintro e w1 ⟨rfl, ht1⟩; have HT1 := Lib.hid ((((Turned.refl [] w).alloc _).alloc _).trans ht1); have c8 := ht1.cell (first_box (i := 8) rfl) (by simp); have d8 := ht1.cell (second_box (i := 8) rfl) (by simp); clear ht1)
          | (go_at_call 69; refine (H2.out _ HT1.out).mono ?_; rintro e w2 ⟨rfl, ht2⟩; have HT2 := Lib.hid (HT1.out.trans ht2); clear ht2))
        all_goals
          go_ret
          exact ⟨by rw [HE.out]; first | rfl | simp, HT2.out⟩
    · have b2 : (x.text.toList == y.text.toList) = false := by simpa [bytes_eq] using h2
      have HE := Lib.hid (show inodeEq x y = false by simp [inodeEq, h2])
      clear h1 h2
      go_enter Try.func47, Try.ntmps47
      go_wp2
      go_ret
      exact ⟨by rw [HE.out]; rfl, ((Turned.refl _ _).alloc _).alloc _⟩
  · have b1 : (x.kind == y.kind) = false := by simp [h1]
    have HE := Lib.hid (show inodeEq x y = false by simp [inodeEq, h1])
    clear h1
    go_enter Try.func47, Try.ntmps47
    go_wp2
    go_ret
    exact ⟨by rw [HE.out]; rfl, ((Turned.refl _ _).alloc _).alloc _⟩
end Go.Proofs.Yteaglbfodeineaa
