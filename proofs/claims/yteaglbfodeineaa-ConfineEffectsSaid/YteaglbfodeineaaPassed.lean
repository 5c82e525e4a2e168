/-
  Whether two passed descriptors are one, and whether two lists of them are.
-/
import Derived.Test.YteaglbfodeineaaInodes
namespace Go.Proofs.Yteaglbfodeineaa
open Go.RowKit

def PassedV.val (x : PassedV) : Value := .agg #[.int .i64 x.file, .int .u32 x.rights, .bool x.all, x.l.v, .int .i64 x.fcntls]
/-- What is told of a passed descriptor. -/
def PassedV.key (x : PassedV) : Int × Int × Int × Bool × List Int := (x.file, x.rights, x.fcntls, x.all, x.l.xs)

set_option maxHeartbeats 4000000 in
theorem passed_eq {w : World} {x y : PassedV} (hi : RSl 1 (RInt .i64) w x.l) (hi' : RSl 1 (RInt .i64) w y.l) :
    Calls Try.prog 80 #[x.val, y.val] w fun e w' => e = .returned (.bool (decide (x.key = y.key))) ∧ Turned [] w w' := by
  have H2 : Hid (∀ w1, Turned [] w w1 → Calls Try.prog 69 #[x.l.v, y.l.v] w1 fun e w' => e = .returned (.bool (decide (x.l.xs = y.l.xs))) ∧ Turned [] w1 w') := Lib.hid fun w1 h => equal_ints (hi.stays (stays_int _) h) (hi'.stays (stays_int _) h)
  clear hi hi'
  unfold PassedV.val
  simp only [Sl.v] at *
  by_cases h0 : x.file = y.file
  · have b0 : (x.file == y.file) = true := by simp [h0]
    by_cases h1 : x.rights = y.rights
    · have b1 : (x.rights == y.rights) = true := by simp [h1]
      by_cases h2 : x.fcntls = y.fcntls
      · have b2 : (x.fcntls == y.fcntls) = true := by simp [h2]
        by_cases h3 : x.all = y.all
        · have b3 : (x.all == y.all) = true := by simp [h3]
          have HE := Lib.hid (show decide (x.key = y.key) = decide (x.l.xs = y.l.xs) by simp [PassedV.key, h0, h1, h2, h3])
          clear h0 h1 h2 h3
          generalize decide (x.l.xs = y.l.xs) = r at H2 HE
          go_enter Try.func80, Try.ntmps80
          go_wp2_with (go_at_call 69; refine (H2.out _ (((Turned.refl [] w).alloc _).alloc _)).mono ?_; rintro e w2 ⟨rfl, ht2⟩; have HT2 := Lib.hid ((((Turned.refl [] w).alloc _).alloc _).trans ht2); clear ht2)
          all_goals
            go_ret
            exact ⟨by rw [HE.out]; first | rfl | simp, HT2.out⟩
        · have b3 : (x.all == y.all) = false := by simp [h3]
          have HE := Lib.hid (show decide (x.key = y.key) = false by simp [PassedV.key, h3])
          clear h3
          go_enter Try.func80, Try.ntmps80
          go_wp2
          go_ret
          exact ⟨by rw [HE.out]; rfl, ((Turned.refl _ _).alloc _).alloc _⟩
      · have b2 : (x.fcntls == y.fcntls) = false := by simp [h2]
        have HE := Lib.hid (show decide (x.key = y.key) = false by simp [PassedV.key, h2])
        clear h2
        go_enter Try.func80, Try.ntmps80
        go_wp2
        go_ret
        exact ⟨by rw [HE.out]; rfl, ((Turned.refl _ _).alloc _).alloc _⟩
    · have b1 : (x.rights == y.rights) = false := by simp [h1]
      have HE := Lib.hid (show decide (x.key = y.key) = false by simp [PassedV.key, h1])
      clear h1
      go_enter Try.func80, Try.ntmps80
      go_wp2
      go_ret
      exact ⟨by rw [HE.out]; rfl, ((Turned.refl _ _).alloc _).alloc _⟩
  · have b0 : (x.file == y.file) = false := by simp [h0]
    have HE := Lib.hid (show decide (x.key = y.key) = false by simp [PassedV.key, h0])
    clear h0
    go_enter Try.func80, Try.ntmps80
    go_wp2
    go_ret
    exact ⟨by rw [HE.out]; rfl, ((Turned.refl _ _).alloc _).alloc _⟩
end Go.Proofs.Yteaglbfodeineaa
