/-
  Things in order: what compares two of them; what strikes those that stand twice in a row (of lists in which none does).
-/
import Derived.Test.YteaglbfodeineaaEquals
namespace Go.Proofs.Yteaglbfodeineaa
open Go.RowKit

def cmpI (a b : Int) : Int := if a < b then -1 else if b < a then 1 else 0
/-- How two things stand: by kind, then by number. -/
def cmpO (x y : Ob) : Int := if cmpI x.1 y.1 ≠ 0 then cmpI x.1 y.1 else cmpI x.2 y.2

theorem compare_int {w : World} (a b : Int) : Calls Try.prog 59 #[.int .i64 a, .int .i64 b] w fun e w' => e = .returned (.int .i64 (cmpI a b)) ∧ w' = w := by
  have ha : (a != a) = false := by simp
  have hb : (b != b) = false := by simp
  have H : Hid (a < b → cmpI a b = -1) := Lib.hid fun h => by simp [cmpI, h]
  have H1 : Hid (b < a → cmpI a b = 1) := Lib.hid fun h => by simp [cmpI, h]; omega
  have H2 : Hid (¬ a < b → ¬ b < a → cmpI a b = 0) := Lib.hid fun h h' => by simp [cmpI, h, h']
  by_cases h1 : a < b
  · go_enter Try.func59, Try.ntmps59
    go_wp2
    go_ret
    exact ⟨by rw [H.out h1]; rfl, rfl⟩
  · by_cases h2 : b < a
    · go_enter Try.func59, Try.ntmps59
      go_wp2
      go_ret
      exact ⟨by rw [H1.out h2]; rfl, rfl⟩
    · go_enter Try.func59, Try.ntmps59
      go_wp2
      go_ret
      exact ⟨by rw [H2.out (by omega) (by omega)]; rfl, rfl⟩

set_option maxHeartbeats 1000000 in
theorem compact_same {w : World} {s : Sl Ob} (hs : RSl 2 RObj w s) (hne : ∀ i x y, s.xs[i]? = some x → s.xs[i + 1]? = some y → x ≠ y) :
    Calls Try.prog 60 #[s.v] w fun e w' => e = .returned s.v ∧ Turned [] w w' := by
  obtain ⟨a, n, c, xs⟩ := s
  have hl := hs.lc
  have hc := hs.cm
  have hn := hs.n
  have HAT := Lib.hid hs.at_
  have HNE := Lib.hid hne
  clear hs hne
  simp only at hl hc hn
  unfold maxLen at hc
  simp only [Sl.v]
  by_cases h2 : n < 2
  · go_enter Try.func60, Try.ntmps60
    go_wp2
    go_ret
    exact ⟨rfl, Turned.refl _ _⟩
  · go_enter Try.func60, Try.ntmps60
    go_wp2
    go_loopw [3] (fun i wr => ∃ k : Nat, 1 ≤ k ∧ k ≤ n ∧ i = .int .i64 k ∧ Turned [] w wr) (fun i _ => n - (intOf i).toNat)
    case atStart => exact ⟨1, by omega, by omega, rfl, Turned.refl _ _⟩
    case round =>
      obtain ⟨k, hk1, hk, rfl, hT⟩ := hrel
      have HT := Lib.hid hT
      clear hT
      by_cases hlt : k < n
      · obtain ⟨j, rfl⟩ : ∃ j, k = j + 1 := ⟨k - 1, by omega⟩
        obtain ⟨x, hx⟩ : ∃ x, xs[j]? = some x := ⟨xs[j]'(by omega), by simp⟩
        obtain ⟨y, hy⟩ : ∃ y, xs[j + 1]? = some y := ⟨xs[j + 1]'(by omega), by simp⟩
        have hxy := HNE.out j x y hx hy
        obtain ⟨b, o, hab, e0, e1, -⟩ := obj_cells ((HAT.out j x hx).stays stays_obj HT.out)
        obtain ⟨b', o', hab', f0, f1, -⟩ := obj_cells ((HAT.out (j + 1) y hy).stays stays_obj HT.out)
        rw [hab] at hab'
        simp at hab'
        obtain ⟨rfl, rfl⟩ := hab'
        obtain rfl := hab
        have hb : ∀ w, (binOp .eql 70 (.agg #[.int .i64 y.1, .int .i64 y.2]) (.agg #[.int .i64 x.1, .int .i64 x.2])).run Try.prog w = .ok (.bool false) w := fun w => by
          rw [eql_obj]; congr 2
          simp; intro h1 h2; exact hxy (Prod.ext h1.symm h2.symm)
        clear hx hy hxy
        go_wp2
        go_quiet (fail)
        go_wp2
        go_roundw
        case rel => exact ⟨j + 1 + 1, by omega, by omega, by go_num, HT.out.drewN _⟩
        case measure => simp [intOf]; omega
      · have hk' : k = n := by omega
        go_wp2
        go_ret
        exact ⟨rfl, HT.out⟩
set_option maxHeartbeats 1000000 in
theorem or_two {w : World} {b o c : Nat} {p q : Int} (h0 : w.cell? ⟨b, o, none⟩ = some (.int .i64 p)) (h1 : w.cell? ⟨b, o + 1, none⟩ = some (.int .i64 q)) :
    Calls Try.prog 58 #[.slice (some ⟨b, o, none⟩) 2 c] w fun e w' => e = .returned (.int .i64 (if p ≠ 0 then p else q)) ∧ w' = w := by
  go_enter Try.func58, Try.ntmps58
  go_wp2
  go_loop [8] (fun i => ∃ k : Nat, k ≤ 2 ∧ i = .int .i64 k ∧ (1 ≤ k → p = 0) ∧ (2 ≤ k → q = 0)) (fun i => 2 - (intOf i).toNat)
  case atStart => exact ⟨0, by omega, rfl, by omega, by omega⟩
  case round =>
    obtain ⟨k, hk, rfl, hp, hq⟩ := hrel
    have HP := Lib.hid hp
    have HQ := Lib.hid hq
    clear hp hq
    rcases (show k = 0 ∨ k = 1 ∨ k = 2 by omega) with rfl | rfl | rfl
    · by_cases hp0 : p = 0
      · have hb : (p != 0) = false := by simp [hp0]
        have HZ := Lib.hid hp0
        clear hp0
        go_wp2
        go_round
        case rel => exact ⟨1, by omega, rfl, fun _ => HZ.out, by omega⟩
        case measure => simp [intOf]
      · have hb : (p != 0) = true := by simp [hp0]
        have HZ := Lib.hid hp0
        clear hp0
        go_wp2
        go_ret
        exact ⟨by first | rfl | (rw [if_pos HZ.out]; rfl), rfl⟩
    · have HZ := Lib.hid (HP.out (by omega))
      by_cases hq0 : q = 0
      · have hb : (q != 0) = false := by simp [hq0]
        have HY := Lib.hid hq0
        clear hq0
        go_wp2
        go_round
        case rel => exact ⟨2, by omega, rfl, fun _ => HZ.out, fun _ => HY.out⟩
        case measure => simp [intOf]
      · have hb : (q != 0) = true := by simp [hq0]
        clear hq0
        go_wp2
        go_ret
        exact ⟨by first | rfl | (rw [if_neg (by rw [HZ.out]; simp)]; rfl), rfl⟩
    · have HZ := Lib.hid (HP.out (by omega))
      have HY := Lib.hid (HQ.out (by omega))
      go_wp2
      go_ret
      exact ⟨by first | rfl | (rw [HY.out]; rfl) | (rw [if_neg (by rw [HZ.out]; simp), HY.out]; rfl), rfl⟩

end Go.Proofs.Yteaglbfodeineaa
