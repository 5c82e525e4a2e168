/-
  The walk of RingApart: what was handed in, and what was handed out, is the buffer's no more.
-/
import Derived.Test.YteaglbfodeineaaRow
import Derived.Deep.RegionWith
namespace Go.Proofs.Yteaglbfodeineaa
open Go.RowKit

/-- The ring, and what the call owns beside it, behind a store into what it owns. -/
theorem RingIs.beside {w : World} {R G m : Nat} {l : List Int} (h : RingIs w R G m l) (g j : Nat) (u : Value) (h1 : R ≠ g) (h2 : G ≠ g) : RingIs (w.setCell ⟨g, j, none⟩ u) R G m l :=
  h.kept (S := [g]) ((Turned.refl _ _).setCell (.inl (by simp)) _) (by simpa using h1) (by simpa using h2)

theorem owns_set {w : World} {base g n cap : Nat} {zs : List Int} (h : w.ownsRow base 5 1 (.slice (some ⟨g, 0, none⟩) n cap) n (zs.map (Value.int .u8))) (j : Nat) (y : Int) :
    (w.setCell ⟨g, j, none⟩ (.int .u8 y)).ownsRow base 5 1 (.slice (some ⟨g, 0, none⟩) n cap) n ((zs.set j y).map (Value.int .u8)) := by
  have := (h.stored j (.int .u8 y)).1
  rw [List.map_set]
  exact this

theorem owns_byte {w : World} {base g n cap : Nat} {zs : List Int} (h : w.ownsRow base 5 1 (.slice (some ⟨g, 0, none⟩) n cap) n (zs.map (Value.int .u8))) (j : Nat) (hj : j < n) :
    ∃ y, w.cell? ⟨g, j, none⟩ = some (.int .u8 y) := by
  have hl : zs.length = n := by have := h.1; simpa using this
  refine ⟨zs.getD j 0, ?_⟩
  rw [h.cellAt j (by omega)]
  have : j < zs.length := by omega
  simp [this]

set_option maxHeartbeats 2000000 in
theorem apart_any (a : Option Addr) (len cap : Nat) (zs : List Int) (n : Int) (w : World) (hlc : len ≤ cap) (hcm : cap ≤ maxLen) (hnil : a = none → len = 0 ∧ cap = 0) (hz : Lies w a len zs []) :
    Calls Try.prog 4 #[.slice a len cap, .int .i64 n] w fun e w' => e = .returned (.bool true) ∧ Turned [] w w' := by
  unfold maxLen at hcm
  obtain ⟨k, hk⟩ : ∃ k, k = min len 64 := ⟨_, rfl⟩
  obtain ⟨ys, hys⟩ : ∃ ys, ys = zs.take k := ⟨_, rfl⟩
  have hy : Lies w a k ys [] := by rw [hys]; exact hz.cut k (by omega)
  have hnk : a = none → k = 0 ∧ cap = 0 := fun e => by have := hnil e; omega
  have hk1 : k ≤ 64 := by omega
  have hk2 : len ≤ 64 ∧ k = len ∨ 64 < len ∧ k = 64 := by omega
  clear hk hys hz hnil zs
  have HN := Lib.hid hnk
  have HY := Lib.hid hy
  clear hnk hy
  rcases hk2 with ⟨hl, rfl⟩ | ⟨hl, rfl⟩
  all_goals
    go_enter Try.func4, Try.ntmps4
    go_wp2_with fail
    refine (new_is 64 w (by omega) (by omega)).mono ?_
    rintro e w1 ⟨R, G, rfl, hr, lR, lG, ht⟩
    have HR := Lib.hid hr
    have HT := Lib.hid ht
    have HL := Lib.hid hr.lt
    clear hr ht
    go_wp2_with (at_builtin; refine copy_bytes rfl _ _ rfl rfl a _ cap ys [] rfl HN.out (HY.out.kept (S' := []) HT.out (by simp)) (by omega) ?_; intro v' w2 ho ht2; obtain ⟨a', cap', rfl, hq1, hq2, hq3, hq4⟩ := owns_shape ho; have HO := Lib.hid ho; have HT2 := Lib.hid ht2; clear ho ht2 hq3 hq4; unfold maxLen at hq2)
    have hL := HL.out
    have hlt := HO.out.lt
    obtain ⟨a1, cap1, ha1, -, -, hlies⟩ := lies_own HO.out [R, G] (fun j hj e => by have := (hlt j e).1; simp at hj; omega)
    obtain ⟨rfl, rfl⟩ : a' = a1 ∧ cap' = cap1 := by simpa using ha1
    have hput := put_is (HR.out.kept HT2.out (by simp) (by simp)) a' _ cap' ys (by unfold maxLen; omega) hlies
    have hyl : ys.length = _ := HY.out.1
    have HYL := Lib.hid hyl
    rw [List.nil_append, List.take_of_length_le (by simp; omega)] at hput
    refine hput.mono ?_
    rintro e w3 ⟨rfl, hr3, ht3⟩
    have ho3 := ht3.owns HO.out (fun j hj e => by have := (hlt j hj).1; simp at e; omega)
    have ht3' : Turned [] w w3 := (HT.out.trans HT2.out).step ht3 (fun i hi => by simp at hi; omega)
    clear hput hlies ht3 HT2 HO hlt HR ha1 hyl
    go_wp2
    go_loopw [7] (fun i wr => ∃ (j : Nat) (us : List Int), i = .int .i64 j ∧ wr.ownsRow w1.heap.size 5 1 (.slice a' ys.length cap') ys.length (us.map (Value.int .u8)) ∧ RingIs wr R G 64 ys ∧ Turned [] w wr) (fun i _ => ys.length - (intOf i).toNat)
    case atStart => exact ⟨0, ys, rfl, by rw [HYL.out]; exact ho3, hr3, ht3'⟩
    case round =>
      obtain ⟨j, us, rfl, ho, hr, ht⟩ := hrel
      rw [HYL.out] at ho
      have HRL := Lib.hid hr.lt
      have HR := Lib.hid hr
      have HT' := Lib.hid ht
      have HO := Lib.hid ho
      clear hr ht ho hr3 ho3 ht3'
      by_cases hj : j < ys.length
      · rw [HYL.out] at hj
        obtain ⟨a0, c0, e0, -, -, hq5, hq6⟩ := owns_shape HO.out
        obtain ⟨rfl, rfl⟩ : a' = a0 ∧ cap' = c0 := by simpa using e0
        clear e0
        cases a' with
        | none => have := (hq5 rfl).1; omega
        | some b =>
          obtain ⟨g, rfl⟩ := hq6 b rfl
          obtain ⟨y, cy⟩ := owns_byte HO.out j hj
          have cz := HO.out.frozenAt j
          have hg := (HO.out.lt g rfl).1
          go_wp2
          go_roundw
          case rel => exact ⟨j + 1, _, by go_num, by rw [HYL.out]; exact owns_set HO.out j _, HR.out.beside g j _ (by omega) (by omega), HT'.out.setCell (.inr (by simp; omega)) _⟩
          case measure => have := HYL.out; simp [intOf]; omega
      · rw [HYL.out] at hj
        have hpk := peek_is HR.out n
        obtain ⟨xs, hxs⟩ : ∃ xs, xs = ys.take n.toNat := ⟨_, rfl⟩
        rw [← hxs] at hpk
        have HP := Lib.hid hpk
        clear hpk hxs HO HR
        go_wp2_with fail
        refine HP.out.mono ?_
        rintro e w4 ⟨v, rfl, ho4, hr4, ht4⟩
        have HT4 := Lib.hid (HT'.out.step ht4 (by simp))
        have HW := Lib.hid (show R < wr.heap.size ∧ G < wr.heap.size ∧ w.heap.size ≤ wr.heap.size from by have h1 := HP.out; exact ⟨HRL.out.1, HRL.out.2, HT'.out.size⟩)
        obtain ⟨a2, cap2, rfl, hq7, hq8, -, -⟩ := owns_shape ho4
        unfold maxLen at hq8
        clear HP ht4 HT'
        obtain ⟨wo, rfl⟩ : ∃ wo : World, wo = wr := ⟨_, rfl⟩
        go_wp2
        go_loopw [9] (fun i w5 => ∃ (j : Nat) (us : List Int), i = .int .i64 j ∧ w5.ownsRow wo.heap.size 5 1 (.slice a2 xs.length cap2) xs.length (us.map (Value.int .u8)) ∧ RingIs w5 R G 64 ys ∧ Turned [] w w5) (fun i _ => xs.length - (intOf i).toNat)
        case atStart => exact ⟨0, xs, rfl, ho4, hr4, HT4.out⟩
        case round =>
          obtain ⟨j, us, rfl, ho, hr, ht⟩ := hrel
          have HRL2 := Lib.hid hr.lt
          have HR := Lib.hid hr
          have HT' := Lib.hid ht
          have HO := Lib.hid ho
          clear hr ht ho hr4 ho4
          by_cases hj : j < xs.length
          · obtain ⟨a0, c0, e0, -, -, hq5, hq6⟩ := owns_shape HO.out
            obtain ⟨rfl, rfl⟩ : a2 = a0 ∧ cap2 = c0 := by simpa using e0
            clear e0
            cases a2 with
            | none => have := (hq5 rfl).1; omega
            | some b =>
              obtain ⟨g, rfl⟩ := hq6 b rfl
              obtain ⟨y, cy⟩ := owns_byte HO.out j hj
              have cz := HO.out.frozenAt j
              have hg := (HO.out.lt g rfl).1
              have hW := HW.out
              go_wp2
              go_roundw
              case rel => exact ⟨j + 1, _, by go_num, owns_set HO.out j _, HR.out.beside g j _ (by omega) (by omega), HT'.out.setCell (.inr (by simp; omega)) _⟩
              case measure => simp [intOf]; omega
          · clear HO
            go_wp2
            obtain ⟨w5, rfl⟩ : ∃ w5 : World, w5 = wr := ⟨_, rfl⟩
            have hd : Turned [] w w5.drew := HT'.out.drew
            have cv0 : (convert 26 9 (.slice a _ cap)).run Try.prog w5.drew = .ok (.string (strOfNums ys)) w5.drew := conv_lies (HY.out.kept (S' := []) hd (by simp)) cap
            have htk := take_is (HR.out.kept (S := []) (Turned.refl _ _).drew (by simp) (by simp)) 64
            have hyl := HYL.out
            rw [show (64 : Int).toNat = 64 from rfl, List.take_of_length_le (by omega)] at htk
            have HTK := Lib.hid htk
            have HD := Lib.hid hd
            have hRL := HRL2.out
            have hW := HW.out
            clear htk hd HR HT' hyl HT4
            go_region_with (first | (go_at_call 13; refine HTK.out.mono ?_; rintro e w6 ⟨v6, rfl, ho6, hr6, ht6⟩; obtain ⟨a6, cap6, rfl, hq9, hq10, hl6⟩ := lies_own ho6 [] (by simp); have cv6 : (convert 26 9 (.slice a6 ys.length cap6)).run Try.prog w6 = .ok (.string (strOfNums ys)) w6 := conv_lies hl6 cap6; have ht6' : Turned [] w w6 := HD.out.step ht6 (fun i hi => by simp at hi; omega); have HT6 := Lib.hid ht6'; have cv7 : (convert 26 9 (.slice a _ cap)).run Try.prog w6 = .ok (.string (strOfNums ys)) w6 := conv_lies (HY.out.kept (S' := []) HT6.out (by simp)) cap; clear ht6 ht6' ho6 hl6 hr6 hq9 hq10) | (go_at_call 15; refine (lives_any _).mono ?_; rintro e w7 ⟨rfl, ht7⟩; have HT7 := Lib.hid (HT6.out.trans ht7); clear ht7))
            all_goals
              go_wp2
              go_ret
              exact ⟨rfl, HT7.out⟩

end Go.Proofs.Yteaglbfodeineaa
