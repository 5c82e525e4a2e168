/-
  The walk of RingActs: what comes of any acts, and how many bytes there are, and how many more there is room for.
-/
import Derived.Test.YteaglbfodeineaaRi
import Derived.Test.YteaglbfodeineaaRj
import Derived.Deep.RegionWith
namespace Go.Proofs.Yteaglbfodeineaa
open Go.RowKit

/-- The ring holds the bytes that the slice b shows. -/
structure ActInv (w wr : World) (R G m : Nat) (a : Option Addr) (cap : Nat) (bs : List Int) : Prop where
  pr : RingIs wr R G m bs
  pl : Lies wr a bs.length bs [R, G]
  lc : bs.length ≤ cap
  cm : cap ≤ maxLen
  nil : a = none → bs.length = 0 ∧ cap = 0
  pt : Turned [] w wr
  lR : w.heap.size ≤ R
  lG : w.heap.size ≤ G

theorem ActInv.new {w wr w' : World} {R G m : Nat} {a : Option Addr} {cap : Nat} {bs : List Int} (h : ActInv w wr R G m a cap bs) (ht : Turned [] wr w') : ActInv w w' R G m a cap bs :=
  ⟨h.pr.kept ht (by simp) (by simp), h.pl.kept ht (by simp), h.lc, h.cm, h.nil, h.pt.trans ht, h.lR, h.lG⟩

/-- The ring has turned, and b shows other bytes, which lay there. -/
theorem ActInv.ring {w wr w' : World} {R G m : Nat} {a a' : Option Addr} {cap cap' : Nat} {bs ys : List Int} (h : ActInv w wr R G m a cap bs) (ht : Turned [R, G] wr w') (hr : RingIs w' R G m ys)
    (hl : Lies wr a' ys.length ys [R, G]) (hc : ys.length ≤ cap') (hm : cap' ≤ maxLen) (hn : a' = none → ys.length = 0 ∧ cap' = 0) : ActInv w w' R G m a' cap' ys :=
  ⟨hr, hl.kept ht (by simp), hc, hm, hn, h.pt.step ht (fun i hi => by have := h.lR; have := h.lG; simp at hi; omega), h.lR, h.lG⟩

set_option maxRecDepth 100000 in
set_option maxHeartbeats 8000000 in
theorem acts_any (mo : Int) (a : Option Addr) (len cap : Nat) (acts : List ActV) (w : World) (hm1 : 0 ≤ mo) (hm2 : mo ≤ 65535) (ha : ActsAt w a len acts) :
    Calls Try.prog 5 #[.int .u16 mo, .slice a len cap] w fun e w' => e = .returned (.bool true) ∧ Turned [] w w' := by
  obtain ⟨mn, rfl⟩ := Int.eq_ofNat_of_zero_le hm1
  have HA := Lib.hid ha
  clear ha
  go_enter Try.func5, Try.ntmps5
  go_wp2_with fail
  obtain ⟨m, hmm⟩ : ∃ m : Nat, 1 + (mn : Int) % 300 = m := ⟨1 + mn % 300, by omega⟩
  rw [hmm]
  have hmb : 1 ≤ m ∧ m ≤ 300 := by omega
  clear hmm hm1 hm2
  refine (new_is m w (by omega) (by omega)).mono ?_
  rintro e w1 ⟨R, G, rfl, hr, lR, lG, ht⟩
  have hlt := hr.lt
  have H0 : Hid (ActInv w (w1.alloc (.cells #[] 5)) R G m (some ⟨w1.heap.size, 0, none⟩) 0 []) :=
    Lib.hid ⟨hr.kept (S := []) ((Turned.refl _ _).alloc _) (by simp) (by simp), ⟨rfl, .inl rfl⟩, Nat.le_refl _, Nat.zero_le _, fun _ => ⟨rfl, rfl⟩, ht.alloc _, lR, lG⟩
  clear hr ht
  go_wp2
  go_loopw [7, 8] (fun b i wr => ∃ (j : Nat) (ab : Option Addr) (cb : Nat) (bs : List Int), j ≤ 100 ∧ i = .int .i64 j ∧ b = .slice ab bs.length cb ∧ ActInv w wr R G m ab cb bs) (fun _ i _ => 100 - (intOf i).toNat)
  case atStart => exact ⟨0, _, 0, [], by omega, rfl, rfl, H0.out⟩
  case round =>
    obtain ⟨j, ab, cb, bs, hj, rfl, rfl, hI⟩ := hrel
    have hbm := hI.pr.le
    have hbc := hI.lc
    have hbx := hI.cm
    unfold maxLen at hbx
    have hW := hI.pt.size
    have HI := Lib.hid hI
    clear hI H0
    by_cases h1 : j < len
    · by_cases h2 : j < 100
      · obtain ⟨b, o, kind, x, ba, bl, bc, bz, rfl, hw0, hw1, hw2, hv1, hv2, hv3, hv4⟩ := HA.out.at j h1
        unfold maxLen at hv2
        have hd0 := HI.out.pt.cell hw0 (by simp)
        have hd1 := HI.out.pt.cell hw1 (by simp)
        have hd2 := HI.out.pt.cell hw2 (by simp)
        clear hw0 hw1 hw2
        obtain ⟨q0, hq0⟩ : ∃ q0, q0 = min bl 400 := ⟨_, rfl⟩
        obtain ⟨zs, hzs⟩ : ∃ zs, zs = bz.take q0 := ⟨_, rfl⟩
        have HN := Lib.hid (show ba = none → q0 = 0 ∧ bc = 0 from fun e => by have := hv3 e; omega)
        have HZ := Lib.hid (show Lies w ba q0 zs [] by rw [hzs]; exact hv4.cut q0 (by omega))
        have hq1 : q0 ≤ 400 := by omega
        have hq2 : bl ≤ 400 ∧ bl = q0 ∨ 400 < bl ∧ q0 = 400 := by omega
        have hkk : kind = 1 ∨ kind = 2 ∨ kind = 3 ∨ ((kind == 1) = false ∧ (kind == 2) = false ∧ (kind == 3) = false) := by
          by_cases c1 : kind = 1
          · exact .inl c1
          · by_cases c2 : kind = 2
            · exact .inr (.inl c2)
            · by_cases c3 : kind = 3
              · exact .inr (.inr (.inl c3))
              · exact .inr (.inr (.inr ⟨by simpa using c1, by simpa using c2, by simpa using c3⟩))
        clear hq0 hzs hv3 hv4
        have hRG := HI.out.pr.lt
        obtain ⟨W, hWW⟩ : ∃ W, W = wr.alloc (.cells #[.int .i64 kind, .int .i64 x, .slice ba q0 bc] 28) := ⟨_, rfl⟩
        have HIW := Lib.hid (HI.out.new (show Turned [] wr W by rw [hWW]; exact (Turned.refl _ _).alloc _))
        have HCW := Lib.hid (show W.cell? ⟨wr.heap.size, 2, none⟩ = some (.slice ba q0 bc) by rw [hWW]; exact World.cell?_alloc_mark _ _ _ _ _)
        have HWW := Lib.hid hWW
        clear hWW HI
        rcases hkk with rfl | rfl | rfl | ⟨hk1, hk2, hk3⟩
        · rcases hq2 with ⟨hbl, rfl⟩ | ⟨hbl, rfl⟩
          all_goals
            go_wp2_with fail
            rw [← HWW.out]
            refine (rtake_is ab cb x bs [R, G] W HIW.out.lc HIW.out.cm HIW.out.nil HIW.out.pl).mono ?_
            rintro e w2 ⟨xs, ys, a', c', hxs, hys, rfl, ⟨q, hw2⟩, hlx, hly, hyc, hym, hyn⟩
            have ht2 : Turned [] W w2.drew := by rw [hw2]; exact ((Turned.refl [] W).drewN q).drew
            have hI2 := HIW.out.new ht2
            have htk := take_is hI2.pr x
            rw [← hxs, ← hys] at htk
            have hcx : w2.drew.cell? ⟨wr.heap.size, 1, none⟩ = some (.int .i64 x) := by rw [hw2, HWW.out]; exact World.cell?_alloc_mark _ _ _ _ _
            have hlx' : Lies w2.drew ab xs.length xs [R, G] := hlx.kept (S' := []) ht2 (by simp)
            have hly' : Lies w2.drew a' ys.length ys [R, G] := hly.kept (S' := []) ht2 (by simp)
            have cx1 := conv_lies hlx' cb
            have HTK := Lib.hid htk
            have HLX := Lib.hid hlx'
            have HI1 := Lib.hid hI2
            have HLY := Lib.hid hly'
            have HYN := Lib.hid hyn
            have HYC := Lib.hid hyc
            have HYM := Lib.hid hym
            clear htk hI2 hlx hlx' hly hly' hxs hys hyn hyc hym HIW hw2 ht2
            go_wp2_with fail
            go_region_with (go_at_call 13; refine HTK.out.mono ?_; rintro e w6 ⟨v6, rfl, ho6, hr6, ht6⟩; obtain ⟨a6, cap6, rfl, hq9, hq10, -, hl6⟩ := own_lies ho6; have cv6 := conv_lies hl6 cap6; have cx2 := conv_lies (HLX.out.kept ht6 (fun _ h => h)) cb; have HI2 := Lib.hid (HI1.out.ring ht6 hr6 HLY.out HYC.out HYM.out HYN.out); clear ht6 ho6 hl6 hr6 hq9 hq10)
            all_goals
              have hbm2 := HI2.out.pr.le.1
              go_wp2_with fail
              refine (len_is HI2.out.pr).mono ?_
              rintro e w8 ⟨rfl, rfl⟩
              go_wp2_with fail
              refine (room_is HI2.out.pr).mono ?_
              rintro e w9 ⟨rfl, k9, rfl⟩
              go_wp2
              go_roundw
              case rel => exact ⟨j + 1, a', c', ys, by omega, by go_num, rfl, HI2.out.new ((Turned.refl _ _).drewN k9)⟩
              case measure => simp [intOf]; omega
        · rcases hq2 with ⟨hbl, rfl⟩ | ⟨hbl, rfl⟩
          all_goals
            go_wp2_with fail
            rw [← HWW.out]
            refine (rtake_is ab cb x bs [R, G] W HIW.out.lc HIW.out.cm HIW.out.nil HIW.out.pl).mono ?_
            rintro e w2 ⟨xs, ys, a', c', hxs, hys, rfl, ⟨q, hw2⟩, hlx, hly, hyc, hym, hyn⟩
            have ht2 : Turned [] W w2.drew := by rw [hw2]; exact ((Turned.refl [] W).drewN q).drew
            have hI2 := HIW.out.new ht2
            have htk := peek_is hI2.pr x
            rw [← hxs] at htk
            have hcx : w2.drew.cell? ⟨wr.heap.size, 1, none⟩ = some (.int .i64 x) := by rw [hw2, HWW.out]; exact World.cell?_alloc_mark _ _ _ _ _
            have hlx' : Lies w2.drew ab xs.length xs [R, G] := hlx.kept (S' := []) ht2 (by simp)
            have hly' : Lies w2.drew a' ys.length ys [R, G] := hly.kept (S' := []) ht2 (by simp)
            have cx1 := conv_lies hlx' cb
            have HTK := Lib.hid htk
            have HLX := Lib.hid hlx'
            have HI1 := Lib.hid hI2
            have HLY := Lib.hid hly'
            have HYN := Lib.hid hyn
            have HYC := Lib.hid hyc
            have HYM := Lib.hid hym
            clear htk hI2 hlx hlx' hly hly' hxs hys hyn hyc hym HIW hw2 ht2
            go_wp2_with fail
            go_region_with (go_at_call 14; refine HTK.out.mono ?_; rintro e w6 ⟨v6, rfl, ho6, hr6, ht6⟩; obtain ⟨a6, cap6, rfl, hq9, hq10, -, hl6⟩ := own_lies ho6; have cv6 := conv_lies hl6 cap6; have cx2 := conv_lies (HLX.out.kept ht6 (by simp)) cb; have HI2 := Lib.hid (HI1.out.new ht6); clear ht6 ho6 hl6 hr6 hq9 hq10)
            all_goals
              have hbm2 := HI2.out.pr.le.1
              go_wp2_with fail
              refine (len_is HI2.out.pr).mono ?_
              rintro e w8 ⟨rfl, rfl⟩
              go_wp2_with fail
              refine (room_is HI2.out.pr).mono ?_
              rintro e w9 ⟨rfl, k9, rfl⟩
              go_wp2
              go_roundw
              case rel => exact ⟨j + 1, ab, cb, bs, by omega, by go_num, rfl, HI2.out.new ((Turned.refl _ _).drewN k9)⟩
              case measure => simp [intOf]; omega
        · rcases hq2 with ⟨hbl, rfl⟩ | ⟨hbl, rfl⟩
          all_goals
            go_wp2_with fail
            rw [← HWW.out]
            refine (clear_is HIW.out.pr).mono ?_
            rintro e w2 ⟨rfl, hr2, ht2⟩
            have HI2 : Hid (ActInv w (w2.alloc (.cells #[] 5)) R G m (some ⟨w2.heap.size, 0, none⟩) 0 []) :=
              Lib.hid ((HIW.out.ring (a' := some ⟨w2.heap.size, 0, none⟩) (cap' := 0) (ys := []) ht2 hr2 ⟨rfl, .inl rfl⟩ (Nat.le_refl _) (Nat.zero_le _) (fun _ => ⟨rfl, rfl⟩)).new ((Turned.refl _ _).alloc _))
            clear HIW ht2 hr2
            go_wp2_with fail
            refine (show Calls Try.prog 19 #[.pointer (some ⟨R, 0, none⟩)] _ fun e w' => e = .returned (.int .i64 0) ∧ w' = _ from len_is HI2.out.pr).mono ?_
            rintro e w8 ⟨rfl, rfl⟩
            go_wp2_with fail
            refine (show Calls Try.prog 20 #[.pointer (some ⟨R, 0, none⟩)] _ fun e w' => e = .returned (.int .i64 m) ∧ ∃ k, w' = World.drewN _ k from by simpa using room_is HI2.out.pr).mono ?_
            rintro e w9 ⟨rfl, k9, rfl⟩
            go_wp2
            go_roundw
            case rel => exact ⟨j + 1, _, 0, [], by omega, by go_num, rfl, HI2.out.new ((Turned.refl _ _).drewN k9)⟩
            case measure => simp [intOf]; omega
        · rcases hq2 with ⟨hbl, rfl⟩ | ⟨hbl, rfl⟩
          all_goals
            go_wp2_with fail
            rw [← HWW.out]
            have hbm' := hbm.1
            have hcW := HCW.out
            refine (rput_any m ab bs.length cb bs ba _ bc zs [R, G] [] W (by omega) (by omega) (by omega) (by unfold maxLen; omega) HIW.out.nil HIW.out.pl (HZ.out.kept (S' := []) HIW.out.pt (by simp))).mono ?_
            rintro e w2 ⟨v, q, rfl, hqa, hqb, hqc, ho2, ht2⟩
            obtain ⟨xs, hxs⟩ : ∃ xs, xs = bs ++ zs.take q := ⟨_, rfl⟩
            have hxl : xs.length = bs.length + q := by have := HZ.out.1; rw [hxs]; simp; omega
            rw [← hxs, ← hxl] at ho2
            obtain ⟨a2, c2, rfl, hx1, hx2, hx3, hx4⟩ := own_lies ho2
            have hlt2 := ho2.lt
            have hlx : Lies w2 a2 xs.length xs [R, G] := ⟨hx4.1, hx4.2.imp id (fun ⟨b, o, h1, _, h3⟩ => ⟨b, o, h1, by
              have := (hlt2 b (by rw [h1]; rfl)).1
              have := HIW.out.pr.lt
              simp
              omega, h3⟩)⟩
            have hc2 := ht2.cell hcW (by simp)
            have hlt3 := World.block_lt_of_cell? w2 _ hc2
            have hlt4 : ¬ wr.heap.size = w2.heap.size := by simp at hlt3; omega
            have HI1 := Lib.hid (HIW.out.new ht2)
            have HLX := Lib.hid hlx
            have HX3 := Lib.hid hx3
            have HXS := Lib.hid hxs
            have HXL := Lib.hid hxl
            clear ho2 ht2 hlt2 hlx hx3 hx4 hxs hcW HIW hxl
            unfold maxLen at hx2
            go_wp2_with (at_builtin; refine copy_bytes rfl (.tmp 54) (.tmp 56) rfl rfl ba _ bc zs [] rfl HN.out (HZ.out.kept (S' := []) HI1.out.pt (by simp)) (by omega) ?_; intro v' w3 ho ht3; obtain ⟨a', cap', rfl, hq5, hq6, -, -⟩ := owns_shape ho; have HO := Lib.hid ho; have HT3 := Lib.hid ht3; clear ho ht3; unfold maxLen at hq6)
            have hRG1 := HI1.out.pr.lt
            obtain ⟨a1, cap1, ha1, -, -, hlies⟩ := lies_own HO.out [R, G] (fun k hk e => by have := (HO.out.lt k e).1; simp at hk; omega)
            obtain ⟨rfl, rfl⟩ : a' = a1 ∧ cap' = cap1 := by simpa using ha1
            refine (put_q (HI1.out.new HT3.out).pr a' _ cap' zs (by unfold maxLen; omega) hlies).mono ?_
            rintro e w4 ⟨q', hqa', hqb', hqc', rfl, hr4, ht4⟩
            have hqq : q' = q := by omega
            have hr4' : RingIs w4 R G m xs := by rw [HXS.out, ← hqq]; exact hr4
            have hxl := HXL.out
            have hbq : ((q' : Int) != (xs.length : Int) - bs.length) = false := by rw [bne_eq_false_iff_eq]; omega
            have HI2 := Lib.hid ((HI1.out.new HT3.out).ring ht4 hr4' (HLX.out.kept HT3.out (by simp)) hx1 (by unfold maxLen; omega) HX3.out)
            clear hqq hqb hqb' HO HT3 ha1 hlies hr4 hr4' ht4 hxl HI1
            have hbm2 := HI2.out.pr.le.1
            go_wp2_with fail
            refine (len_is HI2.out.pr).mono ?_
            rintro e w8 ⟨rfl, rfl⟩
            go_wp2_with fail
            refine (room_is HI2.out.pr).mono ?_
            rintro e w9 ⟨rfl, k9, rfl⟩
            go_wp2
            go_roundw
            case rel => exact ⟨j + 1, a2, c2, xs, by omega, by go_num, rfl, HI2.out.new ((Turned.refl _ _).drewN k9)⟩
            case measure => simp [intOf]; omega
      · have hbm' := hbm.1
        go_wp2
        obtain ⟨wo, rfl⟩ : ∃ wo : World, wo = wr := ⟨_, rfl⟩
        have hI1 := HI.out.new ((Turned.refl _ _).drew)
        have hpk := peek_is hI1.pr m
        rw [Int.toNat_natCast, List.take_of_length_le hbm'] at hpk
        have cb1 := conv_lies hI1.pl cb
        have HPK := Lib.hid hpk
        have HI1 := Lib.hid hI1
        clear hpk hI1 HI
        go_region_with (first | (go_at_call 14; refine HPK.out.mono ?_; rintro e w6 ⟨v6, rfl, ho6, hr6, ht6⟩; obtain ⟨a6, cap6, rfl, hq9, hq10, -, hl6⟩ := own_lies ho6; have cv6 := conv_lies hl6 cap6; have HI6 := Lib.hid (HI1.out.new ht6); have cb2 := conv_lies HI6.out.pl cb; clear ht6 ho6 hl6 hr6 hq9 hq10) | (go_at_call 15; refine (lives_any _).mono ?_; rintro e w7 ⟨rfl, ht7⟩; have HT7 := Lib.hid (HI6.out.pt.trans ht7); clear ht7))
        all_goals
          go_wp2
          go_ret
          exact ⟨rfl, HT7.out⟩
    · have hbm' := hbm.1
      go_wp2
      obtain ⟨wo, rfl⟩ : ∃ wo : World, wo = wr := ⟨_, rfl⟩
      have hI1 := HI.out.new ((Turned.refl _ _).drew)
      have hpk := peek_is hI1.pr m
      rw [Int.toNat_natCast, List.take_of_length_le hbm'] at hpk
      have cb1 := conv_lies hI1.pl cb
      have HPK := Lib.hid hpk
      have HI1 := Lib.hid hI1
      clear hpk hI1 HI
      go_region_with (first | (go_at_call 14; refine HPK.out.mono ?_; rintro e w6 ⟨v6, rfl, ho6, hr6, ht6⟩; obtain ⟨a6, cap6, rfl, hq9, hq10, -, hl6⟩ := own_lies ho6; have cv6 := conv_lies hl6 cap6; have HI6 := Lib.hid (HI1.out.new ht6); have cb2 := conv_lies HI6.out.pl cb; clear ht6 ho6 hl6 hr6 hq9 hq10) | (go_at_call 15; refine (lives_any _).mono ?_; rintro e w7 ⟨rfl, ht7⟩; have HT7 := Lib.hid (HI6.out.pt.trans ht7); clear ht7))
      all_goals
        go_wp2
        go_ret
        exact ⟨rfl, HT7.out⟩

end Go.Proofs.Yteaglbfodeineaa
