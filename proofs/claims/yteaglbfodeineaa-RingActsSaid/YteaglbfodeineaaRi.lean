/-
  The walk of RingOrder: all bytes that were taken, and those that are there, are all that were put, in their order.
-/
import Derived.Test.YteaglbfodeineaaRow
namespace Go.Proofs.Yteaglbfodeineaa
open Go.RowKit

/-- An act that came in: what its three cells hold, and the bytes behind the third. -/
structure ActV where
  kind : Int
  n : Int
  a : Option Addr
  len : Nat
  cap : Nat
  z : List Int
  deriving Inhabited

/-- The acts of a slice that came in lie from place o of block b on. -/
def ActsAt (w : World) (a : Option Addr) (len : Nat) (acts : List ActV) : Prop :=
  acts.length = len ∧ (len = 0 ∨ ∃ b o, a = some ⟨b, o, none⟩ ∧ ∀ i, i < len →
    w.cell? ⟨b, o + i * 3, none⟩ = some (.int .i64 (acts.getD i default).kind) ∧ w.cell? ⟨b, o + i * 3 + 1, none⟩ = some (.int .i64 (acts.getD i default).n) ∧
    w.cell? ⟨b, o + i * 3 + 2, none⟩ = some (.slice (acts.getD i default).a (acts.getD i default).len (acts.getD i default).cap)) ∧
  ∀ i, i < len → (acts.getD i default).len ≤ (acts.getD i default).cap ∧ (acts.getD i default).cap ≤ maxLen ∧ ((acts.getD i default).a = none → (acts.getD i default).len = 0 ∧ (acts.getD i default).cap = 0) ∧
    Lies w (acts.getD i default).a (acts.getD i default).len (acts.getD i default).z []

/-- The act at place j. -/
theorem ActsAt.at {w : World} {a : Option Addr} {len : Nat} {acts : List ActV} (h : ActsAt w a len acts) (j : Nat) (hj : j < len) :
    ∃ (b o : Nat) (kind n : Int) (ba : Option Addr) (bl bc : Nat) (bz : List Int), a = some ⟨b, o, none⟩ ∧
      w.cell? ⟨b, o + j * 3, none⟩ = some (.int .i64 kind) ∧ w.cell? ⟨b, o + j * 3 + 1, none⟩ = some (.int .i64 n) ∧ w.cell? ⟨b, o + j * 3 + 2, none⟩ = some (.slice ba bl bc) ∧
      bl ≤ bc ∧ bc ≤ maxLen ∧ (ba = none → bl = 0 ∧ bc = 0) ∧ Lies w ba bl bz [] := by
  obtain ⟨hal, hac, hav⟩ := h
  rcases hac with hac | ⟨b, o, rfl, hac⟩
  · omega
  obtain ⟨hc0, hc1, hc2⟩ := hac j hj
  obtain ⟨hv1, hv2, hv3, hv4⟩ := hav j hj
  exact ⟨b, o, _, _, _, _, _, _, rfl, hc0, hc1, hc2, hv1, hv2, hv3, hv4⟩

theorem put_q {w : World} {R G m : Nat} {l : List Int} (h : RingIs w R G m l) (a : Option Addr) (len cap : Nat) (zs : List Int) (hl : len ≤ maxLen) (hz : Lies w a len zs [R, G]) :
    Calls Try.prog 12 #[.pointer (some ⟨R, 0, none⟩), .slice a len cap] w fun e w' =>
      ∃ q : Nat, q ≤ len ∧ (q = len ∨ l.length + q = m) ∧ l.length + q ≤ m ∧ e = .returned (.int .i64 q) ∧ RingIs w' R G m (l ++ zs.take q) ∧ Turned [R, G] w w' := by
  have hle := h.le
  refine (put_is h a len cap zs hl hz).mono ?_
  rintro e w' ⟨h1, h2, h3⟩
  refine ⟨min len (m - l.length), by omega, by omega, by omega, h1, ?_, h3⟩
  have e1 : zs.take (m - l.length) = zs.take (min len (m - l.length)) := by
    have := hz.1
    rcases Nat.le_total len (m - l.length) with c | c
    · rw [Nat.min_eq_left c, List.take_of_length_le (by omega), List.take_of_length_le (by omega)]
    · rw [Nat.min_eq_right c]
  rw [← e1]; exact h2

/-- Two slices of the call's own, and the ring, lie apart. -/
structure Beside (B : Nat) (v u : Value) (R G : Nat) : Prop where
  pv : ∀ k, v.ownBlock = some k → B ≤ k ∧ k ≠ R ∧ k ≠ G ∧ u.ownBlock ≠ some k
  pu : ∀ k, u.ownBlock = some k → B ≤ k ∧ k ≠ R ∧ k ≠ G

theorem Beside.grow1 {B : Nat} {v u v' : Value} {R G H : Nat} (h : Beside B v u R G) (hv : v'.ownBlock = v.ownBlock ∨ v'.ownBlock = some H) (hB : B ≤ H) (hR : R < H) (hG : G < H) (hu : ∀ k, u.ownBlock = some k → k < H) : Beside B v' u R G := by
  refine ⟨fun k hk => ?_, h.pu⟩
  rcases hv with hv | hv
  · exact h.pv k (by rw [← hv]; exact hk)
  · obtain rfl : k = H := by rw [hk] at hv; exact Option.some.inj hv
    exact ⟨hB, by omega, by omega, fun e => by have := hu k e; omega⟩

theorem Beside.grow2 {B : Nat} {v u u' : Value} {R G H : Nat} (h : Beside B v u R G) (hv : u'.ownBlock = u.ownBlock ∨ u'.ownBlock = some H) (hB : B ≤ H) (hR : R < H) (hG : G < H) (hu : ∀ k, v.ownBlock = some k → k < H) : Beside B v u' R G := by
  refine ⟨fun k hk => ?_, fun k hk => ?_⟩
  · obtain ⟨h1, h2, h3, h4⟩ := h.pv k hk
    refine ⟨h1, h2, h3, fun e => ?_⟩
    rcases hv with hv | hv
    · exact h4 (by rw [← hv]; exact e)
    · have := hu k hk
      rw [hv] at e
      have := Option.some.inj e
      omega
  · rcases hv with hv | hv
    · exact h.pu k (by rw [← hv]; exact hk)
    · obtain rfl : k = H := by rw [hk] at hv; exact Option.some.inj hv
      exact ⟨hB, by omega, by omega⟩

/-- Two slices of the call's own, and a ring, in a world that holds all that was there. -/
structure OrdSt (w wr : World) (R G m : Nat) (v u : Value) (xs ys rl : List Int) : Prop where
  pv : wr.ownsRow w.heap.size 5 1 v xs.length (xs.map (Value.int .u8))
  pu : wr.ownsRow w.heap.size 5 1 u ys.length (ys.map (Value.int .u8))
  pr : RingIs wr R G m rl
  pb : Beside w.heap.size v u R G
  pt : Turned [] w wr
  lR : w.heap.size ≤ R
  lG : w.heap.size ≤ G

theorem OrdSt.new {w wr w' : World} {R G m : Nat} {v u : Value} {xs ys rl : List Int} (h : OrdSt w wr R G m v u xs ys rl) (ht : Turned [] wr w') : OrdSt w w' R G m v u xs ys rl :=
  ⟨ht.owns h.pv (by simp), ht.owns h.pu (by simp), h.pr.kept ht (by simp) (by simp), h.pb, h.pt.trans ht, h.lR, h.lG⟩

theorem OrdSt.ring {w wr w' : World} {R G m : Nat} {v u : Value} {xs ys rl rl' : List Int} (h : OrdSt w wr R G m v u xs ys rl) (ht : Turned [R, G] wr w') (hr : RingIs w' R G m rl') : OrdSt w w' R G m v u xs ys rl' :=
  ⟨ht.owns h.pv (fun k hk => by have := h.pb.pv k hk; simp; omega), ht.owns h.pu (fun k hk => by have := h.pb.pu k hk; simp; omega), hr, h.pb,
    h.pt.step ht (fun i hi => by have := h.lR; have := h.lG; simp at hi; omega), h.lR, h.lG⟩

theorem OrdSt.app1 {w wr w' : World} {R G m : Nat} {v u v' : Value} {xs ys rl zs : List Int} {n : Nat} (h : OrdSt w wr R G m v u xs ys rl) (ho : w'.ownsRow w.heap.size 5 1 v' n (zs.map (Value.int .u8)))
    (hg : wr.grownBy w' v.ownBlock) (hl : v'.ownBlock = v.ownBlock ∨ v'.ownBlock = some wr.heap.size) : OrdSt w w' R G m v' u zs ys rl := by
  have hn : zs.length = n := by have := ho.1; simpa using this
  have hlt := h.pr.lt
  refine ⟨by rw [hn]; exact ho, h.pu.kept hg ?_, ?_, h.pb.grow1 hl h.pt.size hlt.1 hlt.2 (fun k hk => (h.pu.lt k hk).2), h.pt.grown hg (fun k hk => .inr (h.pb.pv k hk).1), h.lR, h.lG⟩
  · by_cases e : u.ownBlock = none
    · exact .inl e
    · refine .inr (fun e2 => ?_)
      obtain ⟨k, hk⟩ := Option.ne_none_iff_exists'.1 e
      exact (h.pb.pv k (by rw [← e2]; exact hk)).2.2.2 hk
  · refine h.pr.kept (S := (v.ownBlock).toList) ((Turned.refl _ _).grown hg (fun k hk => .inl (by rw [hk]; simp))) ?_ ?_
    · intro e; simp at e; exact (h.pb.pv _ e).2.1 rfl
    · intro e; simp at e; exact (h.pb.pv _ e).2.2.1 rfl

theorem OrdSt.app2 {w wr w' : World} {R G m : Nat} {v u u' : Value} {xs ys rl zs : List Int} {n : Nat} (h : OrdSt w wr R G m v u xs ys rl) (ho : w'.ownsRow w.heap.size 5 1 u' n (zs.map (Value.int .u8)))
    (hg : wr.grownBy w' u.ownBlock) (hl : u'.ownBlock = u.ownBlock ∨ u'.ownBlock = some wr.heap.size) : OrdSt w w' R G m v u' xs zs rl := by
  have hn : zs.length = n := by have := ho.1; simpa using this
  have hlt := h.pr.lt
  refine ⟨h.pv.kept hg ?_, by rw [hn]; exact ho, ?_, h.pb.grow2 hl h.pt.size hlt.1 hlt.2 (fun k hk => (h.pv.lt k hk).2), h.pt.grown hg (fun k hk => .inr (h.pb.pu k hk).1), h.lR, h.lG⟩
  · by_cases e : v.ownBlock = none
    · exact .inl e
    · refine .inr (fun e2 => ?_)
      obtain ⟨k, hk⟩ := Option.ne_none_iff_exists'.1 e
      exact (h.pb.pv k hk).2.2.2 (by rw [← e2]; exact hk)
  · refine h.pr.kept (S := (u.ownBlock).toList) ((Turned.refl _ _).grown hg (fun k hk => .inl (by rw [hk]; simp))) ?_ ?_
    · intro e; simp at e; exact (h.pb.pu _ e).2.1 rfl
    · intro e; simp at e; exact (h.pb.pu _ e).2.2 rfl

/-- What the round of RingOrder bears: what was put is what was taken and what is there. -/
def OrdInv (w wr : World) (R G m : Nat) (v u : Value) (i : Nat) : Prop :=
  ∃ xs ys rl : List Int, OrdSt w wr R G m v u xs ys rl ∧ xs = ys ++ rl ∧ xs.length ≤ 400 * i

theorem OrdInv.step {w wr : World} {R G m : Nat} {v u : Value} {xs ys rl zs : List Int} {q i x : Nat} (h : OrdSt w wr R G m v u (xs ++ zs.take q) (ys ++ (rl ++ zs.take q).take x) ((rl ++ zs.take q).drop x)) (he : xs = ys ++ rl) (hl : xs.length ≤ 400 * i) (hq : q ≤ 400) :
    OrdInv w wr R G m v u (i + 1) := by
  refine ⟨_, _, _, h, ?_, ?_⟩
  · rw [List.append_assoc, List.take_append_drop, he, List.append_assoc]
  · simp; omega

/-- A slice that is owned, as append and the conversion ask it. -/
theorem own_lies {w : World} {base : Nat} {v : Value} {n : Nat} {zs : List Int} (h : w.ownsRow base 5 1 v n (zs.map (Value.int .u8))) :
    ∃ a cap, v = .slice a n cap ∧ n ≤ cap ∧ cap ≤ maxLen ∧ (a = none → n = 0 ∧ cap = 0) ∧ Lies w a n zs [] := by
  obtain ⟨a, cap, rfl, h1, h2, h3, _⟩ := owns_shape h
  obtain ⟨a1, cap1, e, _, _, h5⟩ := lies_own h [] (by simp)
  obtain ⟨rfl, rfl⟩ : a = a1 ∧ cap = cap1 := by simpa using e
  exact ⟨a, cap, rfl, h1, h2, h3, h5⟩

set_option maxRecDepth 100000 in
set_option maxHeartbeats 4000000 in
theorem order_any (mo : Int) (a : Option Addr) (len cap : Nat) (acts : List ActV) (w : World) (hm1 : 0 ≤ mo) (hm2 : mo ≤ 65535) (ha : ActsAt w a len acts) :
    Calls Try.prog 3 #[.int .u16 mo, .slice a len cap] w fun e w' => e = .returned (.bool true) ∧ Turned [] w w' := by
  obtain ⟨mn, rfl⟩ := Int.eq_ofNat_of_zero_le hm1
  have HA := Lib.hid ha
  clear ha
  go_enter Try.func3, Try.ntmps3
  go_wp2_with fail
  obtain ⟨m, hmm⟩ : ∃ m : Nat, 1 + (mn : Int) % 300 = m := ⟨1 + mn % 300, by omega⟩
  rw [hmm]
  have hmb : 1 ≤ m ∧ m ≤ 300 := by omega
  clear hmm hm1 hm2
  refine (new_is m w (by omega) (by omega)).mono ?_
  rintro e w1 ⟨R, G, rfl, hr, lR, lG, ht⟩
  have hlt := hr.lt
  have H0 : Hid (OrdInv w ((w1.alloc (.cells #[] 5)).alloc (.cells #[] 5)) R G m (.slice (some ⟨w1.heap.size, 0, none⟩) 0 0) (.slice (some ⟨w1.heap.size + 1, 0, none⟩) 0 0) 0) := by
    have hsz := ht.size
    refine Lib.hid ⟨[], [], [], ⟨?_, ?_, hr.kept (S := []) (((Turned.refl _ _).alloc _).alloc _) (by simp) (by simp), ⟨?_, ?_⟩, (ht.alloc _).alloc _, lR, lG⟩, rfl, Nat.zero_le _⟩
    · exact (World.ownsRow_made w1 #[] 0 hsz (Nat.zero_le _) rfl).alloc _
    · have := World.ownsRow_made (e := 5) (size := 1) (w1.alloc (.cells #[] 5)) #[] 0 (base := w.heap.size) (by simp; omega) (Nat.zero_le _) rfl
      simpa using this
    · intro k hk
      obtain rfl : w1.heap.size = k := Option.some.inj hk
      exact ⟨hsz, by omega, by omega, fun e => by have := Option.some.inj e; simp at this⟩
    · intro k hk
      obtain rfl : w1.heap.size + 1 = k := Option.some.inj hk
      exact ⟨by omega, by omega, by omega⟩
  clear hr ht
  go_wp2
  go_loopw [7, 8, 9] (fun v u i wr => ∃ j : Nat, j ≤ 100 ∧ i = .int .i64 j ∧ OrdInv w wr R G m v u j) (fun _ _ i _ => 100 - (intOf i).toNat)
  case atStart => exact ⟨0, by omega, rfl, H0.out⟩
  case round =>
    obtain ⟨j, hj, rfl, hI⟩ := hrel
    obtain ⟨v, rfl⟩ : ∃ v, v = u7 := ⟨_, rfl⟩
    obtain ⟨u, rfl⟩ : ∃ u, u = u8 := ⟨_, rfl⟩
    have HI := Lib.hid hI
    clear hI H0
    by_cases h1 : j < len
    · by_cases h2 : j < 100
      · obtain ⟨xs, ys, rl, hst, he, hl⟩ := HI.out
        obtain ⟨b, o, kind, x, ba, bl, bc, bz, rfl, -, hw1, hw2, hv1, hv2, hv3, hv4⟩ := HA.out.at j h1
        unfold maxLen at hv2
        have hd2 := hst.pt.cell hw2 (by simp)
        have HW1 := Lib.hid hw1
        have HS := Lib.hid hst
        have HE := Lib.hid he
        have hW := hst.pt.size
        clear hst he HI hw1 hw2
        obtain ⟨q0, hq0⟩ : ∃ q0, q0 = min bl 400 := ⟨_, rfl⟩
        obtain ⟨zs, hzs⟩ : ∃ zs, zs = bz.take q0 := ⟨_, rfl⟩
        have HN := Lib.hid (show ba = none → q0 = 0 ∧ bc = 0 from fun e => by have := hv3 e; omega)
        have HZ := Lib.hid (show Lies w ba q0 zs [] by rw [hzs]; exact hv4.cut q0 (by omega))
        have hq1 : q0 ≤ 400 := by omega
        have hq2 : bl ≤ 400 ∧ bl = q0 ∨ 400 < bl ∧ q0 = 400 := by omega
        clear hq0 hzs hv3 hv4
        rcases hq2 with ⟨hbl, rfl⟩ | ⟨hbl, rfl⟩
        all_goals
          go_wp2_with (at_builtin; refine copy_bytes rfl _ _ rfl rfl ba _ bc zs [] rfl HN.out (HZ.out.kept (S' := []) HS.out.pt (by simp)) (by omega) ?_; intro v' w2 ho ht2; obtain ⟨a', cap', rfl, hq5, hq6, -, -⟩ := owns_shape ho; have HO := Lib.hid ho; have HT2 := Lib.hid ht2; clear ho ht2; unfold maxLen at hq6)
          obtain ⟨a1, cap1, ha1, -, -, hlies⟩ := lies_own HO.out [R, G] (fun k hk e => by have := (HO.out.lt k e).1; have := HS.out.pr.lt; simp at hk; omega)
          obtain ⟨rfl, rfl⟩ : a' = a1 ∧ cap' = cap1 := by simpa using ha1
          have HS2 := Lib.hid (HS.out.new HT2.out)
          clear HS HO HT2 ha1
          refine (put_q HS2.out.pr a' _ cap' zs (by unfold maxLen; omega) hlies).mono ?_
          rintro e w3 ⟨q, hqa, -, -, rfl, hr3, ht3⟩
          have HS3 := Lib.hid (HS2.out.ring ht3 hr3)
          have HNq := Lib.hid (show ba = none → q = 0 ∧ bc = 0 from fun e => by have := HN.out e; omega)
          have HZq := Lib.hid (HZ.out.cut q hqa)
          have hW3 := HS3.out.pt.size
          clear HS2 hr3 ht3 hlies hd2
          go_wp2_with (at_builtin; refine append_bytes rfl (.tmp 55) (.tmp 58) rfl w.heap.size v xs.length xs rfl HS3.out.pv ba q bc (zs.take q) [] rfl HNq.out (HZq.out.kept (S' := []) HS3.out.pt (by simp)) (by omega) hW3 ?_; intro v4 w4 ho4 hg4 hl4; have HS4 := Lib.hid (HS3.out.app1 ho4 hg4 hl4); have hd1 := HS4.out.pt.cell HW1.out (by simp); clear ho4 hg4 hl4 HS3)
          refine (take_is HS4.out.pr x).mono ?_
          rintro e w5 ⟨v5, rfl, ho5, hr5, ht5⟩
          have HS5 := Lib.hid (HS4.out.ring ht5 hr5)
          obtain ⟨a5, cap5, rfl, hc1, hc2, hn5, hl5⟩ := own_lies ho5
          unfold maxLen at hc2
          have HN5 := Lib.hid hn5
          have HL5 := Lib.hid hl5
          have hyl : ys.length + rl.length = xs.length := by rw [HE.out]; simp
          have hyl' : ys.length ≤ 40000 := by omega
          have ht5' : ((rl ++ zs.take q).take x.toNat).length ≤ 65536 := by
            have := HS4.out.pr.le
            simp only [List.length_take]
            omega
          obtain ⟨tk, htk⟩ : ∃ tk, tk = (rl ++ zs.take q).take x.toNat := ⟨_, rfl⟩
          rw [← htk] at HN5 HL5 ht5' ⊢
          have HTK := Lib.hid htk
          clear htk
          have hW5 := HS5.out.pt.size
          clear ho5 ht5 hr5 HS4 hl5 hn5 hyl hd1
          go_wp2_with (at_builtin; refine append_bytes rfl (.tmp 60) (.tmp 67) rfl w.heap.size u ys.length ys rfl HS5.out.pu a5 _ cap5 _ [] rfl HN5.out HL5.out (by omega) hW5 ?_; intro u6 w6 ho6 hg6 hl6; have hst6 := HS5.out.app2 ho6 hg6 hl6; rw [HTK.out] at hst6; have HI6 := Lib.hid (OrdInv.step hst6 HE.out hl (by omega)); clear hst6; clear ho6 hg6 hl6 HS5)
          go_roundw
          case rel => exact ⟨j + 1, by omega, by go_num, HI6.out⟩
          case measure => simp [intOf]; omega
      · obtain ⟨xs, ys, rl, hst, he, hl⟩ := HI.out
        have hle := hst.pr.le
        have hW := hst.pt.size
        have HS := Lib.hid hst
        have HE := Lib.hid he
        have hyl : ys.length + rl.length = xs.length := by rw [he]; simp
        have hyl' : ys.length ≤ 40000 := by omega
        have hrl : rl.length ≤ m := hle.1
        clear HI hst he hyl
        go_wp2_with fail
        refine (peek_is HS.out.pr m).mono ?_
        rintro e w2 ⟨v2, rfl, ho2, -, ht2⟩
        rw [Int.toNat_natCast, List.take_of_length_le hrl] at ho2
        have HS2 := Lib.hid (HS.out.new ht2)
        have hW2 := HS2.out.pt.size
        obtain ⟨a2, cap2, rfl, hc1, hc2, hn2, hl2⟩ := own_lies ho2
        unfold maxLen at hc2
        have HN2 := Lib.hid hn2
        have HL2 := Lib.hid hl2
        clear ho2 ht2 HS hl2 hn2
        go_wp2_with (first | (at_builtin; refine append_bytes rfl (.tmp 69) (.tmp 72) rfl w.heap.size u ys.length ys rfl HS2.out.pu a2 rl.length cap2 rl [] rfl HN2.out HL2.out (by omega) hW2 ?_; intro u3 w3 ho3 hg3 hl3; have hst3 := HS2.out.app2 ho3 hg3 hl3; obtain ⟨a3, cap3, rfl, hc3, hc4, -, hl4⟩ := own_lies ho3; obtain ⟨a4, cap4, rfl, hc5, hc6, -, hl6⟩ := own_lies hst3.pv; have cv1 := conv_lies hl4 cap3; rw [← HE.out] at cv1; have cv2 := conv_lies hl6 cap4; have HS3 := Lib.hid hst3.pt; clear hst3 ho3 hg3 hl3 hl4 hl6 hc3 hc4 hc5 hc6) | (go_at_call 15; refine (lives_any _).mono ?_; rintro e w7 ⟨rfl, ht7⟩; have HT7 := Lib.hid (HS3.out.trans ht7); clear ht7))
        go_ret
        exact ⟨rfl, HT7.out⟩
    · obtain ⟨xs, ys, rl, hst, he, hl⟩ := HI.out
      have hle := hst.pr.le
      have hW := hst.pt.size
      have HS := Lib.hid hst
      have HE := Lib.hid he
      have hyl : ys.length + rl.length = xs.length := by rw [he]; simp
      have hyl' : ys.length ≤ 40000 := by omega
      have hrl : rl.length ≤ m := hle.1
      clear HI hst he hyl
      go_wp2_with fail
      refine (peek_is HS.out.pr m).mono ?_
      rintro e w2 ⟨v2, rfl, ho2, -, ht2⟩
      rw [Int.toNat_natCast, List.take_of_length_le hrl] at ho2
      have HS2 := Lib.hid (HS.out.new ht2)
      have hW2 := HS2.out.pt.size
      obtain ⟨a2, cap2, rfl, hc1, hc2, hn2, hl2⟩ := own_lies ho2
      unfold maxLen at hc2
      have HN2 := Lib.hid hn2
      have HL2 := Lib.hid hl2
      clear ho2 ht2 HS hl2 hn2
      go_wp2_with (first | (at_builtin; refine append_bytes rfl (.tmp 69) (.tmp 72) rfl w.heap.size u ys.length ys rfl HS2.out.pu a2 rl.length cap2 rl [] rfl HN2.out HL2.out (by omega) hW2 ?_; intro u3 w3 ho3 hg3 hl3; have hst3 := HS2.out.app2 ho3 hg3 hl3; obtain ⟨a3, cap3, rfl, hc3, hc4, -, hl4⟩ := own_lies ho3; obtain ⟨a4, cap4, rfl, hc5, hc6, -, hl6⟩ := own_lies hst3.pv; have cv1 := conv_lies hl4 cap3; rw [← HE.out] at cv1; have cv2 := conv_lies hl6 cap4; have HS3 := Lib.hid hst3.pt; clear hst3 ho3 hg3 hl3 hl4 hl6 hc3 hc4 hc5 hc6) | (go_at_call 15; refine (lives_any _).mono ?_; rintro e w7 ⟨rfl, ht7⟩; have HT7 := Lib.hid (HS3.out.trans ht7); clear ht7))
      go_ret
      exact ⟨rfl, HT7.out⟩

end Go.Proofs.Yteaglbfodeineaa
