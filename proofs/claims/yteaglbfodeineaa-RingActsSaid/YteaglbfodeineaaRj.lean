/-
  The walks of the reference's Take and Put.
-/
import Derived.Test.YteaglbfodeineaaRow
namespace Go.Proofs.Yteaglbfodeineaa
open Go.RowKit

theorem Lies.from {w : World} {b o len : Nat} {zs : List Int} {S : List Nat} (h : Lies w (some ⟨b, o, none⟩) len zs S) (k : Nat) (hk : k ≤ len) : Lies w (some ⟨b, o + k, none⟩) (len - k) (zs.drop k) S := by
  obtain ⟨hl, h⟩ := h
  refine ⟨by simp; omega, ?_⟩
  rcases h with h0 | ⟨b', o', h1, h2, h3⟩
  · exact .inl (by omega)
  · simp only [Option.some.injEq, Addr.mk.injEq, and_true] at h1
    obtain ⟨rfl, rfl⟩ := h1
    refine .inr ⟨b, o + k, rfl, h2, fun j hj => ?_⟩
    rw [Nat.add_assoc, h3 (k + j) (by omega)]
    simp [List.getD_eq_getElem?_getD]

theorem Lies.none_of {w : World} {a a' : Option Addr} {zs : List Int} {S : List Nat} (h : Lies w a 0 zs S) : Lies w a' 0 zs S := ⟨h.1, .inl rfl⟩

/-- b[k:], in every world: where it begins. -/
theorem slice_from (a : Option Addr) (len cap k : Nat) (hk : k ≤ len) (hlc : len ≤ cap) (hnil : a = none → len = 0 ∧ cap = 0) :
    ∃ a' : Option Addr, (∀ W, (Instr.slice 26 (.slice a len cap) (some (.int .i64 (k : Int))) none none).run Try.prog W = .ok (.slice a' (len - k) (cap - k)) W) ∧
      (∀ (w : World) (bs : List Int) (S : List Nat), Lies w a len bs S → Lies w a' (len - k) (bs.drop k) S) ∧ (a' = none → len - k = 0 ∧ cap - k = 0) := by
  have hrun : ∀ W, (Instr.slice 26 (.slice a len cap) (some (.int .i64 (k : Int))) none none).run Try.prog W = .ok (.slice (if cap = k then a else a.map (·.add k)) (len - k) (cap - k)) W := fun W => by
    rw [run_slice_l (P := Try.prog) W 26 a len cap (by kernel_rfl) .i64 k (by omega) (by omega)]
    have : (sizeOf (Try.prog.elem 26)).run Try.prog W = .ok 1 W := by rw [show Try.prog.elem 26 = 5 by kernel_rfl]; exact Try.sizeOf5 W
    rw [this]
    simp [Result.andThen, sliced]
  refine ⟨_, hrun, fun w bs S h => ?_, fun e => ?_⟩
  · by_cases hc : cap = k
    · rw [if_pos hc]
      have h0 : len - k = 0 := by omega
      exact ⟨by rw [List.length_drop, h.1], .inl h0⟩
    · rw [if_neg hc]
      rcases h.2 with h0 | ⟨b, o, rfl, _⟩
      · exact ⟨by rw [List.length_drop, h.1], .inl (by omega)⟩
      · have e : (Option.map (fun x : Addr => x.add k) (some ⟨b, o, none⟩)) = some ⟨b, o + k, none⟩ := by
          simp only [Option.map_some, Go.WideShapes.add_plain]
        rw [e]
        exact h.from k hk
  · by_cases hc : cap = k
    · omega
    · rw [if_neg hc] at e
      have := hnil (by simpa using e)
      omega

set_option maxHeartbeats 1000000 in
theorem rtake_any (a : Option Addr) (len cap : Nat) (n : Int) (bs : List Int) (S : List Nat) (w : World) (hlc : len ≤ cap) (hcm : cap ≤ maxLen) (hnil : a = none → len = 0 ∧ cap = 0) (hz : Lies w a len bs S) :
    Calls Try.prog 16 #[.slice a len cap, .int .i64 n] w fun e w' => ∃ (k : Nat) (a' : Option Addr), k ≤ len ∧ e = .returned (.tuple #[.slice a k cap, .slice a' (len - k) (cap - k)]) ∧ (∃ q, w' = w.drewN q) ∧
      bs.take k = bs.take n.toNat ∧ bs.drop k = bs.drop n.toNat ∧ Lies w a' (len - k) (bs.drop k) S ∧ (a' = none → len - k = 0 ∧ cap - k = 0) := by
  unfold maxLen at hcm
  obtain ⟨k, hk⟩ : ∃ k, k = min len n.toNat := ⟨_, rfl⟩
  have hk0 : k ≤ len := by omega
  have hk1 : (k = len ∧ (k : Int) ≤ n) ∨ (k < len ∧ (k : Int) = n) ∨ (k = 0 ∧ n < 0) := by omega
  have ht : bs.take k = bs.take n.toNat ∧ bs.drop k = bs.drop n.toNat := by
    have := hz.1
    rcases Nat.le_total len n.toNat with c | c
    · rw [hk, Nat.min_eq_left c, List.take_of_length_le (by omega), List.take_of_length_le (by omega), List.drop_of_length_le (by omega), List.drop_of_length_le (by omega)]; exact ⟨rfl, rfl⟩
    · rw [hk, Nat.min_eq_right c]; exact ⟨rfl, rfl⟩
  obtain ⟨a', hsl, hl', hn'⟩ := slice_from a len cap k hk0 hlc hnil
  have hfin : bs.take k = bs.take n.toNat ∧ bs.drop k = bs.drop n.toNat ∧ Lies w a' (len - k) (bs.drop k) S ∧ (a' = none → len - k = 0 ∧ cap - k = 0) := ⟨ht.1, ht.2, hl' w bs S hz, hn'⟩
  have HF := Lib.hid hfin
  have hk2 : len ≤ k ∨ n ≤ k := by omega
  have hk3 : (k : Int) ≤ n ∨ k ≤ 0 := by omega
  clear hk ht hz hnil hk1 hl' hn' hfin
  go_enter Try.func16, Try.ntmps16
  go_wp2
  go_loop [6] (fun i => ∃ j : Nat, j ≤ k ∧ i = .int .i64 j) (fun i => k - (intOf i).toNat)
  case atStart => exact ⟨0, by omega, rfl⟩
  case round =>
    obtain ⟨j, hj, rfl⟩ := hrel
    by_cases hlt : j < k
    · have h1 : j < len := by omega
      have h2 : (j : Int) < n := by omega
      go_wp2
      go_round
      case rel => exact ⟨j + 1, by omega, by go_num⟩
      case measure => simp [intOf]; omega
    · obtain rfl : j = k := by omega
      have hj1 : j ≤ cap := by omega
      by_cases h1 : j < len
      · have h2 : ¬ (j : Int) < n := by omega
        go_wp2
        go_quiet (fail)
        go_wp2
        go_ret2
        exact ⟨j, a', hk0, rfl, ⟨_, rfl⟩, HF.out⟩
      · go_wp2
        go_quiet (fail)
        go_wp2
        go_ret2
        exact ⟨j, a', hk0, rfl, ⟨_, rfl⟩, HF.out⟩

theorem one_lies (w : World) (y : Int) (S : List Nat) (hS : w.heap.size ∉ S) : Lies (w.alloc (.cells #[.int .u8 y] 5)) (some ⟨w.heap.size, 0, none⟩) 1 [y] S := by
  refine ⟨rfl, .inr ⟨_, _, rfl, hS, fun j hj => ?_⟩⟩
  obtain rfl : j = 0 := by omega
  exact World.cell?_alloc_mark _ _ _ _ _

set_option maxRecDepth 100000 in
set_option maxHeartbeats 1000000 in
theorem rput_any (m : Nat) (al : Option Addr) (ll cl : Nat) (ls : List Int) (ab : Option Addr) (lb cb : Nat) (zs : List Int) (S S' : List Nat) (w : World) (hm : ll ≤ m) (hm2 : m ≤ 4096) (hlb : lb ≤ cb) (hcb : cb ≤ maxLen)
    (hnl : al = none → ll = 0 ∧ cl = 0) (hl : Lies w al ll ls S) (hb : Lies w ab lb zs S') :
    Calls Try.prog 18 #[.int .i64 m, .slice al ll cl, .slice ab lb cb] w fun e w' => ∃ (v : Value) (q : Nat), e = .returned v ∧ q ≤ lb ∧ (q = lb ∨ ll + q = m) ∧ ll + q ≤ m ∧
      w'.ownsRow w.heap.size 5 1 v (ll + q) ((ls ++ zs.take q).map (Value.int .u8)) ∧ Turned [] w w' := by
  obtain ⟨q, hq⟩ : ∃ q, q = min lb (m - ll) := ⟨_, rfl⟩
  have hq1 : q ≤ lb := by omega
  have hq2 : q = lb ∨ ll + q = m := by omega
  have hq3 : ll + q ≤ m := by omega
  unfold maxLen at hcb
  have HB := Lib.hid hb
  have HL := Lib.hid hl
  have HN := Lib.hid hnl
  have HQ2 := Lib.hid hq2
  have hq4 : lb ≤ q ∨ m ≤ ll + q := by omega
  clear hq hb hl hnl hq2
  go_enter Try.func18, Try.ntmps18
  go_wp2_with (at_builtin; refine copy_bytes rfl _ _ rfl rfl al ll cl ls S rfl HN.out HL.out (by omega) ?_; intro v' w2 ho ht2; have HO := Lib.hid ho; have HT2 := Lib.hid ht2; clear ho ht2)
  go_loopw [7, 8] (fun v i wr => ∃ j : Nat, j ≤ q ∧ i = .int .i64 j ∧ wr.ownsRow w.heap.size 5 1 v (ll + j) ((ls ++ zs.take j).map (Value.int .u8)) ∧ Turned [] w wr) (fun _ i _ => q - (intOf i).toNat)
  case atStart => exact ⟨0, by omega, rfl, by simpa using HO.out, HT2.out⟩
  case round =>
    obtain ⟨j, hj, rfl, ho, ht⟩ := hrel
    obtain ⟨a7, c7, rfl, h71, h72, -, -⟩ := owns_shape ho
    unfold maxLen at h72
    have HO' := Lib.hid ho
    have HT' := Lib.hid ht
    have hW := ht.size
    clear HO HT2 ho ht
    by_cases hlt : j < q
    · have h1 : j < lb := by omega
      have h2 : ll + j < m := by omega
      obtain ⟨hzl, hz⟩ := HB.out
      rcases hz with hz | ⟨b, o, rfl, -, hc⟩
      · omega
      have hcell := HT'.out.cell (hc j h1) (by simp)
      obtain ⟨y, hy⟩ : ∃ y, y = zs.getD j 0 := ⟨_, rfl⟩
      rw [← hy] at hcell
      have HY := Lib.hid hy
      have HZL := Lib.hid hzl
      clear hy hc hzl
      go_wp2_with (at_builtin; refine append_bytes rfl (.tmp 24) (.tmp 29) rfl w.heap.size _ (ll + j) _ rfl (HO'.out.alloc _) (some ⟨wr.heap.size, 0, none⟩) 1 1 [y] [] rfl (by simp) (one_lies _ _ _ (by simp)) (by omega) (by simp; omega) ?_; intro v6 w6 ho6 hg6 hl6; have HO6 := Lib.hid ho6; have HT6 := Lib.hid ((HT'.out.alloc _).grown hg6 (fun k hk => .inr (HO'.out.lt k hk).1)); clear ho6 hg6 hl6)
      go_roundw
      case rel =>
        refine ⟨j + 1, by omega, by go_num, ?_, HT6.out⟩
        have e : ls ++ zs.take (j + 1) = (ls ++ zs.take j) ++ [y] := by
          have hjl : j < zs.length := by have := HZL.out; omega
          rw [List.take_succ_eq_append_getElem hjl, List.append_assoc, HY.out]
          simp [hjl]
        rw [e]
        exact HO6.out
      case measure => simp [intOf]; omega
    · obtain rfl : j = q := by omega
      by_cases h1 : j < lb
      · have h2 : m ≤ ll + j := by omega
        go_wp2
        go_ret
        exact ⟨_, j, rfl, hq1, HQ2.out, hq3, HO'.out, HT'.out⟩
      · go_wp2
        go_ret
        exact ⟨_, j, rfl, hq1, HQ2.out, hq3, HO'.out, HT'.out⟩

/-- The reference's Take, said of the bytes that a slice shows. -/
theorem rtake_is (a : Option Addr) (cap : Nat) (n : Int) (bs : List Int) (S : List Nat) (w : World) (hlc : bs.length ≤ cap) (hcm : cap ≤ maxLen) (hnil : a = none → bs.length = 0 ∧ cap = 0) (hz : Lies w a bs.length bs S) :
    Calls Try.prog 16 #[.slice a bs.length cap, .int .i64 n] w fun e w' => ∃ (xs ys : List Int) (a' : Option Addr) (cap' : Nat), xs = bs.take n.toNat ∧ ys = bs.drop n.toNat ∧
      e = .returned (.tuple #[.slice a xs.length cap, .slice a' ys.length cap']) ∧ (∃ q, w' = w.drewN q) ∧ Lies w a xs.length xs S ∧ Lies w a' ys.length ys S ∧ ys.length ≤ cap' ∧ cap' ≤ maxLen ∧ (a' = none → ys.length = 0 ∧ cap' = 0) := by
  refine (rtake_any a bs.length cap n bs S w hlc hcm hnil hz).mono ?_
  rintro e w' ⟨k, a', hk, rfl, hw, h1, h2, h3, h4⟩
  have e1 : (bs.take n.toNat).length = k := by rw [← h1, List.length_take]; omega
  have e2 : (bs.drop n.toNat).length = bs.length - k := by rw [← h2, List.length_drop]
  refine ⟨_, _, a', cap - k, rfl, rfl, by rw [e1, e2], hw, by rw [e1, ← h1]; exact hz.cut k hk, by rw [e2, ← h2]; exact h3, by omega, by omega, fun e => ?_⟩
  have := h4 e
  omega

end Go.Proofs.Yteaglbfodeineaa
