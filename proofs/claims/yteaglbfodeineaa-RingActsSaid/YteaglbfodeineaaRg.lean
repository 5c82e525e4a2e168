/-
  The walk of RingNews: which buffers there are, and what is told of one that there is none of.
-/
import Derived.Test.YteaglbfodeineaaRf
import Derived.Test.YteaglbfodeineaaApp
namespace Go.Proofs.Yteaglbfodeineaa
open Go.RowKit

theorem Lies.cells {w : World} {a : Option Addr} {len : Nat} {zs : List Int} {S : List Nat} (h : Lies w a len zs S) : CellsAt w a (zs.map (Value.int .u8)) := by
  intro j u hj
  obtain ⟨hl, h⟩ := h
  have hjl : j < zs.length := by
    rcases Nat.lt_or_ge j zs.length with h | h
    · exact h
    · simp [List.getElem?_eq_none (show (zs.map (Value.int .u8)).length ≤ j by simpa using h)] at hj
  rcases h with h0 | ⟨b, o, rfl, _, hc⟩
  · omega
  · refine ⟨_, rfl, ?_⟩
    have : (⟨b, o, none⟩ : Addr).add j = ⟨b, o + j, none⟩ := by unfold Addr.add; split <;> simp_all
    rw [this, hc j (by omega)]
    simp [hjl] at hj ⊢
    exact hj

/-- append of bytes onto bytes that the call owns, at the operation. -/
theorem append_bytes {w : World} {ops : Array Oper} {rest : List Oper} {o : Oper} {a : Act} {Q : Exit → Act → World → Prop} (hw : Region.wanted o (yielded ops a.tmps) = true) (s x : Operand)
    (ho : o.op = .call { callee := .builtin .append, args := #[s, x], argTypes := #[26, 26] }) (base : Nat) (v : Value) (n : Nat) (xs : List Int) (hs : a.eval s = v) (hown : w.ownsRow base 5 1 v n (xs.map (Value.int .u8)))
    (ax : Option Addr) (m c : Nat) (zs : List Int) (S : List Nat) (hx : a.eval x = .slice ax m c) (hnil : ax = none → m = 0 ∧ c = 0) (hz : Lies w ax m zs S) (hm : n + m ≤ 1048576) (hbase : base ≤ w.heap.size)
    (h : ∀ v' w', w'.ownsRow base 5 1 v' (n + m) ((xs ++ zs).map (Value.int .u8)) → w.grownBy w' v.ownBlock → (v'.ownBlock = v.ownBlock ∨ v'.ownBlock = some w.heap.size) → wpList Try.prog ops Q rest (a.put o.dst v') w') :
    wpList Try.prog ops Q (o :: rest) a w := by
  obtain ⟨i0, hi, hz0, hz1, hz2⟩ := info_parts Try.info5
  refine wpList_append_any hw s x 26 ho base 5 i0 (.int .u8 0) 1 1 Try.underlying26 hi hz0 hz1 hz2 rfl (by omega) v n _ hs hown ax m c (zs.map (Value.int .u8)) hx (by simp [hz.1]) hnil hz.cells (u8_oneCell _)
    (by unfold maxLen; omega) (by omega) hbase ?_
  intro v' w' h1 h2 _ h4
  exact h v' w' (by rw [List.map_append]; exact h1) h2 h4

/-- append([]byte{}, b...), at the operation: a copy of its own. -/
theorem copy_bytes {w : World} {ops : Array Oper} {rest : List Oper} {o : Oper} {a : Act} {Q : Exit → Act → World → Prop} (hw : Region.wanted o (yielded ops a.tmps) = true) (s x : Operand)
    (ho : o.op = .call { callee := .builtin .append, args := #[s, x], argTypes := #[26, 26] }) (hs : a.eval s = .slice (some ⟨w.heap.size, 0, none⟩) 0 0)
    (ax : Option Addr) (m c : Nat) (zs : List Int) (S : List Nat) (hx : a.eval x = .slice ax m c) (hnil : ax = none → m = 0 ∧ c = 0) (hz : Lies w ax m zs S) (hm : m ≤ 65536)
    (h : ∀ v' w', w'.ownsRow w.heap.size 5 1 v' m (zs.map (Value.int .u8)) → Turned [] w w' → wpList Try.prog ops Q rest (a.put o.dst v') w') :
    wpList Try.prog ops Q (o :: rest) a (w.alloc (.cells #[] 5)) := by
  have ho' : (w.alloc (.cells #[] 5)).ownsRow w.heap.size 5 1 (.slice (some ⟨w.heap.size, 0, none⟩) 0 0) 0 ([].map (Value.int .u8)) := World.ownsRow_made w #[] 0 (Nat.le_refl _) (Nat.zero_le _) rfl
  have hc : Lies (w.alloc (.cells #[] 5)) ax m zs S := Lies.kept (S' := []) hz ((Turned.refl [] w).alloc _) (by simp)
  refine append_bytes hw s x ho w.heap.size _ 0 [] hs ho' ax m c zs S hx hnil hc (by omega) (by simp) ?_
  intro v' w' h1 h2 _
  refine h v' w' (by simpa using h1) (((Turned.refl [] w).alloc _).grown h2 (fun k hk => ?_))
  simp [Value.ownBlock] at hk
  exact .inr (by omega)

theorem news_in (m : Int) (a : Option Addr) (len cap : Nat) (n : Int) (w : World) (h1 : 1 ≤ m) (h2 : m ≤ 4096) :
    Calls Try.prog 6 #[.int .i64 m, .slice a len cap, .int .i64 n] w fun e w' => e = .returned (.bool true) ∧ Turned [] w w' := by
  obtain ⟨k, rfl⟩ := Int.eq_ofNat_of_zero_le (show 0 ≤ m by omega)
  go_enter Try.func6, Try.ntmps6
  go_wp2_with fail
  refine (new_is k w (by omega) (by omega)).mono ?_
  rintro e w1 ⟨R, G, rfl, hr, lR, lG, ht⟩
  go_wp2_with fail
  refine (len_is hr).mono ?_
  rintro e w2 ⟨rfl, rfl⟩
  go_wp2_with fail
  refine (room_is hr).mono ?_
  rintro e w3 ⟨rfl, kk, rfl⟩
  have ht' := ht.drewN kk
  go_wp2_with fail
  refine (lives_any _).mono ?_
  rintro e w4 ⟨rfl, ht2⟩
  go_wp2
  go_ret
  exact ⟨rfl, ht'.trans ht2⟩

theorem Lies.cut {w : World} {a : Option Addr} {len : Nat} {zs : List Int} {S : List Nat} (h : Lies w a len zs S) (k : Nat) (hk : k ≤ len) : Lies w a k (zs.take k) S := by
  obtain ⟨hl, h⟩ := h
  refine ⟨by simp; omega, ?_⟩
  rcases h with h0 | ⟨b, o, h1, h2, h3⟩
  · exact .inl (by omega)
  · refine .inr ⟨b, o, h1, h2, fun j hj => ?_⟩
    rw [h3 j (by omega)]
    simp [List.getElem?_take_of_lt hj]

set_option maxHeartbeats 1000000 in
set_option maxRecDepth 100000 in
set_option maxHeartbeats 1000000 in
theorem news_out (m : Int) (a : Option Addr) (len cap : Nat) (zs : List Int) (n : Int) (w : World) (hm : m < 1 ∨ 4096 < m) (hlc : len ≤ cap) (hcm : cap ≤ maxLen) (hnil : a = none → len = 0 ∧ cap = 0)
    (hz : Lies w a len zs []) :
    Calls Try.prog 6 #[.int .i64 m, .slice a len cap, .int .i64 n] w fun e w' => e = .returned (.bool true) ∧ Turned [] w w' := by
  unfold maxLen at hcm
  by_cases hlen : 400 < len
  · have HN := Lib.hid (show a = none → 400 = 0 ∧ cap = 0 from fun e => by have := hnil e; omega)
    have HZ := Lib.hid (hz.cut 400 (by omega))
    clear hnil hz
    rcases hm with hm | hm
    all_goals
      try have h' : ¬ m < 1 := by omega
      go_enter Try.func6, Try.ntmps6
      go_wp2_with fail
      refine (new_none m w (by omega)).mono ?_
      rintro e w0 ⟨rfl, rfl⟩
      go_wp2_with fail
      refine (clear_nil _).mono ?_
      rintro e w0 ⟨rfl, rfl⟩
      go_wp2_with fail
      refine (len_nil _).mono ?_
      rintro e w0 ⟨rfl, rfl⟩
      go_wp2_with fail
      refine (room_nil _).mono ?_
      rintro e w0 ⟨rfl, rfl⟩
      go_wp2_with (at_builtin; refine copy_bytes rfl _ _ rfl rfl a 400 cap _ [] rfl HN.out HZ.out (by omega) ?_; intro v' w1 ho ht; obtain ⟨a', cap', rfl, hq1, hq2, hq3, hq4⟩ := owns_shape ho; clear ho hq3 hq4; have HT := Lib.hid ht; clear ht)
      refine (put_nil _ _ _ _ (by unfold maxLen at *; omega)).mono ?_
      rintro e w0 ⟨rfl, rfl⟩
      go_wp2_with fail
      refine (take_nil _ _).mono ?_
      rintro e w0 ⟨rfl, rfl⟩
      go_wp2_with fail
      refine (peek_nil _ _ (by omega)).mono ?_
      rintro e w0 ⟨rfl, rfl⟩
      go_wp2_with fail
      refine (lives_any _).mono ?_
      rintro e w4 ⟨rfl, ht2⟩
      go_wp2
      go_ret
      exact ⟨rfl, HT.out.trans ht2⟩
  · have HN := Lib.hid hnil
    have HZ := Lib.hid hz
    clear hnil hz
    rcases hm with hm | hm
    all_goals
      try have h' : ¬ m < 1 := by omega
      go_enter Try.func6, Try.ntmps6
      go_wp2_with fail
      refine (new_none m w (by omega)).mono ?_
      rintro e w0 ⟨rfl, rfl⟩
      go_wp2_with fail
      refine (clear_nil _).mono ?_
      rintro e w0 ⟨rfl, rfl⟩
      go_wp2_with fail
      refine (len_nil _).mono ?_
      rintro e w0 ⟨rfl, rfl⟩
      go_wp2_with fail
      refine (room_nil _).mono ?_
      rintro e w0 ⟨rfl, rfl⟩
      go_wp2_with (at_builtin; refine copy_bytes rfl _ _ rfl rfl a len cap _ [] rfl HN.out HZ.out (by omega) ?_; intro v' w1 ho ht; obtain ⟨a', cap', rfl, hq1, hq2, hq3, hq4⟩ := owns_shape ho; clear ho hq3 hq4; have HT := Lib.hid ht; clear ht)
      refine (put_nil _ _ _ _ (by unfold maxLen at *; omega)).mono ?_
      rintro e w0 ⟨rfl, rfl⟩
      go_wp2_with fail
      refine (take_nil _ _).mono ?_
      rintro e w0 ⟨rfl, rfl⟩
      go_wp2_with fail
      refine (peek_nil _ _ (by omega)).mono ?_
      rintro e w0 ⟨rfl, rfl⟩
      go_wp2_with fail
      refine (lives_any _).mono ?_
      rintro e w4 ⟨rfl, ht2⟩
      go_wp2
      go_ret
      exact ⟨rfl, HT.out.trans ht2⟩

end Go.Proofs.Yteaglbfodeineaa
