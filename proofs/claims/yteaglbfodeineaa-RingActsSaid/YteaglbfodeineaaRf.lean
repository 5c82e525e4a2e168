/-
  The small living call of the ring's statements: it tells true.
-/
import Derived.Test.YteaglbfodeineaaRe
import Derived.Lib.SlBytesConst
import Derived.Laws.BytesArg
namespace Go.Proofs.Yteaglbfodeineaa
open Go.RowKit

/-- A slice that is owned lies apart from the blocks of S. -/
theorem lies_own {w : World} {base : Nat} {v : Value} {n : Nat} {zs : List Int} (h : w.ownsRow base 5 1 v n (zs.map (Value.int .u8))) (S : List Nat) (hS : ∀ k, k ∈ S → v.ownBlock ≠ some k) :
    ∃ a cap, v = .slice a n cap ∧ n ≤ cap ∧ cap ≤ maxLen ∧ Lies w a n zs S := by
  obtain ⟨a, cap, rfl, h1, h2, h3, h4⟩ := owns_shape h
  have hl : zs.length = n := by have := h.1; simpa using this
  refine ⟨a, cap, rfl, h1, h2, hl, ?_⟩
  cases a with
  | none => exact .inl (h3 rfl).1
  | some b =>
    obtain ⟨g, rfl⟩ := h4 b rfl
    refine .inr ⟨g, 0, rfl, fun e => hS g e rfl, fun j hj => ?_⟩
    rw [Nat.zero_add, h.cellAt j (by omega)]
    have : j < zs.length := by omega
    simp [this]

theorem Lies.kept {w w' : World} {a : Option Addr} {len : Nat} {zs : List Int} {S S' : List Nat} (h : Lies w a len zs S) (ht : Turned S' w w') (hS : ∀ k, k ∈ S' → k ∈ S) : Lies w' a len zs S := by
  refine ⟨h.1, ?_⟩
  rcases h.2 with h0 | ⟨b, o, h1, h2, h3⟩
  · exact .inl h0
  · exact .inr ⟨b, o, h1, h2, fun j hj => ht.cell (h3 j hj) (fun e => h2 (hS b e))⟩

theorem strOfNums_nil : strOfNums [] = ByteArray.empty := rfl

/-- string(x) of bytes that lie. -/
theorem conv_lies {w : World} {a : Option Addr} {n : Nat} {zs : List Int} {S : List Nat} (h : Lies w a n zs S) (cap : Nat) :
    (convert 26 9 (.slice a n cap)).run Try.prog w = .ok (.string (strOfNums zs)) w := by
  obtain ⟨hl, h⟩ := h
  rcases h with h0 | ⟨b, o, rfl, _, hc⟩
  · subst h0
    have : zs = [] := List.eq_nil_of_length_eq_zero hl
    subst this
    cases a with
    | none => rw [run_convert_bytes_nil w 26 5 Try.underlying26 Try.underlying5 _ _ 9 Try.underlying9, strOfNums_nil]
    | some ad =>
      rw [run_convert_bytes_string w 26 9 5 _ _ _ Try.underlying26 Try.underlying5 Try.underlying9, run_bytesToString w ad 0 cap []]
      · rfl
      · exact run_loadCells_list (P := Try.prog) w ad [] (fun j v hj => by simp at hj)
  · exact run_convert_bytes_arg w 26 5 Try.underlying26 Try.underlying5 b o n cap zs hl hc 9 Try.underlying9

set_option maxHeartbeats 1000000 in
theorem lives_any (w : World) : Calls Try.prog 15 #[] w fun e w' => e = .returned (.bool true) ∧ Turned [] w w' := by
  have kc := fun (w : World) (C : Array Value) (n c : Nat) => Lib.run_convert_bytes_const (P := Try.prog) w 26 5 C n c Try.underlying26 Try.underlying5
  go_enter Try.func15, Try.ntmps15
  go_wp2_with fail
  refine (new_is 3 w (by omega) (by omega)).mono ?_
  rintro e w1 ⟨R, G, rfl, hr, lR, lG, ht⟩
  go_wp2_with fail
  generalize hW : w1.alloc _ = W
  have hp : Calls Try.prog 12 #[.pointer (some ⟨R, 0, none⟩), .slice (some ⟨w1.heap.size, 0, none⟩) 4 4] W
      fun e w' => e = .returned (.int .i64 3) ∧ RingIs w' R G 3 [97, 98, 99] ∧ Turned [R, G] W w' := by
    subst hW
    have hlt := hr.lt
    refine (put_is (hr.kept (((Turned.refl [] _).alloc _)) (by simp) (by simp)) _ 4 4 [97, 98, 99, 100] (by unfold maxLen; omega) ⟨rfl, .inr ⟨_, _, rfl, by simp; omega, fun j hj => ?_⟩⟩).mono fun e w' h => h
    match j, hj with
    | 0, _ => exact World.cell?_alloc_mark _ _ _ _ _
    | 1, _ => exact World.cell?_alloc_mark _ _ _ _ _
    | 2, _ => exact World.cell?_alloc_mark _ _ _ _ _
    | 3, _ => exact World.cell?_alloc_mark _ _ _ _ _
  have hT : Turned [] w W := by subst hW; exact ht.alloc _
  clear hW ht hr
  refine hp.mono ?_
  rintro e w2 ⟨rfl, hr2, ht2⟩
  have HT := Lib.hid (hT.step ht2 (fun i hi => by simp at hi; omega))
  clear hT ht2 hp
  go_wp2_with fail
  refine (take_is hr2 2).mono ?_
  rintro e w3 ⟨v, rfl, ho, hr3, ht3⟩
  have hr3' : RingIs w3 R G 3 [99] := hr3
  have hlt := hr2.lt
  obtain ⟨a, cap, rfl, -, -, hlies⟩ := lies_own (zs := [97, 98]) (n := 2) ho [] (fun k hk => by simp at hk)
  have cv : (convert 26 9 (.slice a 2 cap)).run Try.prog w3 = .ok (.string ⟨#[97, 98]⟩) w3 := conv_lies hlies cap
  have HT3 := Lib.hid (HT.out.step ht3 (fun i hi => by simp at hi; omega))
  clear HT ht3 ho hr3 hlies hr2
  go_wp2_with fail
  have hro : Calls Try.prog 20 #[.pointer (some ⟨R, 0, none⟩)] w3 fun e w' => e = .returned (.int .i64 2) ∧ ∃ k, w' = w3.drewN k := room_is hr3'
  refine hro.mono ?_
  rintro e w4 ⟨rfl, k4, rfl⟩
  go_wp2_with fail
  have hle : Calls Try.prog 19 #[.pointer (some ⟨R, 0, none⟩)] (w3.drewN k4) fun e w' => e = .returned (.int .i64 1) ∧ w' = w3.drewN k4 :=
    len_is (hr3'.kept ((Turned.refl [] _).drewN k4) (by simp) (by simp))
  refine hle.mono ?_
  rintro e w5 ⟨rfl, rfl⟩
  go_wp2
  go_ret
  exact ⟨rfl, HT3.out.drewN _⟩

end Go.Proofs.Yteaglbfodeineaa
