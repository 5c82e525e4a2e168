/-
  The ring's methods, said of the list that it holds.
-/
import Derived.Test.YteaglbfodeineaaRd
namespace Go.Proofs.Yteaglbfodeineaa
open Go.RowKit

/-- The ring in blocks R, G holds the bytes l; at most m. -/
def RingIs (w : World) (R G m : Nat) (l : List Int) : Prop := ∃ f cur, RingAt w R G m f l.length cur ∧ Bears cur m f l

theorem RingIs.ne {w : World} {R G m : Nat} {l} (h : RingIs w R G m l) : R ≠ G := by obtain ⟨f, cur, h1, _⟩ := h; exact h1.ne
theorem RingIs.lt {w : World} {R G m : Nat} {l} (h : RingIs w R G m l) : R < w.heap.size ∧ G < w.heap.size := by
  obtain ⟨f, cur, h1, _⟩ := h; exact ⟨lt_of_heap h1.hR, lt_of_heap h1.hG⟩
theorem RingIs.le {w : World} {R G m : Nat} {l} (h : RingIs w R G m l) : l.length ≤ m ∧ 1 ≤ m ∧ m ≤ 4096 := by obtain ⟨f, cur, h1, _⟩ := h; exact ⟨h1.hn, h1.hm⟩
theorem RingIs.kept {S : List Nat} {w w' : World} {R G m : Nat} {l} (h : RingIs w R G m l) (ht : Turned S w w') (h1 : R ∉ S) (h2 : G ∉ S) : RingIs w' R G m l := by
  obtain ⟨f, cur, h3, h4⟩ := h; exact ⟨f, cur, h3.kept ht h1 h2, h4⟩

/-- A slice's elements, where there are any, lie in a block that is none of the ring's. -/
def Lies (w : World) (a : Option Addr) (len : Nat) (zs : List Int) (S : List Nat) : Prop :=
  zs.length = len ∧ (len = 0 ∨ ∃ b o, a = some ⟨b, o, none⟩ ∧ b ∉ S ∧ ∀ j, j < len → w.cell? ⟨b, o + j, none⟩ = some (.int .u8 (zs.getD j 0)))

theorem new_is (m : Nat) (w : World) (h1 : 1 ≤ m) (h2 : m ≤ 4096) : Calls Try.prog 11 #[.int .i64 m] w fun e w' =>
    ∃ R G, e = .returned (.pointer (some ⟨R, 0, none⟩)) ∧ RingIs w' R G m [] ∧ w.heap.size ≤ R ∧ w.heap.size ≤ G ∧ Turned [] w w' := by
  refine (new_ring m w h1 h2).mono ?_
  rintro e w' ⟨R, G, cur, h1, h2, h3, h4, h5⟩
  exact ⟨R, G, h1, ⟨0, cur, h2, Bears.nil _ _ _⟩, h3, h4, h5⟩

theorem len_is {w : World} {R G m : Nat} {l : List Int} (h : RingIs w R G m l) :
    Calls Try.prog 19 #[.pointer (some ⟨R, 0, none⟩)] w fun e w' => e = .returned (.int .i64 l.length) ∧ w' = w := by
  obtain ⟨f, cur, h1, h2⟩ := h; exact len_ring h1

theorem room_is {w : World} {R G m : Nat} {l : List Int} (h : RingIs w R G m l) :
    Calls Try.prog 20 #[.pointer (some ⟨R, 0, none⟩)] w fun e w' => e = .returned (.int .i64 ((m : Int) - l.length)) ∧ ∃ k, w' = w.drewN k := by
  obtain ⟨f, cur, h1, h2⟩ := h; exact room_ring h1

theorem clear_is {w : World} {R G m : Nat} {l : List Int} (h : RingIs w R G m l) :
    Calls Try.prog 17 #[.pointer (some ⟨R, 0, none⟩)] w fun e w' => e = .returned (.tuple #[]) ∧ RingIs w' R G m [] ∧ Turned [R, G] w w' := by
  obtain ⟨f, cur, h1, h2⟩ := h
  refine (clear_ring h1).mono ?_
  rintro e w' ⟨rfl, rfl⟩
  exact ⟨rfl, ⟨f, cur, h1.count 0 (Nat.zero_le _), Bears.nil _ _ _⟩, (Turned.refl _ _).setCell (.inl (by simp)) _⟩

theorem peek_is {w : World} {R G m : Nat} {l : List Int} (h : RingIs w R G m l) (x : Int) :
    Calls Try.prog 14 #[.pointer (some ⟨R, 0, none⟩), .int .i64 x] w fun e w' =>
      ∃ v, e = .returned v ∧ w'.ownsRow w.heap.size 5 1 v (l.take x.toNat).length ((l.take x.toNat).map (Value.int .u8)) ∧ RingIs w' R G m l ∧ Turned [] w w' := by
  have h0 := h
  obtain ⟨f, cur, h1, h2⟩ := h
  refine (peek_ring h1 x l rfl h2).mono ?_
  rintro e w' ⟨v, h3, h4, h5⟩
  exact ⟨v, h3, h4, h0.kept h5 (by simp) (by simp), h5⟩

theorem take_is {w : World} {R G m : Nat} {l : List Int} (h : RingIs w R G m l) (x : Int) :
    Calls Try.prog 13 #[.pointer (some ⟨R, 0, none⟩), .int .i64 x] w fun e w' =>
      ∃ v, e = .returned v ∧ w'.ownsRow w.heap.size 5 1 v (l.take x.toNat).length ((l.take x.toNat).map (Value.int .u8)) ∧ RingIs w' R G m (l.drop x.toNat) ∧ Turned [R, G] w w' := by
  obtain ⟨f, cur, h1, h2⟩ := h
  refine (take_ring h1 x l rfl h2).mono ?_
  rintro e w' ⟨v, h3, h4, h5, h6⟩
  have e1 : l.drop x.toNat = l.drop (l.take x.toNat).length := by
    rw [List.length_take]
    rcases Nat.le_total x.toNat l.length with c | c
    · rw [Nat.min_eq_left c]
    · rw [Nat.min_eq_right c, List.drop_of_length_le c, List.drop_length]
  refine ⟨v, h3, h4, ⟨(f + (l.take x.toNat).length) % m, cur, ?_, ?_⟩, h5⟩
  · rw [e1, List.length_drop]; exact h6
  · rw [e1]; exact h2.drop _

theorem put_is {w : World} {R G m : Nat} {l : List Int} (h : RingIs w R G m l) (a : Option Addr) (len cap : Nat) (zs : List Int) (hl : len ≤ maxLen) (hz : Lies w a len zs [R, G]) :
    Calls Try.prog 12 #[.pointer (some ⟨R, 0, none⟩), .slice a len cap] w fun e w' =>
      e = .returned (.int .i64 (min len (m - l.length) : Nat)) ∧ RingIs w' R G m (l ++ zs.take (m - l.length)) ∧ Turned [R, G] w w' := by
  obtain ⟨f, cur, h1, h2⟩ := h
  obtain ⟨hlen, hz⟩ := hz
  rcases hz with h0 | ⟨b, o, rfl, hb, hc⟩
  · subst h0
    have : zs = [] := List.eq_nil_of_length_eq_zero hlen
    subst this
    refine (put_empty h1 a cap).mono ?_
    rintro e w' ⟨rfl, k, rfl⟩
    refine ⟨by simp, ?_, (Turned.refl _ _).drewN _⟩
    simp only [List.take_nil, List.append_nil]
    exact ⟨f, cur, h1.drewN k, h2⟩
  · simp at hb
    refine (put_ring h1 b o len cap _ zs hb.1 hb.2 hl hc rfl).mono ?_
    rintro e w' ⟨cur', rfl, h3, h4, h5⟩
    have hn := h1.hn
    have e1 : zs.take (m - l.length) = zs.take (min len (m - l.length)) := by
      rcases Nat.le_total len (m - l.length) with c | c
      · rw [Nat.min_eq_left c, List.take_of_length_le (by omega), List.take_of_length_le (by omega)]
      · rw [Nat.min_eq_right c]
    refine ⟨rfl, ⟨f, cur', ?_, ?_⟩, h4⟩
    · rw [e1, List.length_append, List.length_take, show min (min len (m - l.length)) zs.length = min len (m - l.length) from by omega]
      exact h3
    · rw [e1]
      exact h2.put h5 (by omega) (by omega)

end Go.Proofs.Yteaglbfodeineaa
