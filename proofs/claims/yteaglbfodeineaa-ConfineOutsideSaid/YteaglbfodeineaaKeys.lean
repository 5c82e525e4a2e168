/-
  Things as keys.
-/
import Derived.Test.YteaglbfodeineaaMaps
namespace Go.Proofs.Yteaglbfodeineaa
open Go.RowKit Go.Maps

def obv (x : Ob) : Value := .agg #[.int .i64 x.1, .int .i64 x.2]

theorem Try.row70 : (70 : TypeId) < Try.prog.types.size := of_decide_eq_true (by kernel_rfl)
theorem Try.laid70 : laidOutB Try.prog = true := by kernel_rfl
theorem Try.law70 : WideMaps.KeyLaw Try.prog 70 := deep_law_laid Try.laid70 (m := 2) (by omega) Try.row70 (by kernel_rfl) (by simp only [Try.underlying70])
theorem Try.key70 : Try.prog.keyType 70 = true := by kernel_rfl
theorem Try.c70 : Try.prog.cellsOf 70 = 2 := by kernel_rfl

theorem Try.n70 : Try.prog.types.size + 1 = 175 + 2 := by kernel_rfl

theorem keyLits_int {c : Nat} {v : Value} {l : List Lit} : Try.prog.keyLits (c + 1) 3 [v] = some l ↔ ∃ x, v = .int .i64 x ∧ I64 x ∧ l = [.int .i64 x] := by
  unfold Program.keyLits
  rw [Try.underlying3]
  constructor
  · intro h
    cases v <;> simp at h
    obtain ⟨⟨rfl, hw⟩, rfl⟩ := h
    exact ⟨_, rfl, hw, rfl⟩
  · rintro ⟨x, rfl, hw, rfl⟩
    simp; exact hw

theorem keyLits_obj {c : Nat} {a b : Value} : Try.prog.keyLits (c + 2) 70 [a, b] = (Try.prog.keyLits (c + 1) 3 [a]).bind fun x => (Try.prog.keyLits (c + 1) 3 [b]).map fun y => x ++ y := by
  conv => lhs; unfold Program.keyLits
  simp only [Try.underlying70]
  simp [Try.c70, Try.c3, -Option.map_eq_map]
  cases Try.prog.keyLits (c + 1) 3 [a] <;> cases Try.prog.keyLits (c + 1) 3 [b] <;> simp

theorem formed_obj {v : Value} (h : v.formed Try.prog 70 = true) : ∃ a b, v = .agg #[a, b] := by
  unfold Value.formed at h
  simp only [Try.underlying70] at h
  cases v <;> simp [Try.c70] at h
  rename_i cs
  match cs, h with
  | ⟨[a, b]⟩, _ => exact ⟨a, b, rfl⟩

theorem key_obj {x : Ob} (hx : I64 x.1 ∧ I64 x.2) : keyOf Try.prog 70 (obv x) = some (.string (keyBytes [.int .i64 x.1, .int .i64 x.2])) := by
  have h1 : (obv x).formed Try.prog 70 = true := by unfold obv; simp [Value.formed, Try.underlying70, Try.c70]
  have h2 : Try.prog.keyLits (Try.prog.types.size + 1) 70 [.int .i64 x.1, .int .i64 x.2] = some [.int .i64 x.1, .int .i64 x.2] := by
    rw [Try.n70, keyLits_obj, keyLits_int.2 ⟨_, rfl, hx.1, rfl⟩, keyLits_int.2 ⟨_, rfl, hx.2, rfl⟩]
    rfl
  unfold keyOf
  simp only [Try.underlying70]
  rw [if_pos (by rw [Try.key70, h1]; rfl)]
  show Option.map _ (Try.prog.keyLits (Try.prog.types.size + 1) 70 [.int .i64 x.1, .int .i64 x.2]) = _
  rw [h2]
  rfl

theorem key_obj_inv {v : Value} {l : Lit} (h : keyOf Try.prog 70 v = some l) : ∃ x : Ob, (I64 x.1 ∧ I64 x.2) ∧ v = obv x := by
  unfold keyOf at h
  simp only [Try.underlying70] at h
  split at h
  · rename_i hf
    simp only [Bool.and_eq_true] at hf
    obtain ⟨a, b, rfl⟩ := formed_obj hf.2
    rw [Try.n70] at h
    simp only [Value.cells] at h
    rw [keyLits_obj] at h
    cases h1 : Try.prog.keyLits (175 + 1) 3 [a] with
    | none => rw [h1] at h; simp at h
    | some l1 =>
      cases h2 : Try.prog.keyLits (175 + 1) 3 [b] with
      | none => rw [h1, h2] at h; simp at h
      | some l2 =>
        obtain ⟨x, rfl, w1, _⟩ := keyLits_int.1 h1
        obtain ⟨y, rfl, w2, _⟩ := keyLits_int.1 h2
        exact ⟨(x, y), ⟨w1, w2⟩, rfl⟩
  · cases h

/-- Things as keys. -/
def KObj : KeyK Ob where
  k := 70
  val := obv
  lit := fun x => .string (keyBytes [.int .i64 x.1, .int .i64 x.2])
  dom := fun x => I64 x.1 ∧ I64 x.2
  keyed := Keyed.of_law Try.law70
  key := fun x hx => key_obj hx
  inv := fun v l h => key_obj_inv h
  inj := fun x y h => by simpa [obv, Prod.ext_iff] using h

end Go.Proofs.Yteaglbfodeineaa
