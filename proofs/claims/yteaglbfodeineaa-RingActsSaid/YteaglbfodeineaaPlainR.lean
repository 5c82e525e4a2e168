/-
  Plain lemmas on places that go round.
-/
import Derived.WalkKit
namespace Go.Proofs.Yteaglbfodeineaa

theorem take_u8 (l : List Int) (k : Nat) (y : Int) (hk : k < l.length) (hy : y = l.getD k 0) : (l.take (k + 1)).map (Value.int .u8) = (l.take k).map (Value.int .u8) ++ [.int .u8 y] := by
  rw [List.take_succ_eq_append_getElem hk, hy, List.map_append, List.getD_eq_getElem?_getD, List.getElem?_eq_getElem hk]
  rfl

theorem mod_inj {m p i j : Nat} (hi : i < m) (hj : j < m) (h : (p + i) % m = (p + j) % m) : i = j := by
  have hm : 0 < m := by omega
  have key : ∀ a b : Nat, a ≤ b → b < m → (p + a) % m = (p + b) % m → a = b := by
    intro a b hab hb e
    have h1 : (p + b) % m = ((p + a) % m + (b - a)) % m := by
      rw [Nat.mod_add_mod]; congr 1; omega
    rw [← e] at h1
    have hr : (p + a) % m < m := Nat.mod_lt _ hm
    generalize (p + a) % m = r at h1 hr
    by_cases c : r + (b - a) < m
    · rw [Nat.mod_eq_of_lt c] at h1; omega
    · rw [Nat.mod_eq_sub_mod (a := r + (b - a)) (by omega), Nat.mod_eq_of_lt (a := r + (b - a) - m) (by omega)] at h1; omega
  rcases Nat.le_total i j with c | c
  · exact key i j c hj h
  · exact (key j i c hi h.symm).symm

/-- k bytes of zs have been put from place p on, going round; all else is as it was. -/
def PutTo (cur cur' : Array Value) (m p : Nat) (zs : List Int) (k : Nat) : Prop :=
  (∀ j, j < k → cur'[(p + j) % m]? = some (.int .u8 (zs.getD j 0))) ∧ (∀ i, i < m → (∀ j, j < k → i ≠ (p + j) % m) → cur'[i]? = cur[i]?)

theorem PutTo.start (cur : Array Value) (m p : Nat) (zs : List Int) : PutTo cur cur m p zs 0 := ⟨fun j h => by omega, fun _ _ _ => rfl⟩

theorem PutTo.step {cur cur' : Array Value} {m p : Nat} {zs : List Int} {k : Nat} (h : PutTo cur cur' m p zs k) (hk : k < m) (hs : cur'.size = m) :
    PutTo cur (cur'.setIfInBounds ((p + k) % m) (.int .u8 (zs.getD k 0))) m p zs (k + 1) := by
  have hm : (p + k) % m < m := Nat.mod_lt _ (by omega)
  refine ⟨fun j hj => ?_, fun i hi hn => ?_⟩
  · by_cases e : j = k
    · subst e; rw [Array.getElem?_setIfInBounds_self_of_lt (by omega)]
    · rw [Array.getElem?_setIfInBounds_ne (fun c => e (mod_inj (by omega) hk c.symm))]
      exact h.1 j (by omega)
  · rw [Array.getElem?_setIfInBounds_ne (fun c => hn k (by omega) c.symm)]
    exact h.2 i hi (fun j hj => hn j (by omega))

/-- The ring's bytes: l, from place f on, going round. -/
def Bears (cur : Array Value) (m f : Nat) (l : List Int) : Prop := ∀ i, i < l.length → cur[(f + i) % m]? = some (.int .u8 (l.getD i 0))

theorem Bears.put {cur cur' : Array Value} {m f : Nat} {l zs : List Int} {k : Nat} (h : Bears cur m f l) (hp : PutTo cur cur' m (f + l.length) zs k) (hk : l.length + k ≤ m) (hz : k ≤ zs.length) :
    Bears cur' m f (l ++ zs.take k) := by
  intro i hi
  simp only [List.length_append, List.length_take] at hi
  by_cases c : i < l.length
  · rw [hp.2 _ (Nat.mod_lt _ (by omega)) (fun j hj e => ?_), h i c]
    · simp [List.getElem?_append_left c]
    · rw [Nat.add_assoc] at e
      have := mod_inj (by omega) (by omega) e
      omega
  · have e : (f + i) % m = (f + l.length + (i - l.length)) % m := by congr 1; omega
    rw [e, hp.1 _ (by omega)]
    congr 2
    have c' : l.length ≤ i := by omega
    simp only [List.getD_eq_getElem?_getD, List.getElem?_append_right c']
    rw [List.getElem?_take_of_lt (by omega)]

theorem Bears.drop {cur : Array Value} {m f : Nat} {l : List Int} (h : Bears cur m f l) (k : Nat) : Bears cur m ((f + k) % m) (l.drop k) := by
  intro i hi
  simp only [List.length_drop] at hi
  have e : ((f + k) % m + i) % m = (f + (k + i)) % m := by rw [Nat.mod_add_mod, Nat.add_assoc]
  rw [e, h _ (by omega)]
  simp [List.getD_eq_getElem?_getD]

theorem Bears.nil (cur : Array Value) (m f : Nat) : Bears cur m f [] := fun i h => by simp at h

end Go.Proofs.Yteaglbfodeineaa
