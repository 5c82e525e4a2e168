/-
  A map in memory, told by the function it is: from keys to the elements' values.
-/
import Derived.Test.YteaglbfodeineaaCells
import Derived.Maps.OwnSet
import Derived.Maps.RangeWalk
import Derived.DeepKeys4
namespace Go.Proofs.Yteaglbfodeineaa
open Go.RowKit Go.Maps

/-- A type of keys. -/
structure KeyK (κ : Type) where
  k : TypeId
  val : κ → Value
  lit : κ → Lit
  dom : κ → Prop
  keyed : Maps.Keyed Try.prog k
  key : ∀ x, dom x → keyOf Try.prog k (val x) = some (lit x)
  inv : ∀ v l, keyOf Try.prog k v = some l → ∃ x, dom x ∧ v = val x
  inj : ∀ x y, val x = val y → x = y

theorem KeyK.lit_inj {κ : Type} (A : KeyK κ) {x y : κ} (hx : A.dom x) (hy : A.dom y) (h : A.lit x = A.lit y) : x = y :=
  A.inj _ _ (A.keyed.inj (A.key x hx) (by rw [h]; exact A.key y hy))

def heldR : Value → Option (DataW Value × List MemPlace) := fun v => some (.held v, [])
def toD (o : Option Value) (zd : DataW Value) : DataW Value := match o with | some v => .held v | none => zd

/-- Block b is a map of at most n entries, and f tells what is in it. -/
def IsMapAt {κ : Type} (A : KeyK κ) (w : World) (b n : Nat) (f : κ → Option Value) : Prop :=
  ∃ D, w.ownsMap Try.prog A.k heldR b n D ∧ ∀ x, A.dom x → ∀ zd, D.atKey (A.lit x) zd = toD (f x) zd

/-- The map f with v at x. -/
noncomputable def upd {κ : Type} (f : κ → Option Value) (x : κ) (v : Value) : κ → Option Value := fun y => open Classical in if y = x then some v else f y

theorem toD_inj {o o' : Option Value} (h : ∀ zd, toD o zd = toD o' zd) : o = o' := by
  cases o with
  | none =>
    cases o' with
    | none => rfl
    | some v => have := h .nil; simp [toD] at this
  | some v =>
    cases o' with
    | none => have := h .nil; simp [toD] at this
    | some v' => have := h .nil; simp [toD] at this; rw [this]

section
variable {κ : Type} {A : KeyK κ} {w w' : World} {b n : Nat} {f : κ → Option Value}

theorem IsMapAt.made (A : KeyK κ) (w : World) : IsMapAt A (w.alloc (.map #[] 0)) w.heap.size 0 (fun _ => none) :=
  ⟨_, World.ownsMap_made w Try.prog A.k heldR, fun x _ zd => by simp [toD, DataW.atKey]⟩

theorem IsMapAt.lt (h : IsMapAt A w b n f) : b < w.heap.size := by
  obtain ⟨D, h1, _⟩ := h; exact h1.lt

theorem IsMapAt.mono (h : IsMapAt A w b n f) {m : Nat} (hm : n ≤ m) : IsMapAt A w b m f := by
  obtain ⟨D, h1, h2⟩ := h; exact ⟨D, h1.mono hm, h2⟩

theorem IsMapAt.grown {row : Option Nat} (h : IsMapAt A w b n f) (hg : w.grownBy w' row) (hne : some b ≠ row) : IsMapAt A w' b n f := by
  obtain ⟨D, h1, h2⟩ := h; exact ⟨D, h1.kept hg hne, h2⟩

theorem IsMapAt.kept {S : List Nat} (h : IsMapAt A w b n f) (ht : Turned S w w') (hne : b ∉ S) : IsMapAt A w' b n f := by
  obtain ⟨D, ⟨es, clock, hb, r⟩, h2⟩ := h
  exact ⟨D, ⟨es, clock, ht.keep hb hne, r⟩, h2⟩

theorem IsMapAt.look {t e : TypeId} {x : κ} (h : IsMapAt A w b n f) (ht : Try.prog.underlying t = some (.map A.k e)) {z : Value} (hz : (zeroValue e).run Try.prog w = .ok z w) (hx : A.dom x) :
    (Instr.lookup t (.map (some b)) (A.val x) false).run Try.prog w = .ok ((f x).getD z) w := by
  obtain ⟨D, h1, h2⟩ := h
  obtain ⟨v, ps, hrun, hv⟩ := h1.lookup A.keyed ht hz (show heldR z = some (.held z, []) from rfl) (A.key x hx)
  rw [h2 x hx] at hv
  have : v = (f x).getD z := by
    cases hf : f x with
    | none => simp [heldR, toD, hf] at hv; simp [hv.1]
    | some u => simp [heldR, toD, hf] at hv; simp [hv.1]
  rw [← this]; exact hrun

theorem IsMapAt.look_ok {t e : TypeId} {x : κ} (h : IsMapAt A w b n f) (ht : Try.prog.underlying t = some (.map A.k e)) {z : Value} (hz : (zeroValue e).run Try.prog w = .ok z w) (hx : A.dom x) :
    (Instr.lookup t (.map (some b)) (A.val x) true).run Try.prog w = .ok (.tuple #[(f x).getD z, .bool (f x).isSome]) w := by
  obtain ⟨D, h1, h2⟩ := h
  obtain ⟨v, ps, hrun, hv⟩ := h1.look_ok A.keyed ht hz (show heldR z = some (.held z, []) from rfl) (A.key x hx)
  rw [h2 x hx] at hv
  have hh : Maps.has D (A.lit x) = (f x).isSome := by
    cases hf : f x with
    | none => exact Maps.has_false_of_atKey fun zd => by rw [h2 x hx, hf]; rfl
    | some u => exact Maps.has_true_of_atKey (y := .held u) fun zd => by rw [h2 x hx, hf]; rfl
  have : v = (f x).getD z := by
    cases hf : f x with
    | none => simp [heldR, toD, hf] at hv; simp [hv.1]
    | some u => simp [heldR, toD, hf] at hv; simp [hv.1]
  rw [← this, ← hh]; exact hrun

theorem IsMapAt.update {t e : TypeId} {x : κ} (h : IsMapAt A w b n f) (ht : Try.prog.underlying t = some (.map A.k e)) (hn : n < maxLen) (hx : A.dom x) (v : Value) :
    ∃ w', (Instr.mapUpdate t (.map (some b)) (A.val x) v).run Try.prog w = .ok () w' ∧ IsMapAt A w' b (n + 1) (upd f x v) ∧ w.grownBy w' (some b) := by
  obtain ⟨D, h1, h2⟩ := h
  obtain ⟨w', r1, r2, r3⟩ := h1.update A.keyed ht hn (A.key x hx) (show heldR v = some (.held v, []) from rfl)
  refine ⟨w', r1, ⟨_, r2, fun y hy zd => ?_⟩, r3⟩
  by_cases he : y = x
  · subst he
    rw [Maps.atKey_put_same h1.isMap (A.keyed.key (A.key y hy))]
    simp [upd, toD]
  · rw [Maps.atKey_put_other (fun e => he (A.lit_inj hy hx e)), h2 y hy]
    simp [upd, he]

end

/-- 'm[x] = v', at the operation. -/
theorem wpList_update_is {κ : Type} (A : KeyK κ) {w : World} {ops : Array Oper} {rest : List Oper} {o : Oper} {a : Act} {Q : Exit → Act → World → Prop} {t e : TypeId} {b n : Nat} {f : κ → Option Value} {x : κ} {v : Value}
    (hg : o.guard = none) (m y z : Operand) (hop : o.op = Op.mapUpdate t m y z) (h : IsMapAt A w b n f) (ht : Try.prog.underlying t = some (.map A.k e)) (hn : n < maxLen) (hx : A.dom x)
    (hm : a.eval m = .map (some b)) (hk : a.eval y = A.val x) (hv : a.eval z = v)
    (hK : ∀ w', IsMapAt A w' b (n + 1) (upd f x v) → w.grownBy w' (some b) → wpList Try.prog ops Q rest (a.put o.dst undef) w') : wpList Try.prog ops Q (o :: rest) a w := by
  refine wpList_plain hg fun K' hK' => ?_
  obtain ⟨w', hrun, r1, r2⟩ := h.update ht hn hx v
  unfold Oper.wp
  simp [execOp, hop, hm, hk, hv, hrun, Result.andThen]
  exact hK' _ _ (hK w' r1 r2)

/-- A map on which a loop goes: 'left' are the keys that are still to come. -/
def Ranges {κ : Type} (A : KeyK κ) (w : World) (b r n : Nat) (f : κ → Option Value) (left : κ → Bool) (cnt : Nat) : Prop :=
  ∃ D l, w.ranges Try.prog A.k heldR b r n D l cnt ∧ (∀ x, A.dom x → ∀ zd, D.atKey (A.lit x) zd = toD (f x) zd) ∧ ∀ x, A.dom x → left x = l (A.lit x)

section
variable {κ : Type} {A : KeyK κ} {w w' : World} {b r n cnt : Nat} {f : κ → Option Value} {left : κ → Bool}

theorem Ranges.isMap (h : Ranges A w b r n f left cnt) : IsMapAt A w b n f := by
  obtain ⟨D, l, h1, h2, _⟩ := h; exact ⟨D, h1.owns, h2⟩
theorem Ranges.left_eq (h : Ranges A w b r n f left cnt) : w.rangeLeft b r = cnt := by
  obtain ⟨D, l, h1, _⟩ := h; exact h1.left_eq
theorem Ranges.grown {row : Option Nat} (h : Ranges A w b r n f left cnt) (hg : w.grownBy w' row) (h1 : some b ≠ row) (h2 : some r ≠ row) : Ranges A w' b r n f left cnt := by
  obtain ⟨D, l, k1, k2⟩ := h; exact ⟨D, l, k1.kept hg h1 h2, k2⟩
theorem Ranges.kept {S : List Nat} (h : Ranges A w b r n f left cnt) (ht : Turned S w w') (h1 : b ∉ S) (h2 : r ∉ S) : Ranges A w' b r n f left cnt := by
  obtain ⟨D, l, ⟨es, clock, since, seen, c0, hb, F, hs, hD, hr, rest⟩, k2⟩ := h
  exact ⟨D, l, ⟨es, clock, since, seen, c0, ht.keep hb h1, F, hs, hD, ht.keep hr h2, rest⟩, k2⟩
end

/-- 'range m', at the operation. -/
theorem wpList_range_is {κ : Type} (A : KeyK κ) {w : World} {ops : Array Oper} {rest : List Oper} {o : Oper} {a : Act} {Q : Exit → Act → World → Prop} {t e : TypeId} {b n : Nat} {f : κ → Option Value}
    (hg : o.guard = none) (m : Operand) (hop : o.op = Op.range t m) (h : IsMapAt A w b n f) (ht : Try.prog.underlying t = some (.map A.k e)) (hm : a.eval m = .map (some b))
    (hK : ∀ w' left cnt, Ranges A w' b w.heap.size n f left cnt → (∀ x, A.dom x → left x = (f x).isSome) → w.grownBy w' none → w'.heap.size = w.heap.size + 1 → wpList Try.prog ops Q rest (a.put o.dst (.pointer (some ⟨w.heap.size, 0, none⟩))) w') :
    wpList Try.prog ops Q (o :: rest) a w := by
  obtain ⟨D, h1, h2⟩ := h
  refine wpList_range_own w hg m t hop A.k e A.keyed ht heldR b n D hm h1 fun w' k1 k2 k3 => ?_
  refine hK w' (fun x => Maps.has D (A.lit x)) _ ⟨D, _, k1, h2, fun x _ => rfl⟩ (fun x hx => ?_) k2 k3
  cases hf : f x with
  | none => exact Maps.has_false_of_atKey fun zd => by rw [h2 x hx, hf]; rfl
  | some u => exact Maps.has_true_of_atKey (y := .held u) fun zd => by rw [h2 x hx, hf]; rfl

/-- The step of such a loop, at the operation. -/
theorem wpList_next_is {κ : Type} (A : KeyK κ) {w : World} {ops : Array Oper} {rest : List Oper} {o : Oper} {a : Act} {Q : Exit → Act → World → Prop} {b r n cnt : Nat} {f : κ → Option Value} {left : κ → Bool}
    (hg : o.guard = none) (it : Operand) (hop : o.op = Op.next it false) (h : Ranges A w b r n f left cnt) (hit : a.eval it = .pointer (some ⟨r, 0, none⟩))
    (hDone : cnt = 0 → (∀ x, A.dom x → left x = false) → wpList Try.prog ops Q rest (a.put o.dst (.tuple #[.bool false])) w)
    (hMore : ∀ (x : κ) (c : Value) (w' : World) (left' : κ → Bool) (cnt' : Nat), A.dom x → left x = true → f x = some c → Ranges A w' b r n f left' cnt' → (∀ y, A.dom y → (left' y = true ↔ left y = true ∧ y ≠ x)) → cnt' < cnt →
      w.grownBy w' (some r) → w'.heap.size = w.heap.size → (Instr.entry (.pointer (some ⟨r, 0, none⟩))).run Try.prog w' = .ok (.tuple #[A.val x, c]) w' → wpList Try.prog ops Q rest (a.put o.dst (.tuple #[.bool true, A.val x, c])) w') :
    wpList Try.prog ops Q (o :: rest) a w := by
  obtain ⟨D, l, h1, h2, h3⟩ := h
  refine wpList_plain hg fun K' hK' => ?_
  unfold Oper.wp
  rcases h1.next A.keyed o.type with ⟨h0, hl, hrun⟩ | ⟨key, v, kl, y, w', cnt', hkey, hlk, hv, hat, hrun, hrg, hlt, hgr, hsz, hen⟩
  · simp [execOp, hop, hit, hrun, Result.andThen]
    exact hK' _ _ (hDone h0 (fun x hx => by rw [h3 x hx]; exact hl _))
  · obtain ⟨x, hx, rfl⟩ := A.inv _ _ hkey
    have hkl : A.lit x = kl := by have := A.key x hx; rw [hkey] at this; exact (Option.some.inj this).symm
    subst hkl
    simp [execOp, hop, hit, hrun, Result.andThen]
    refine hK' _ _ (hMore x v w' (fun z => l (A.lit z) && !(A.lit z).sameKey (A.lit x)) cnt' hx (by rw [h3 x hx]; exact hlk) ?_ ⟨D, _, hrg, h2, fun z _ => rfl⟩ (fun z hz => ?_) hlt hgr hsz hen)
    · have h5 := hat .nil
      rw [h2 x hx] at h5
      obtain rfl : y = (.held v, []) := by simpa [heldR] using hv.symm
      cases hf : f x with
      | none => rw [hf] at h5; simp [toD] at h5
      | some u => rw [hf] at h5; simp [toD] at h5; rw [h5]
    · have hk := A.keyed.key (A.key x hx)
      by_cases he : z = x
      · subst he
        simp [WideAt.sameKey_self hk]
      · simp [h3 z hz, he, Maps.sameKey_ne (fun e => he (A.lit_inj hz hx e))]

/-- Numbers as keys. -/
def KInt : KeyK Int where
  k := 3
  val := .int .i64
  lit := .int .i64
  dom := I64
  keyed := int_keyed Try.underlying3
  key := fun x hx => by simp [keyOf, Try.underlying3, mapKey]; exact hx
  inv := fun v l h => by
    obtain ⟨x, rfl, _, hw⟩ := Maps.keyOf_int_inv Try.underlying3 h
    exact ⟨x, hw, rfl⟩
  inj := fun x y h => by simpa using h

end Go.Proofs.Yteaglbfodeineaa
