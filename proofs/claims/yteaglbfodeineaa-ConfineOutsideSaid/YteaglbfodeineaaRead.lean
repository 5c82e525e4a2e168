/-
  How data that came in lie in memory: what the form's reading says of slices, structs, numbers and texts, in words that a walk can use.
-/
import Derived.Test.YteaglbfodeineaaTurn
import Derived.Deep.Slices
import Derived.OpenShut
namespace Go.Proofs.Yteaglbfodeineaa
open Go.RowKit Go.ChangeShapes Go.WideShapes Go.Deep

/-- A slice's value, and what its elements are. -/
structure Sl (α : Type) where
  a : Option Addr
  len : Nat
  cap : Nat
  xs : List α

def Sl.v {α : Type} (s : Sl α) : Value := .slice s.a s.len s.cap

/-- Element i of a slice, of 'size' cells: they lie behind the slice's begin, and are x. -/
def ElemAt {α : Type} (size : Nat) (R : World → List Value → α → Prop) (w : World) (a : Option Addr) (i : Nat) (x : α) : Prop :=
  ∃ b o cs, a = some ⟨b, o, none⟩ ∧ cs.length = size ∧ (∀ j v, cs[j]? = some v → w.cell? ⟨b, o + i * size + j, none⟩ = some v) ∧ R w cs x

structure RSl {α : Type} (size : Nat) (R : World → List Value → α → Prop) (w : World) (s : Sl α) : Prop where
  lc : s.len ≤ s.cap
  cm : s.cap ≤ maxLen
  nil : s.a = none → s.len = 0 ∧ s.cap = 0
  n : s.xs.length = s.len
  at_ : ∀ i x, s.xs[i]? = some x → ElemAt size R w s.a i x

/-- What R says stays so where nothing that was there has turned. -/
def Stays {α : Type} (R : World → List Value → α → Prop) : Prop := ∀ w w' cs x, Turned [] w w' → R w cs x → R w' cs x

theorem ElemAt.stays {α : Type} {size : Nat} {R : World → List Value → α → Prop} (hR : Stays R) {w w' : World} {a : Option Addr} {i : Nat} {x : α} (h : ElemAt size R w a i x) (ht : Turned [] w w') : ElemAt size R w' a i x := by
  obtain ⟨b, o, cs, h1, h2, h3, h4⟩ := h
  exact ⟨b, o, cs, h1, h2, fun j v hj => ht.cell (h3 j v hj) (by simp), hR _ _ _ _ ht h4⟩

theorem RSl.stays {α : Type} {size : Nat} {R : World → List Value → α → Prop} (hR : Stays R) {w w' : World} {s : Sl α} (h : RSl size R w s) (ht : Turned [] w w') : RSl size R w' s :=
  ⟨h.lc, h.cm, h.nil, h.n, fun i x hx => (h.at_ i x hx).stays hR ht⟩

def RInt (k : IntKind) : World → List Value → Int → Prop := fun _ cs n => cs = [.int k n] ∧ (Lit.int k n).wf = true
def RBool : World → List Value → Bool → Prop := fun _ cs b => cs = [.bool b]
def RStr : World → List Value → ByteArray → Prop := fun _ cs s => cs = [.string s] ∧ s.size ≤ maxLen
def RSlv {α : Type} (size : Nat) (R : World → List Value → α → Prop) : World → List Value → Sl α → Prop := fun w cs s => cs = [s.v] ∧ RSl size R w s

theorem stays_int (k : IntKind) : Stays (RInt k) := fun _ _ _ _ _ h => h
theorem stays_bool : Stays RBool := fun _ _ _ _ _ h => h
theorem stays_str : Stays RStr := fun _ _ _ _ _ h => h
theorem stays_slv {α : Type} {size : Nat} {R : World → List Value → α → Prop} (hR : Stays R) : Stays (RSlv size R) := fun _ _ _ _ ht h => ⟨h.1, h.2.stays hR ht⟩

section
variable {H : Type} {enc : TypeId × Value → H} {P : Program} {w : World}

/-- The cells cs of type t, read as data, are some x of which R holds. -/
def Down {α : Type} (enc : TypeId × Value → H) (P : Program) (w : World) (t : TypeId) (R : World → List Value → α → Prop) : Prop :=
  ∀ (fuel : Nat) (cs : List Value) (x : DataW H × List MemPlace), DataW.trod enc P w 0 (fun _ => true) true fuel t cs = some x → ∃ y, R w cs y

theorem down_int {t : TypeId} {k : IntKind} (ht : P.underlying t = some (.int k)) : Down enc P w t (RInt k) := fun fuel cs x h => by
  obtain ⟨n, rfl, _, hw⟩ := DataW.trod_int ht h
  exact ⟨n, rfl, hw⟩
theorem down_bool {t : TypeId} (ht : P.underlying t = some .bool) : Down enc P w t RBool := fun fuel cs x h => by
  obtain ⟨b, rfl, _⟩ := DataW.trod_bool ht h
  exact ⟨b, rfl⟩
theorem down_str {t : TypeId} (ht : P.underlying t = some .string) : Down enc P w t RStr := fun fuel cs x h => by
  obtain ⟨s, rfl, _, hs⟩ := DataW.trod_string ht h
  exact ⟨s, rfl, hs⟩

theorem down_slice {α : Type} {t e : TypeId} {size : Nat} {R : World → List Value → α → Prop} (ht : P.underlying t = some (.slice e)) (hc : P.cellsOf e = size) (h0 : 0 < size) (hR : Down enc P w e R) :
    Down enc P w t (RSlv size R) := fun fuel cs x h => by
  rcases open_slice ht h with ⟨rfl, _⟩ | ⟨a, len, cap, m, n, D, Pl, rfl, _, hl, hm, hmm, _, hi⟩
  · exact ⟨⟨none, 0, 0, []⟩, rfl, ⟨Nat.le_refl _, Nat.zero_le _, fun _ => ⟨rfl, rfl⟩, rfl, fun i x hx => by simp at hx⟩⟩
  · have hm' : m = cap := by simpa using hmm
    subst hm'
    rw [hc] at hi
    have key : ∀ i, i < len → ∃ y, ElemAt size R w (some a) i y := fun i hil => by
      obtain ⟨cs', h1, h2⟩ := hi i (by omega)
      obtain ⟨y, hy⟩ := hR _ _ _ h2
      obtain ⟨_, hn, hcell⟩ := World.cells?_some h1
      obtain ⟨b, o, spot⟩ := a
      have hspot : spot = none := by
        obtain ⟨cs0, h10, _⟩ := hi 0 (by omega)
        obtain ⟨_, hn0, hcell0⟩ := World.cells?_some h10
        have h3 := hcell0 0 h0
        rw [List.getElem?_eq_getElem (by omega)] at h3
        have := World.cell?_spot h3
        simpa [Addr.add] using this
      subst hspot
      refine ⟨y, b, o, cs', rfl, hn, fun j v hj => ?_, hy⟩
      have hjl : j < size := by
        rcases Nat.lt_or_ge j cs'.length with h | h
        · omega
        · rw [List.getElem?_eq_none h] at hj; cases hj
      have := hcell j hjl
      rw [add_plain, add_plain] at this
      rw [this, hj]
    classical
    refine ⟨⟨some a, len, m, (List.range len).attach.map fun i => Classical.choose (key i.1 (List.mem_range.1 i.2))⟩, rfl, ⟨hl, hm, fun e => by simp at e, by simp, fun i x hx => ?_⟩⟩
    obtain ⟨hil, rfl⟩ := List.getElem?_eq_some_iff.1 hx
    simp only [List.length_map, List.length_attach, List.length_range] at hil
    simp only [List.getElem_map, List.getElem_attach, List.getElem_range]
    exact Classical.choose_spec (key i hil)

end

end Go.Proofs.Yteaglbfodeineaa
