/-
  A dump that is cut: plain words on slices that are cut, and on lists of sockets and of inodes in memory of the call's own.
-/
import Derived.Test.YteaglbfodeineaaEff
import Derived.Test.YteaglbfodeineaaAppL
namespace Go.Proofs.Yteaglbfodeineaa
open Go.RowKit

/-- The first m of a slice. -/
def Sl.cut {α : Type} (s : Sl α) (m : Nat) : Sl α := ⟨s.a, m, s.cap, s.xs.take m⟩

theorem RSl.cut {α : Type} {size : Nat} {R : World → List Value → α → Prop} {w : World} {s : Sl α} (h : RSl size R w s) {m : Nat} (hm : m ≤ s.len) : RSl size R w (s.cut m) :=
  ⟨Nat.le_trans hm h.lc, h.cm, fun e => by have := h.nil e; exact ⟨by show m = 0; omega, this.2⟩, by show (s.xs.take m).length = m; rw [List.length_take, h.n]; omega, fun i x hx => h.at_ i x (by
    have hx' : (s.xs.take m)[i]? = some x := hx
    rw [List.getElem?_take] at hx'
    split at hx'
    · exact hx'
    · cases hx')⟩

def SockV.cells (s : SockV) : List Value := [.int .i64 s.id, .int .i64 s.state, .int .i64 s.peer, .int .i64 s.bound, .int .i64 s.most, s.waits.v, .bool s.shutR, .bool s.shutW, s.parts.v]
def InodeV.cells (i : InodeV) : List Value := [.int .i64 i.ino, .int .i64 i.kind, .int .i64 i.links, .int .i64 i.holds, .int .i64 i.parent, .string i.text, .int .i64 i.blocks, i.names.v, i.inos.v]

/-- A list of elements of nine cells each, in a block of the call's own. -/
structure Own9 {α : Type} (cells : α → List Value) (e : TypeId) (R : World → List Value → α → Prop) (w0 w : World) (base : Nat) (v : Value) (l : List α) : Prop where
  own : w.ownsRow base e 9 v l.length (l.flatMap cells)
  rd : ∀ x ∈ l, R w0 (cells x) x

section
variable {α : Type} {cells : α → List Value} {e : TypeId} {R : World → List Value → α → Prop} {w0 w w' : World} {base : Nat} {v : Value} {l : List α}

theorem flat9_get (h9 : ∀ x, (cells x).length = 9) : ∀ {l : List α} {i : Nat} {x : α} {j : Nat} {u : Value}, l[i]? = some x → (cells x)[j]? = some u → (l.flatMap cells)[i * 9 + j]? = some u
  | [], _, _, _, _, h, _ => by simp at h
  | y :: l, 0, x, j, u, h, hu => by
    simp at h; subst h
    rw [List.flatMap_cons, Nat.zero_mul, Nat.zero_add, List.getElem?_append_left (by have := (List.getElem?_eq_some_iff.1 hu).1; omega)]
    exact hu
  | y :: l, i + 1, x, j, u, h, hu => by
    rw [List.flatMap_cons, List.getElem?_append_right (by rw [h9]; omega), h9, show (i + 1) * 9 + j - 9 = i * 9 + j by omega]
    exact flat9_get h9 (by simpa using h) hu

theorem flat9_len (h9 : ∀ x, (cells x).length = 9) : ∀ l : List α, (l.flatMap cells).length = l.length * 9
  | [] => by simp
  | x :: l => by rw [List.flatMap_cons, List.length_append, h9, flat9_len h9 l, List.length_cons]; omega

theorem flat9_set (h9 : ∀ x, (cells x).length = 9) : ∀ {l : List α} {i : Nat} {x y : α} {j : Nat} {u : Value}, l[i]? = some x → j < 9 → cells y = (cells x).set j u → (l.set i y).flatMap cells = (l.flatMap cells).set (i * 9 + j) u
  | [], _, _, _, _, _, h, _, _ => by simp at h
  | z :: l, 0, x, y, j, u, h, hj, hc => by
    simp at h; subst h
    rw [List.set_cons_zero, List.flatMap_cons, List.flatMap_cons, hc, Nat.zero_mul, Nat.zero_add, List.set_append_left _ _ (by rw [h9]; exact hj)]
  | z :: l, i + 1, x, y, j, u, h, hj, hc => by
    rw [List.set_cons_succ, List.flatMap_cons, List.flatMap_cons, List.set_append_right _ _ (by rw [h9]; omega), h9, show (i + 1) * 9 + j - 9 = i * 9 + j by omega, flat9_set h9 (by simpa using h) hj hc]

theorem Own9.keep (h : Own9 cells e R w0 w base v l) (ht : Turned [] w w') : Own9 cells e R w0 w' base v l := ⟨ht.owns h.own (fun k _ => by simp), h.rd⟩

theorem Own9.kept {S : List Nat} (h : Own9 cells e R w0 w base v l) (ht : Turned S w w') (hS : ∀ k, v.ownBlock = some k → k ∉ S) : Own9 cells e R w0 w' base v l := ⟨ht.owns h.own hS, h.rd⟩

/-- Where the list lies, as long as it is not empty. -/
theorem Own9.shape (h : Own9 cells e R w0 w base v l) (hl : 0 < l.length) : ∃ g cap cur, v = .slice (some ⟨g, 0, none⟩) l.length cap ∧ base ≤ g ∧ w.heap[g]? = some (.cells cur e (0, 0)) ∧ l.length ≤ cap ∧ cap ≤ maxLen ∧ cur.size = cap * 9 ∧ cur.toList.take (l.length * 9) = l.flatMap cells := by
  rcases h.own.2 with ⟨rfl, h0⟩ | ⟨g, cap, cur, rfl, hg, hb, h1, h2, h3, h4⟩
  · omega
  · exact ⟨g, cap, cur, rfl, hg, hb, h1, h2, h3, h4⟩

theorem Own9.cell (h9 : ∀ x, (cells x).length = 9) {g n cap : Nat} (h : Own9 cells e R w0 w base (.slice (some ⟨g, 0, none⟩) n cap) l) {i : Nat} {x : α} {j : Nat} {u : Value} (hi : l[i]? = some x) (hu : (cells x)[j]? = some u) :
    w.cell? ⟨g, i * 9 + j, none⟩ = some u := by
  have hil := (List.getElem?_eq_some_iff.1 hi).1
  have hjl := (List.getElem?_eq_some_iff.1 hu).1
  rw [h9] at hjl
  obtain ⟨g', cap', cur, hv, hg, hb, h1, h2, h3, h4⟩ := h.shape (by omega)
  cases hv
  have h5 := flat9_get h9 hi hu
  rw [← h4, List.getElem?_take_of_lt (by omega), Array.getElem?_toList] at h5
  simp [World.cell?, hb, h5]

theorem Own9.free {g n cap : Nat} (h : Own9 cells e R w0 w base (.slice (some ⟨g, 0, none⟩) n cap) l) (hl : 0 < l.length) (k : Nat) : w.frozen? ⟨g, k, none⟩ = false := by
  obtain ⟨g', cap', cur, hv, hg, hb, h1, h2, h3, h4⟩ := h.shape hl
  cases hv
  exact block_free hb k

/-- A cell of an element is stored. -/
theorem Own9.set (h9 : ∀ x, (cells x).length = 9) {g n cap : Nat} (h : Own9 cells e R w0 w base (.slice (some ⟨g, 0, none⟩) n cap) l) {i : Nat} {x y : α} {j : Nat} {u : Value} (hi : l[i]? = some x) (hj : j < 9) (hc : cells y = (cells x).set j u) (hy : R w0 (cells y) y) :
    Own9 cells e R w0 (w.setCell ⟨g, i * 9 + j, none⟩ u) base (.slice (some ⟨g, 0, none⟩) n cap) (l.set i y) := by
  have hil := (List.getElem?_eq_some_iff.1 hi).1
  obtain ⟨g', cap', cur, hv, hg, hb, h1, h2, h3, h4⟩ := h.shape (by omega)
  cases hv
  refine ⟨⟨?_, .inr ⟨g, cap, _, by rw [List.length_set], hg, heap_same_set hb u, by rw [List.length_set]; exact h1, h2, by simp [h3], ?_⟩⟩, fun z hz => ?_⟩
  · rw [flat9_len h9]
  · rw [flat9_set h9 hi hj hc, ← h4, List.length_set, Array.toList_setIfInBounds, List.take_set]
  · rcases List.mem_or_eq_of_mem_set hz with hz | rfl
    · exact h.rd z hz
    · exact hy

/-- The list, read. -/
theorem Own9.sl (h9 : ∀ x, (cells x).length = 9) (hR : Stays R) (h : Own9 cells e R w0 w base v l) (ht : Turned [] w0 w) : ∃ s : Sl α, v = s.v ∧ s.xs = l ∧ s.len = l.length ∧ RSl 9 R w s := by
  rcases h.own.2 with ⟨rfl, h0⟩ | ⟨g, cap, cur, rfl, hg, hb, h1, h2, h3, h4⟩
  · exact ⟨⟨none, 0, 0, l⟩, rfl, rfl, h0.symm, Nat.le_refl _, Nat.zero_le _, fun _ => ⟨rfl, rfl⟩, h0, fun i x hx => by have := (List.getElem?_eq_some_iff.1 hx).1; simp only at this; omega⟩
  · refine ⟨⟨some ⟨g, 0, none⟩, l.length, cap, l⟩, rfl, rfl, rfl, h1, h2, fun e => by simp at e, rfl, fun i x hx => ?_⟩
    refine ⟨g, 0, cells x, rfl, h9 x, fun j u hj => ?_, hR _ _ _ _ ht (h.rd x (List.mem_of_getElem? hx))⟩
    rw [Nat.zero_add]
    exact h.cell h9 hx hj

/-- A slice that came in, as the source of append. -/
theorem src9 (h9 : ∀ x, (cells x).length = 9) (hcs : ∀ w cs x, R w cs x → cs = cells x) {s : Sl α} (h : RSl 9 R w s) : CellsAt w s.a (s.xs.flatMap cells) := fun j u hj => by
  have hjl := (List.getElem?_eq_some_iff.1 hj).1
  rw [flat9_len h9] at hjl
  have hil : j / 9 < s.xs.length := by omega
  obtain ⟨b, o, cs, ha, hl, hc, hr⟩ := h.at_ (j / 9) s.xs[j / 9] (by simp)
  obtain rfl := hcs _ _ _ hr
  refine ⟨_, ha, ?_⟩
  rw [show (⟨b, o, none⟩ : Addr).add j = ⟨b, o + j, none⟩ by unfold Addr.add; split <;> simp_all]
  have hjm : (cells s.xs[j / 9])[j % 9]? = some u := by
    have hlt : j % 9 < (cells s.xs[j / 9]).length := by rw [h9]; omega
    have h1 := flat9_get h9 (l := s.xs) (i := j / 9) (x := s.xs[j / 9]) (j := j % 9) (u := (cells s.xs[j / 9])[j % 9]) (by simp) (by simp)
    rw [show j / 9 * 9 + j % 9 = j by omega, hj] at h1
    rw [List.getElem?_eq_getElem hlt, Option.some.inj h1]
  have := hc _ _ hjm
  rwa [show o + j / 9 * 9 + j % 9 = o + j by omega] at this

theorem rd_of {s : Sl α} (hcs : ∀ w cs x, R w cs x → cs = cells x) (h : RSl 9 R w s) : ∀ x ∈ s.xs, R w (cells x) x := fun x hx => by
  obtain ⟨i, hi⟩ := List.getElem?_of_mem hx
  obtain ⟨b, o, cs, ha, hl, hc, hr⟩ := h.at_ i x hi
  obtain rfl := hcs _ _ _ hr
  exact hr
end

theorem sock9 (x : SockV) : x.cells.length = 9 := rfl
theorem inode9 (x : InodeV) : x.cells.length = 9 := rfl
theorem sockCs (w : World) (cs : List Value) (x : SockV) (h : RSock w cs x) : cs = x.cells := h.1
theorem inodeCs (w : World) (cs : List Value) (x : InodeV) (h : RInode w cs x) : cs = x.cells := h.1

theorem cells_one9 {α : Type} {cells : α → List Value} (h : ∀ x, ∀ u ∈ cells x, u.oneCell' = true) (l : List α) : ∀ u ∈ l.flatMap cells, u.oneCell' = true := fun u hu => by
  obtain ⟨x, _, hx⟩ := List.mem_flatMap.1 hu
  exact h x u hx
theorem sock_one (x : SockV) : ∀ u ∈ x.cells, u.oneCell' = true := fun u hu => by
  simp [SockV.cells, Sl.v] at hu
  rcases hu with rfl | rfl | rfl | rfl | rfl | rfl | rfl | rfl | rfl <;> rfl
theorem inode_one (x : InodeV) : ∀ u ∈ x.cells, u.oneCell' = true := fun u hu => by
  simp [InodeV.cells, Sl.v] at hu
  rcases hu with rfl | rfl | rfl | rfl | rfl | rfl | rfl | rfl | rfl <;> rfl

end Go.Proofs.Yteaglbfodeineaa
