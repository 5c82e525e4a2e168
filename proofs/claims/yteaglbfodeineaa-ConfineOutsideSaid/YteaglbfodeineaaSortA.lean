/-
  Things in order: plain words; a list of the call's own as the sort's contract has it.
-/
import Derived.Test.YteaglbfodeineaaLists
import Derived.Test.YteaglbfodeineaaCmp
import Derived.Shelf.GgSortFunc.InsertionK
import Derived.Shelf.SlSortCmp.InsertionK
namespace Go.Proofs.Yteaglbfodeineaa
open Go.RowKit Go.Sort

/-- One thing stands ahead of another: by kind, then by number. -/
def Lt2 (x y : Ob) : Prop := x.1 < y.1 ∨ x.1 = y.1 ∧ x.2 < y.2
/-- In order, each once. -/
def Srt (l : List Ob) : Prop := l.Pairwise Lt2

theorem lt2_irrefl (x : Ob) : ¬ Lt2 x x := by unfold Lt2; omega
theorem lt2_trans {x y z : Ob} (h : Lt2 x y) (k : Lt2 y z) : Lt2 x z := by unfold Lt2 at *; omega
theorem lt2_asymm {x y : Ob} (h : Lt2 x y) : ¬ Lt2 y x := by unfold Lt2 at *; omega
theorem cmpO_lt (x y : Ob) : cmpO x y < 0 ↔ Lt2 x y := by
  unfold cmpO cmpI Lt2
  by_cases h1 : x.1 < y.1
  · simp [h1]
  · by_cases h2 : y.1 < x.1
    · simp [h1, h2]; omega
    · have h3 : x.1 = y.1 := by omega
      by_cases h4 : x.2 < y.2
      · simp [h3, h4]
      · by_cases h5 : y.2 < x.2 <;> simp [h3, h4, h5]
theorem lt2_total {x y : Ob} (h : ¬ Lt2 x y) (h' : ¬ Lt2 y x) : x = y := by
  unfold Lt2 at *
  exact Prod.ext (by omega) (by omega)

/-- A list in order is told by its members. -/
theorem srt_ext : ∀ {l m : List Ob}, Srt l → Srt m → (∀ o, o ∈ l ↔ o ∈ m) → l = m
  | [], [], _, _, _ => rfl
  | [], y :: m, _, _, h => by simpa using (h y).2 (by simp)
  | x :: l, [], _, _, h => by simpa using (h x).1 (by simp)
  | x :: l, y :: m, hl, hm, h => by
    obtain ⟨h1, h2⟩ := List.pairwise_cons.1 hl
    obtain ⟨k1, k2⟩ := List.pairwise_cons.1 hm
    have e : x = y := by
      rcases List.mem_cons.1 ((h x).1 (by simp)) with e | e
      · exact e
      · rcases List.mem_cons.1 ((h y).2 (by simp)) with e' | e'
        · exact e'.symm
        · exact absurd (lt2_trans (k1 x e) (h1 y e')) (lt2_irrefl _)
    subst e
    rw [srt_ext h2 k2 (fun o => ?_)]
    constructor
    · intro ho
      rcases List.mem_cons.1 ((h o).1 (by simp [ho])) with e | e
      · subst e; exact absurd (h1 _ ho) (lt2_irrefl _)
      · exact e
    · intro ho
      rcases List.mem_cons.1 ((h o).2 (by simp [ho])) with e | e
      · subst e; exact absurd (k1 _ ho) (lt2_irrefl _)
      · exact e

theorem srt_nodup {l : List Ob} (h : Srt l) : l.Nodup := List.Pairwise.imp (S := fun a b : Ob => a ≠ b) (fun {a b} (hxy : Lt2 a b) (e : a = b) => lt2_irrefl b (by rw [e] at hxy; exact hxy)) h

theorem srt_filter {l : List Ob} (h : Srt l) (p : Ob → Bool) : Srt (l.filter p) := List.Pairwise.filter p h

theorem srt_next {l : List Ob} (h : Srt l) : ∀ i x y, l[i]? = some x → l[i + 1]? = some y → x ≠ y := fun i x y hx hy e => by
  obtain ⟨hi, rfl⟩ := List.getElem?_eq_some_iff.1 hx
  obtain ⟨hi', rfl⟩ := List.getElem?_eq_some_iff.1 hy
  have := List.pairwise_iff_getElem.1 h i (i + 1) hi hi' (by omega)
  rw [e] at this
  exact lt2_irrefl _ this

/-- The order, as the sort's contract has it. -/
theorem cmpO_swo : Go.Sort.SWO (ltOf cmpO) where
  irrefl x := by simp only [ltOf, cmpO_lt, decide_eq_false_iff_not]; exact lt2_irrefl x
  trans x y z h1 h2 := by simp only [ltOf, cmpO_lt, decide_eq_true_eq] at *; exact lt2_trans h1 h2
  ntrans x y z h1 h2 := by
    simp only [ltOf, cmpO_lt, decide_eq_false_iff_not] at *
    unfold Lt2 at *; omega

theorem srt_of_sorted {l : List Ob} (hnd : l.Nodup) (h : SortedIn (ltOf cmpO) 0 l.length l.toArray) : Srt l := by
  refine List.pairwise_iff_getElem.2 fun i j hi hj hij => ?_
  have h1 := h i j (Nat.zero_le _) hij hj
  simp only [ltOf, cmpO_lt, decide_eq_false_iff_not] at h1
  rw [getElem!_pos l.toArray j (by simpa using hj), getElem!_pos l.toArray i (by simpa using hi)] at h1
  simp only [List.getElem_toArray] at h1
  by_cases h2 : Lt2 l[i] l[j]
  · exact h2
  · exact absurd (lt2_total h2 h1) (List.pairwise_iff_getElem.1 hnd i j hi hj hij)

def encOb (x : Ob) : List Value := [.int .i64 x.1, .int .i64 x.2]

theorem flat_ob (l : List Ob) : flatK encOb 2 l.toArray = (obCells l).toArray := by
  apply ext_get!
  · simp [obCells_length]
  · intro t ht
    simp only [size_flatK, List.size_toArray] at ht
    rw [get_flatK _ _ _ _ (by simpa using ht)]
    have hi : t / 2 < l.length := by omega
    have hx : l[t / 2]? = some l[t / 2] := by simp
    obtain ⟨h1, h2⟩ := obCells_get hx
    rw [getElem!_pos l.toArray (t / 2) (by simpa using hi)]
    simp only [List.getElem_toArray]
    have hlen : t < (obCells l).toArray.size := by simp [obCells_length]; omega
    rw [getElem!_pos _ t hlen]
    simp only [List.getElem_toArray]
    rcases (show t % 2 = 0 ∨ t % 2 = 1 by omega) with h | h
    · rw [show t / 2 * 2 = t by omega] at h1
      rw [h]
      obtain ⟨_, h1⟩ := List.getElem?_eq_some_iff.1 h1
      rw [h1]; rfl
    · rw [show t / 2 * 2 + 1 = t by omega] at h2
      rw [h]
      obtain ⟨_, h2⟩ := List.getElem?_eq_some_iff.1 h2
      rw [h2]; rfl

theorem take_put (cur : Array Value) (cs : List Value) (h : cs.length ≤ cur.size) : (putCells id 0 cs.toArray cur).toList.take cs.length = cs := by
  apply List.ext_getElem?
  intro j
  by_cases hj : j < cs.length
  · rw [List.getElem?_take_of_lt hj, Array.getElem?_toList]
    simp [putCells, hj, show j < cur.size by omega]
  · rw [List.getElem?_take_eq_none (by omega), List.getElem?_eq_none (by omega)]

section
variable {w : World} {g cap n : Nat} {cur : Array Value} {os : Array Obj} {base : Nat} {l l' : List Ob}

theorem holds_ob (hb : w.heap[g]? = some (.cells cur 70 (0, 0))) (ht : cur.toList.take (l.length * 2) = obCells l) : HoldsK encOb 2 w g 0 l.toArray := by
  unfold HoldsK
  rw [flat_ob]
  intro j hj
  have hj' : j < l.length * 2 := by simpa [obCells_length] using hj
  have h1 : (obCells l)[j]? = cur.toList[j]? := by rw [← ht, List.getElem?_take_of_lt hj']
  have h2 : (obCells l)[j]? = some ((obCells l)[j]'(by simpa using hj)) := by simp
  rw [h2, Array.getElem?_toList] at h1
  refine ⟨?_, block_free hb _⟩
  rw [Nat.zero_add, getElem!_pos _ j hj]
  simp [World.cell?, hb, ← h1]

theorem heap_sorted (hb : w.heap[g]? = some (.cells cur 70 (0, 0))) : (sortWorldK encOb 2 w g 0 n l'.toArray os).heap[g]? = some (.cells (putCells id 0 (obCells l').toArray cur) 70 (0, 0)) := by
  unfold sortWorldK putRowK
  rw [flat_ob]
  have hg := lt_of_heap hb
  have h0 : (Sort.ahead w n).heap = w.heap := rfl
  have hlt : g < (putRow id (Sort.ahead w n) g 0 (obCells l').toArray).heap.size := by simpa [putRow, mapBlock, h0] using hg
  show ((putRow id (Sort.ahead w n) g 0 (obCells l').toArray).heap ++ os)[g]? = _
  rw [Array.getElem?_append_left hlt]
  simp [putRow, mapBlock, Sort.ahead, Array.getElem?_modify, hb, onCells]

theorem turned_sorted : Turned [g] w (sortWorldK encOb 2 w g 0 n l'.toArray os) := by
  unfold sortWorldK putRowK
  refine ⟨rfl, rfl, rfl, ?_, fun k hk hS => ?_⟩
  · show w.heap.size ≤ (_ ++ os).size
    simp [putRow, mapBlock, Sort.ahead]
  · have hne : g ≠ k := fun e => hS (by simp [e])
    show ((putRow id (Sort.ahead w n) g 0 _).heap ++ os)[k]? = _
    have hlt : k < (putRow id (Sort.ahead w n) g 0 (flatK encOb 2 l'.toArray)).heap.size := by simpa [putRow, mapBlock, Sort.ahead] using hk
    rw [Array.getElem?_append_left hlt]
    simp [putRow, mapBlock, Sort.ahead, Array.getElem?_modify, hne]

theorem own_sorted (hl : l'.length = l.length) (hbase : base ≤ g) (hb : w.heap[g]? = some (.cells cur 70 (0, 0))) (h1 : l.length ≤ cap) (h2 : cap ≤ maxLen) (h3 : cur.size = cap * 2) :
    OwnL (sortWorldK encOb 2 w g 0 n l'.toArray os) base (.slice (some ⟨g, 0, none⟩) l.length cap) l' := by
  refine ⟨by rw [obCells_length], .inr ⟨g, cap, _, by rw [hl], hbase, heap_sorted hb, by omega, h2, by simp [putCells, h3], ?_⟩⟩
  rw [← obCells_length]
  exact take_put _ _ (by rw [obCells_length]; omega)
end

end Go.Proofs.Yteaglbfodeineaa
