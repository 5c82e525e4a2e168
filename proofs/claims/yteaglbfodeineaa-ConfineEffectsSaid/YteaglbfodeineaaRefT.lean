/-
  Things in order, and one more: the reference's Put.
  What the reference's walks use: lists of things below a bound; lists of numbers of the call's own.
  What lies below an inode, as the reference goes through it: in plain words; where its lists lie.
  What lies below an inode: the walk of the reference's below.
  What an open file is of: the walk of the reference's opened.
  What is come to from one thing, as the reference goes on: where it stands; at a thing that is neither a process nor a socket.
  What is come to from one thing, as the reference goes on: at a socket; at any thing.
  What a process can come to, by the reference: until there is no more.
-/
import Derived.Test.YteaglbfodeineaaSortA
import Derived.Test.YteaglbfodeineaaTopA
import Derived.Test.YteaglbfodeineaaAppL
import Derived.Test.YteaglbfodeineaaEnter
import Derived.Test.YteaglbfodeineaaAuth
import Derived.Test.YteaglbfodeineaaEff
import Derived.Deep.RegionWith
import Derived.Deep.RegionLaw
import Derived.Deep.RegionHeld3
import Derived.Deep.DeepCutAuto
import Derived.Test.YteaglbfodeineaaSock
namespace Go.Proofs.Yteaglbfodeineaa
open Go.RowKit

/-- A list of things in order, in memory. -/
structure Ord (w : World) (s : Sl Ob) : Prop where
  rd : RSl 2 RObj w s
  srt : Srt s.xs

theorem Ord.stays {w w' : World} {s : Sl Ob} (h : Ord w s) (ht : Turned [] w w') : Ord w' s := ⟨h.rd.stays stays_obj ht, h.srt⟩
theorem Ord.dom {w : World} {s : Sl Ob} (h : Ord w s) : ∀ o ∈ s.xs, KObj.dom o := fun o ho => by
  obtain ⟨i, hi⟩ := List.getElem?_of_mem ho
  obtain ⟨b, o', cs, _, hR, _⟩ := at_cell (h.rd.at_ i o hi)
  exact hR.2

/-- How far Put has come: the first k have been gone through. -/
def PutInv (l : List Ob) (o : Ob) (k : Nat) (b : Bool) (out : List Ob) : Prop :=
  (b = false ∧ out = l.take k ∧ ∀ x ∈ l.take k, Lt2 x o) ∨
  (b = true ∧ ∃ j, j < k ∧ out = l.take j ++ o :: (l.take k).drop j ∧ (∀ x ∈ l.take j, Lt2 x o) ∧ ∃ y, l[j]? = some y ∧ Lt2 o y)

theorem PutInv.start (l : List Ob) (o : Ob) : PutInv l o 0 false [] := .inl ⟨rfl, by simp, by simp⟩
theorem take_next {l : List Ob} {k : Nat} {x : Ob} (hx : l[k]? = some x) : l.take (k + 1) = l.take k ++ [x] := by rw [List.take_add_one, hx]; rfl
theorem PutInv.pass {l : List Ob} {o x : Ob} {k : Nat} {out : List Ob} (h : PutInv l o k false out) (hx : l[k]? = some x) (hlt : Lt2 x o) : PutInv l o (k + 1) false (out ++ [x]) := by
  rcases h with ⟨_, rfl, h⟩ | ⟨h, _⟩
  · refine .inl ⟨rfl, (take_next hx).symm, fun y hy => ?_⟩
    rw [take_next hx] at hy
    rcases List.mem_append.1 hy with hy | hy
    · exact h y hy
    · simp at hy; subst hy; exact hlt
  · cases h
theorem PutInv.put {l : List Ob} {o x : Ob} {k : Nat} {out : List Ob} (h : PutInv l o k false out) (hx : l[k]? = some x) (hlt : Lt2 o x) : PutInv l o (k + 1) true (out ++ [o] ++ [x]) := by
  rcases h with ⟨_, rfl, h⟩ | ⟨h, _⟩
  · have hk := (List.getElem?_eq_some_iff.1 hx).1
    refine .inr ⟨rfl, k, by omega, ?_, h, x, hx, hlt⟩
    rw [take_next hx, List.drop_append_of_le_length (by simp; omega), List.drop_of_length_le (by simp; omega)]
    simp
  · cases h
theorem PutInv.more {l : List Ob} {o x : Ob} {k : Nat} {out : List Ob} (h : PutInv l o k true out) (hx : l[k]? = some x) : PutInv l o (k + 1) true (out ++ [x]) := by
  rcases h with ⟨h, _⟩ | ⟨_, j, hj, rfl, h1, h2⟩
  · cases h
  · have hk := (List.getElem?_eq_some_iff.1 hx).1
    refine .inr ⟨rfl, j, by omega, ?_, h1, h2⟩
    rw [take_next hx, List.drop_append_of_le_length (by simp; omega)]
    simp
theorem PutInv.len {l : List Ob} {o : Ob} {k : Nat} {b : Bool} {out : List Ob} (h : PutInv l o k b out) : out.length ≤ l.length + 1 := by
  rcases h with ⟨_, rfl, _⟩ | ⟨_, j, hj, rfl, _⟩
  · simp; omega
  · simp; omega
theorem PutInv.mem {l : List Ob} {o : Ob} {k : Nat} {b : Bool} {out : List Ob} (h : PutInv l o k b out) : ∀ x ∈ out, x ∈ l ∨ x = o := by
  rcases h with ⟨_, rfl, _⟩ | ⟨_, j, hj, rfl, _⟩
  · exact fun x hx => .inl (List.mem_of_mem_take hx)
  · intro x hx
    rcases List.mem_append.1 hx with hx | hx
    · exact .inl (List.mem_of_mem_take hx)
    · rcases List.mem_cons.1 hx with hx | hx
      · exact .inr hx
      · exact .inl (List.mem_of_mem_take (List.mem_of_mem_drop hx))

/-- At the end: l with o, in order. -/
theorem PutInv.done {l : List Ob} {o : Ob} {b : Bool} {out : List Ob} (h : PutInv l o l.length b out) (hl : Srt l) : Srt (if b then out else out ++ [o]) ∧ ∀ x, x ∈ (if b then out else out ++ [o]) ↔ x ∈ l ∨ x = o := by
  rcases h with ⟨rfl, rfl, h⟩ | ⟨rfl, j, hj, rfl, h1, y, hy, h2⟩
  · rw [List.take_length] at h ⊢
    refine ⟨?_, by simp⟩
    exact List.pairwise_append.2 ⟨hl, List.pairwise_singleton _ _, fun a ha b hb => by simp at hb; subst hb; exact h a ha⟩
  · rw [List.take_length]
    simp only [if_true]
    have hsplit : l = l.take j ++ l.drop j := (List.take_append_drop j l).symm
    have hp : Srt (l.take j ++ l.drop j) := by rw [← hsplit]; exact hl
    obtain ⟨p1, p2, p3⟩ := List.pairwise_append.1 hp
    have hjl := (List.getElem?_eq_some_iff.1 hy).1
    have hdj : l.drop j = y :: l.drop (j + 1) := by
      rw [List.drop_eq_getElem_cons hjl]
      have := (List.getElem?_eq_some_iff.1 hy).2
      rw [this]
    have hgt : ∀ x ∈ l.drop j, Lt2 o x := fun x hx => by
      rw [hdj] at hx p2
      rcases List.mem_cons.1 hx with rfl | hx
      · exact h2
      · exact lt2_trans h2 ((List.pairwise_cons.1 p2).1 x hx)
    refine ⟨List.pairwise_append.2 ⟨p1, List.pairwise_cons.2 ⟨hgt, p2⟩, fun a ha b hb => ?_⟩, fun x => ?_⟩
    · rcases List.mem_cons.1 hb with rfl | hb
      · exact h1 a ha
      · exact p3 a ha b hb
    · conv => rhs; rw [hsplit]
      simp only [List.mem_append, List.mem_cons]
      constructor
      · rintro (h | h | h)
        · exact .inl (.inl h)
        · exact .inr h
        · exact .inl (.inr h)
      · rintro ((h | h) | h)
        · exact .inl h
        · exact .inr (.inr h)
        · exact .inr (.inl h)

theorem OwnL.ne {w : World} {base : Nat} {v : Value} {l : List Ob} (h : OwnL w base v l) : ∀ k, w.heap.size ≤ k → v.ownBlock ≠ some k := fun k hk e => by
  have := (World.ownsRow.lt h k e).2
  omega

set_option maxRecDepth 100000 in
set_option maxHeartbeats 8000000 in
theorem put_any {w : World} {s : Sl Ob} (hs : Ord w s) {kind id : Int} (hk : I64 kind) (hi : I64 id) (hlen : s.len ≤ 1000000) :
    Calls Try.prog 36 #[s.v, .int .i64 kind, .int .i64 id] w fun e w' => ∃ t : Sl Ob, e = .returned t.v ∧ Ord w' t ∧ t.len ≤ s.len + 1 ∧ Turned [] w w' ∧ (t = s ∨ OwnL w' w.heap.size t.v t.xs) ∧ ∀ x, x ∈ t.xs ↔ x ∈ s.xs ∨ x = (kind, id) := by
  have HK := Lib.hid (show KObj.dom (kind, id) from ⟨hk, hi⟩)
  have HDM := Lib.hid hs.dom
  have HS := Lib.hid hs
  have hlc := hs.rd.lc
  have hcm := hs.rd.cm
  have hn := hs.rd.n
  unfold maxLen at hcm
  have HFIN : Hid (∀ (b : Bool) (out : List Ob) (v : Value) (w4 : World), PutInv s.xs (kind, id) s.xs.length b out → OwnL w4 w.heap.size v (if b then out else out ++ [(kind, id)]) → Turned [] w w4 → ∃ t : Sl Ob, Ending.returned v = .returned t.v ∧ Ord w4 t ∧ t.len ≤ s.len + 1 ∧ Turned [] w w4 ∧ (t = s ∨ OwnL w4 w.heap.size t.v t.xs) ∧ ∀ x, x ∈ t.xs ↔ x ∈ s.xs ∨ x = (kind, id)) := Lib.hid fun b out v w4 hp ho ht => by
    obtain ⟨h1, h2⟩ := hp.done hs.srt
    obtain ⟨t, rfl, hx, hr⟩ := ho.sl (fun o ho => by
      rcases (h2 o).1 ho with h | rfl
      · exact hs.dom o h
      · exact ⟨hk, hi⟩)
    refine ⟨t, rfl, ⟨hr, by rw [hx]; exact h1⟩, ?_, ht, .inr (by rw [hx]; exact ho), fun x => by rw [hx]; exact h2 x⟩
    rw [← hr.n, hx]
    have := hp.len
    cases b
    · rcases hp with ⟨_, rfl, _⟩ | ⟨h, _⟩
      · simp; omega
      · cases h
    · simp only [if_true]; omega
  clear hs hk hi
  obtain ⟨a, n, c, xs⟩ := s
  simp only [Sl.v] at hlc hcm hn hlen HFIN ⊢
  go_enter Try.func36, Try.ntmps36
  go_wp2
  generalize hW : World.alloc w _ = W
  have HTW := Lib.hid (show Turned [] w W by rw [← hW]; exact (Turned.refl _ _).alloc _)
  have HO := Lib.hid (show OwnL W w.heap.size (.slice (some ⟨w.heap.size, 0, none⟩) 0 0) [] by
    rw [← hW]
    exact ⟨rfl, .inr ⟨w.heap.size, 0, _, rfl, Nat.le_refl _, heap_alloc_new _ _, Nat.le_refl _, Nat.zero_le _, rfl, rfl⟩⟩)
  clear hW
  go_loopw [7, 8, 9] (fun v bv i wr => ∃ (k : Nat) (b : Bool) (out : List Ob), k ≤ n ∧ i = .int .i64 k ∧ bv = .bool b ∧ OwnL wr w.heap.size v out ∧ PutInv xs (kind, id) k b out ∧ Turned [] w wr) (fun _ _ i _ => n - (intOf i).toNat)
  case atStart => exact ⟨0, false, [], by omega, rfl, rfl, HO.out, PutInv.start _ _, HTW.out⟩
  case round =>
    obtain ⟨k, b, out, hk, rfl, rfl, hown, hp, hT⟩ := hrel
    have HOWN := Lib.hid hown
    have HPI := Lib.hid hp
    have HT := Lib.hid hT
    have hout := hp.len
    have hwr := hT.size
    clear hown hp hT HTW HO
    by_cases hlt : k < n
    · obtain ⟨x, hx⟩ : ∃ x, xs[k]? = some x := ⟨xs[k], by simp⟩
      have HX := Lib.hid hx
      obtain ⟨bb, o, hab, e0, e1, -⟩ := obj_cells ((HS.out.stays HT.out).rd.at_ k x hx)
      simp only at hab
      subst hab
      clear hx
      by_cases hq : x.1 = kind
      · have q1 : (x.1 == kind) = true := by simp [hq]
        by_cases hq2 : x.2 = id
        · have q2 : (x.2 == id) = true := by simp [hq2]
          have HE := Lib.hid (show (kind, id) ∈ xs from by rw [← hq, ← hq2]; exact List.mem_of_getElem? HX.out)
          clear hq hq2
          go_wp2
          go_ret
          exact ⟨_, rfl, (HS.out.stays HT.out).stays ((Turned.refl [] wr).alloc _), Nat.le_succ _, HT.out.alloc _, .inl rfl, fun y => ⟨fun h => .inl h, fun h => h.elim _root_.id (fun e => by rw [e]; exact HE.out)⟩⟩
        · have q2 : (x.2 == id) = false := by simp [hq2]
          have q3 : ¬ kind < x.1 := by omega
          cases b with
          | true =>
            clear hq2
            have HQ := Lib.hid hq
            clear hq
            go_wp2_with (at_builtin; refine wpList_append_ob (by rfl) _ _ rfl rfl ((HOWN.out.keep ((Turned.refl [] wr).alloc _)).keep ((Turned.refl [] _).alloc _)) x _ _ rfl ⟨_, heap_alloc_second _ _ _⟩ (by omega) (by simp; omega) ?_; intro v4 w4 ho4 hg4; have HO4 := Lib.hid ho4; have HT4 := Lib.hid (show Turned [] w w4 from ((HT.out.alloc _).alloc _).list ((HOWN.out.keep ((Turned.refl [] wr).alloc _)).keep ((Turned.refl [] _).alloc _)) hg4 (Nat.le_refl _)); clear ho4 hg4)
            go_roundw
            case rel => exact ⟨k + 1, true, _, by omega, by go_num, rfl, HO4.out, HPI.out.more HX.out, HT4.out⟩
            case measure => simp [intOf]; omega
          | false =>
            by_cases hg : id < x.2
            · have HG := Lib.hid (show Lt2 (kind, id) x from .inr ⟨hq.symm, hg⟩)
              clear hq2 hq
              go_wp2_with (first | (at_builtin; (refine wpList_append_ob (by rfl) _ _ rfl rfl ((HOWN.out.keep ((Turned.refl [] wr).alloc _)).keep ((Turned.refl [] _).alloc _)) (kind, id) _ _ rfl ⟨_, heap_alloc_second _ _ _⟩ (by omega) (by simp; omega) ?_; intro v3 w3 ho3 hg3; have HO3 := Lib.hid ho3; have HT3 := Lib.hid (show Turned [] w w3 from ((HT.out.alloc _).alloc _).list ((HOWN.out.keep ((Turned.refl [] wr).alloc _)).keep ((Turned.refl [] _).alloc _)) hg3 (Nat.le_refl _)); have x0 : w3.cell? ⟨wr.heap.size, 0, none⟩ = some (.int .i64 x.1) := keepc hg3 (HOWN.out.ne wr.heap.size (Nat.le_refl _)) (((Turned.refl [] (wr.alloc _)).alloc _).cell (World.cell?_alloc_mark _ _ _ _ _) (by simp)); have x1 : w3.cell? ⟨wr.heap.size, 1, none⟩ = some (.int .i64 x.2) := keepc hg3 (HOWN.out.ne wr.heap.size (Nat.le_refl _)) (((Turned.refl [] (wr.alloc _)).alloc _).cell (World.cell?_alloc_mark _ _ _ _ _) (by simp)); have hs3 : w.heap.size ≤ w3.heap.size := HT3.out.size; clear ho3 hg3)) | (at_builtin; refine wpList_append_ob (by rfl) _ _ rfl rfl (HO3.out.keep ((Turned.refl [] w3).alloc _)) x _ _ rfl ⟨_, heap_alloc_new _ _⟩ (by simp; omega) (by simp; omega) ?_; intro v4 w4 ho4 hg4; have HO4 := Lib.hid ho4; have HT4 := Lib.hid (show Turned [] w w4 from (HT3.out.alloc _).list (HO3.out.keep ((Turned.refl [] w3).alloc _)) hg4 (Nat.le_refl _)); clear ho4 hg4))
              go_roundw
              case rel => exact ⟨k + 1, true, _, by omega, by go_num, rfl, HO4.out, HPI.out.put HX.out HG.out, HT4.out⟩
              case measure => simp [intOf]; omega
            · have HG := Lib.hid (show Lt2 x (kind, id) from .inr ⟨hq, by show x.2 < id; omega⟩)
              clear hq2 hq
              go_wp2_with (at_builtin; refine wpList_append_ob (by rfl) _ _ rfl rfl ((HOWN.out.keep ((Turned.refl [] wr).alloc _)).keep ((Turned.refl [] _).alloc _)) x _ _ rfl ⟨_, heap_alloc_second _ _ _⟩ (by omega) (by simp; omega) ?_; intro v4 w4 ho4 hg4; have HO4 := Lib.hid ho4; have HT4 := Lib.hid (show Turned [] w w4 from ((HT.out.alloc _).alloc _).list ((HOWN.out.keep ((Turned.refl [] wr).alloc _)).keep ((Turned.refl [] _).alloc _)) hg4 (Nat.le_refl _)); clear ho4 hg4)
              go_roundw
              case rel => exact ⟨k + 1, false, _, by omega, by go_num, rfl, HO4.out, HPI.out.pass HX.out HG.out, HT4.out⟩
              case measure => simp [intOf]; omega
      · have q1 : (x.1 == kind) = false := by simp [hq]
        cases b with
        | true =>
          clear hq
          go_wp2_with (at_builtin; refine wpList_append_ob (by rfl) _ _ rfl rfl ((HOWN.out.keep ((Turned.refl [] wr).alloc _)).keep ((Turned.refl [] _).alloc _)) x _ _ rfl ⟨_, heap_alloc_second _ _ _⟩ (by omega) (by simp; omega) ?_; intro v4 w4 ho4 hg4; have HO4 := Lib.hid ho4; have HT4 := Lib.hid (show Turned [] w w4 from ((HT.out.alloc _).alloc _).list ((HOWN.out.keep ((Turned.refl [] wr).alloc _)).keep ((Turned.refl [] _).alloc _)) hg4 (Nat.le_refl _)); clear ho4 hg4)
          go_roundw
          case rel => exact ⟨k + 1, true, _, by omega, by go_num, rfl, HO4.out, HPI.out.more HX.out, HT4.out⟩
          case measure => simp [intOf]; omega
        | false =>
          by_cases hg : kind < x.1
          · have HG := Lib.hid (show Lt2 (kind, id) x from .inl hg)
            clear hq
            go_wp2_with (first | (at_builtin; (refine wpList_append_ob (by rfl) _ _ rfl rfl ((HOWN.out.keep ((Turned.refl [] wr).alloc _)).keep ((Turned.refl [] _).alloc _)) (kind, id) _ _ rfl ⟨_, heap_alloc_second _ _ _⟩ (by omega) (by simp; omega) ?_; intro v3 w3 ho3 hg3; have HO3 := Lib.hid ho3; have HT3 := Lib.hid (show Turned [] w w3 from ((HT.out.alloc _).alloc _).list ((HOWN.out.keep ((Turned.refl [] wr).alloc _)).keep ((Turned.refl [] _).alloc _)) hg3 (Nat.le_refl _)); have x0 : w3.cell? ⟨wr.heap.size, 0, none⟩ = some (.int .i64 x.1) := keepc hg3 (HOWN.out.ne wr.heap.size (Nat.le_refl _)) (((Turned.refl [] (wr.alloc _)).alloc _).cell (World.cell?_alloc_mark _ _ _ _ _) (by simp)); have x1 : w3.cell? ⟨wr.heap.size, 1, none⟩ = some (.int .i64 x.2) := keepc hg3 (HOWN.out.ne wr.heap.size (Nat.le_refl _)) (((Turned.refl [] (wr.alloc _)).alloc _).cell (World.cell?_alloc_mark _ _ _ _ _) (by simp)); have hs3 : w.heap.size ≤ w3.heap.size := HT3.out.size; clear ho3 hg3)) | (at_builtin; refine wpList_append_ob (by rfl) _ _ rfl rfl (HO3.out.keep ((Turned.refl [] w3).alloc _)) x _ _ rfl ⟨_, heap_alloc_new _ _⟩ (by simp; omega) (by simp; omega) ?_; intro v4 w4 ho4 hg4; have HO4 := Lib.hid ho4; have HT4 := Lib.hid (show Turned [] w w4 from (HT3.out.alloc _).list (HO3.out.keep ((Turned.refl [] w3).alloc _)) hg4 (Nat.le_refl _)); clear ho4 hg4))
            go_roundw
            case rel => exact ⟨k + 1, true, _, by omega, by go_num, rfl, HO4.out, HPI.out.put HX.out HG.out, HT4.out⟩
            case measure => simp [intOf]; omega
          · have HG := Lib.hid (show Lt2 x (kind, id) from .inl (by show x.1 < kind; omega))
            clear hq
            go_wp2_with (at_builtin; refine wpList_append_ob (by rfl) _ _ rfl rfl ((HOWN.out.keep ((Turned.refl [] wr).alloc _)).keep ((Turned.refl [] _).alloc _)) x _ _ rfl ⟨_, heap_alloc_second _ _ _⟩ (by omega) (by simp; omega) ?_; intro v4 w4 ho4 hg4; have HO4 := Lib.hid ho4; have HT4 := Lib.hid (show Turned [] w w4 from ((HT.out.alloc _).alloc _).list ((HOWN.out.keep ((Turned.refl [] wr).alloc _)).keep ((Turned.refl [] _).alloc _)) hg4 (Nat.le_refl _)); clear ho4 hg4)
            go_roundw
            case rel => exact ⟨k + 1, false, _, by omega, by go_num, rfl, HO4.out, HPI.out.pass HX.out HG.out, HT4.out⟩
            case measure => simp [intOf]; omega
    · obtain rfl : k = n := by omega
      cases b with
      | true =>
        go_wp2
        go_ret
        exact HFIN.out true out _ _ (by show PutInv xs _ xs.length _ _; rw [hn]; exact HPI.out) HOWN.out HT.out
      | false =>
        go_wp2_with (at_builtin; refine wpList_append_ob (by rfl) _ _ rfl rfl (HOWN.out.keep ((Turned.refl [] wr).alloc _)) (kind, id) _ _ rfl ⟨_, heap_alloc_new _ _⟩ (by omega) (by simp; omega) ?_; intro v3 w3 ho3 hg3; have HO3 := Lib.hid ho3; have HT3 := Lib.hid (show Turned [] w w3 from (HT.out.alloc _).list (HOWN.out.keep ((Turned.refl [] wr).alloc _)) hg3 (Nat.le_refl _)); clear ho3 hg3)
        go_ret
        exact HFIN.out false out _ _ (by show PutInv xs _ xs.length _ _; rw [hn]; exact HPI.out) HO3.out HT3.out
end Go.Proofs.Yteaglbfodeineaa

namespace Go.Proofs.Yteaglbfodeineaa
open Go.RowKit

/-- A list of things in order, all of which the dump may come to. -/
structure Lst (D : DumpV) (pid : Int) (w : World) (s : Sl Ob) : Prop where
  ord : Ord w s
  sub : ∀ o ∈ s.xs, o ∈ univ D pid

theorem Lst.stays {D : DumpV} {pid : Int} {w w' : World} {s : Sl Ob} (h : Lst D pid w s) (ht : Turned [] w w') : Lst D pid w' s := ⟨h.ord.stays ht, h.sub⟩
theorem Lst.len {D : DumpV} {pid : Int} {w : World} {s : Sl Ob} (h : Lst D pid w s) (hD : Small D) : s.len ≤ 100000 := by
  have h1 := nodup_sub_length (srt_nodup h.ord.srt) h.sub
  rw [univ_length] at h1
  have := hD.ids
  have := h.ord.rd.n
  omega

/-- What a step of the reference comes to: the list, and the things of P. -/
def Gets (D : DumpV) (pid : Int) (s : Sl Ob) (P : Ob → Prop) (w : World) (e : Ending) (w' : World) : Prop :=
  ∃ t : Sl Ob, e = .returned (.slice t.a t.len t.cap) ∧ Lst D pid w' t ∧ Turned [] w w' ∧ (t = s ∨ OwnL w' w.heap.size (.slice t.a t.len t.cap) t.xs) ∧ ∀ x, x ∈ t.xs ↔ x ∈ s.xs ∨ P x

theorem put_u {D : DumpV} {pid : Int} {w : World} {s : Sl Ob} (hsm : Small D) (h : Lst D pid w s) {kind id : Int} (ho : (kind, id) ∈ univ D pid) (hk : I64 kind) (hi : I64 id) :
    Calls Try.prog 36 #[.slice s.a s.len s.cap, .int .i64 kind, .int .i64 id] w (Gets D pid s (fun x => x = (kind, id)) w) :=
  (put_any h.ord hk hi (by have := h.len hsm; omega)).mono (by
    rintro e w' ⟨t, rfl, ho', _, ht, hown, hm⟩
    exact ⟨t, rfl, ⟨ho', fun o h' => ((hm o).1 h').elim (h.sub o) (fun e => by rw [e]; exact ho)⟩, ht, hown, hm⟩)

/-- Numbers in a block of the call's own. -/
def OwnI (w : World) (base : Nat) (v : Value) (l : List Int) : Prop := w.ownsRow base 3 1 v l.length (l.map (Value.int .i64)) ∧ ∀ n ∈ l, I64 n

theorem OwnI.keep {w w' : World} {base : Nat} {v : Value} {l : List Int} (h : OwnI w base v l) (ht : Turned [] w w') : OwnI w' base v l := ⟨ht.owns h.1 (fun k _ => by simp), h.2⟩

theorem OwnI.sl {w : World} {base : Nat} {v : Value} {l : List Int} (h : OwnI w base v l) : ∃ s : Sl Int, v = .slice s.a s.len s.cap ∧ s.xs = l ∧ RSl 1 (RInt .i64) w s := by
  rcases (QRow.of_owns h.1).2 with ⟨rfl, h0⟩ | ⟨g, off, cap, cur, rfl, _, hb, hc1, hc2, _, hc3⟩
  · exact ⟨⟨none, 0, 0, l⟩, rfl, rfl, Nat.le_refl _, Nat.zero_le _, fun _ => ⟨rfl, rfl⟩, h0, fun i x hx => by have := (List.getElem?_eq_some_iff.1 hx).1; simp only at this; omega⟩
  · refine ⟨⟨some ⟨g, off, none⟩, l.length, cap, l⟩, rfl, rfl, hc1, hc2, fun e => by simp at e, rfl, fun i x hx => ?_⟩
    have h1 := hc3 i (.int .i64 x) (by rw [List.getElem?_map]; simp only at hx; rw [hx]; rfl)
    refine ⟨g, off, [.int .i64 x], rfl, rfl, fun j u hj => ?_, rfl, h.2 x (List.mem_of_getElem? hx)⟩
    match j, hj with
    | 0, hj => simp at hj; subst hj; simp [World.cell?, hb]; exact h1

/-- One number more, at the operation. -/
theorem wpList_append_int {w : World} {ops : Array Oper} {rest : List Oper} {o : Oper} {a : Act} {Q : Exit → Act → World → Prop} (hw : Region.wanted o (yielded ops a.tmps) = true) (s x : Operand)
    (ho : o.op = .call { callee := .builtin .append, args := #[s, x], argTypes := #[61, 61] })
    {base : Nat} {v : Value} {l : List Int} (hs : a.eval s = v) (hown : OwnI w base v l) (p : Int) (hp : I64 p) (b c : Nat) (hx : a.eval x = .slice (some ⟨b, 0, none⟩) 1 c)
    (hb : ∃ z, w.heap[b]? = some (.cells #[.int .i64 p] 3 z)) (hl : l.length ≤ 2000000) (hbase : base ≤ w.heap.size)
    (h : ∀ v' w', OwnI w' base v' (l ++ [p]) → w.grownBy w' v.ownBlock → (v'.ownBlock = v.ownBlock ∨ ∃ k, v'.ownBlock = some k ∧ w.heap.size ≤ k) → wpList Try.prog ops Q rest (a.put o.dst v') w') :
    wpList Try.prog ops Q (o :: rest) a w := by
  obtain ⟨i0, hi, hz0, hz1, hz2⟩ := info_parts Try.info3
  obtain ⟨z, hb⟩ := hb
  refine wpList_append_any hw s x 61 ho base 3 i0 _ 1 8 Try.underlying61 hi hz0 hz1 hz2 rfl (by omega) v l.length _ hs hown.1 (some ⟨b, 0, none⟩) 1 c [.int .i64 p] hx (by rfl) (by simp)
    (fun j u hj => ⟨_, rfl, ?_⟩) (by simp [Value.oneCell']) (by unfold maxLen; omega) (by omega) hbase (fun v' w' h1 h2 _ h4 => h v' w' ⟨?_, ?_⟩ h2 (h4.imp id (fun e => ⟨_, e, Nat.le_refl _⟩)))
  · match j, hj with
    | 0, hj => simp at hj; subst hj; simp [World.cell?, Addr.add, hb]
  · rw [List.map_append, List.length_append]; exact h1
  · intro n hn
    rcases List.mem_append.1 hn with hn | hn
    · exact hown.2 n hn
    · simp at hn; subst hn; exact hp

/-- Numbers that came in, onto a list of the call's own: as a step of a region. -/
theorem step_append_ints {w : World} {ops : Array Oper} {o : Oper} {a : Act} {K : Act → World → Prop} {Q : Exit → Act → World → Prop} {E : Prop} (hgd : o.guard = none) (s0 x : Operand)
    (ho : o.op = .call { callee := .builtin .append, args := #[s0, x], argTypes := #[61, 61] })
    {base : Nat} {v : Value} {l : List Int} (hs : a.eval s0 = v) (hown : OwnI w base v l) {s : Sl Int} (hx : a.eval x = .slice s.a s.len s.cap) (hr : RSl 1 (RInt .i64) w s) (hl : l.length + s.len ≤ 4000000) (hbase : base ≤ w.heap.size)
    (h : ∀ v' w', OwnI w' base v' (l ++ s.xs) → w.grownBy w' v.ownBlock → (v = .slice none 0 0 ∨ v' ≠ .slice none 0 0) → K (a.put o.dst v') w') :
    if Region.wanted o (yielded ops a.tmps) = true then Oper.wp Try.prog o a w K Q else E := by
  have hw : Region.wanted o (yielded ops a.tmps) = true := by simp [Region.wanted, hgd]
  rw [if_pos hw]
  obtain ⟨i0, hi, hz0, hz1, hz2⟩ := info_parts Try.info3
  obtain ⟨v', w', hrun, r1, r2, r3, _⟩ := run_append_any (P := Try.prog) w base 61 o.type 3 i0 _ 1 8 Try.underlying61 hi hz0 hz1 hz2 rfl (by omega) v l.length _ hown.1 s.a s.len s.cap (intCells s.xs) (by simp [intCells, hr.n]) hr.nil (cellsAt_ints hr) (ints_oneCell _ _)
    (by unfold maxLen; omega) (by omega) hbase
  unfold Oper.wp
  simp [execOp, ho, resolve, invoke, builtin, hs, hx, hrun, Result.andThen]
  refine h v' w' ⟨?_, fun n hn => ?_⟩ r2 ?_
  · rw [List.map_append, List.length_append, hr.n]; exact r1
  · rcases List.mem_append.1 hn with hn | hn
    · exact hown.2 n hn
    · obtain ⟨i, hi⟩ := List.getElem?_of_mem hn
      exact int_wf (hr.at_ i n hi)
  · by_cases e : v = .slice none 0 0
    · exact .inl e
    · exact .inr (fun e' => e (r3.1 e').1)

/-- The rest of a slice behind its first, where it has room for more. -/
theorem RSl.tail {w : World} {b o n c : Nat} {x : Int} {r : List Int} (h : RSl 1 (RInt .i64) w ⟨some ⟨b, o, none⟩, n + 1, c + 1, x :: r⟩) : RSl 1 (RInt .i64) w ⟨some ⟨b, o + 1, none⟩, n, c, r⟩ := by
  have h1 := h.lc
  have h2 := h.cm
  have h3 := h.n
  simp only [List.length_cons] at h1 h2 h3
  refine ⟨by show n ≤ c; omega, by show c ≤ maxLen; omega, fun e => by simp at e, by show r.length = n; omega, fun i y hy => ?_⟩
  obtain ⟨b', o', cs, ha, hl, hc, hR⟩ := h.at_ (i + 1) y (by simpa using hy)
  simp at ha
  obtain ⟨rfl, rfl⟩ := ha
  exact ⟨_, _, cs, rfl, hl, fun j u hj => by have := hc j u hj; rwa [show o + (i + 1) * 1 + j = o + 1 + i * 1 + j by omega] at this, hR⟩
theorem RSl.tail0 {w : World} {b o n : Nat} {x : Int} {r : List Int} (h : RSl 1 (RInt .i64) w ⟨some ⟨b, o, none⟩, n + 1, 1, x :: r⟩) : RSl 1 (RInt .i64) w ⟨some ⟨b, o, none⟩, n, 0, r⟩ ∧ n = 0 ∧ r = [] := by
  have h1 := h.lc
  have h3 := h.n
  simp only [List.length_cons] at h1 h3
  obtain rfl : n = 0 := by omega
  obtain rfl : r = [] := List.eq_nil_of_length_eq_zero (by omega)
  exact ⟨⟨Nat.le_refl _, Nat.zero_le _, fun e => by simp at e, rfl, fun i y hy => by simp at hy⟩, rfl, rfl⟩

end Go.Proofs.Yteaglbfodeineaa

namespace Go.Proofs.Yteaglbfodeineaa
open Go.RowKit

/-- How far below has come: S has been gathered, B has been entered, L is still to be entered. -/
structure Bel (D : DumpV) (pid ino : Int) (S0 S : List Ob) (B L : List Int) : Prop where
  bnd : B.Nodup
  bsub : ∀ n ∈ B, n = pid ∨ n ∈ D.ids
  lsub : ∀ n ∈ L, n = pid ∨ n ∈ D.ids
  ldn : ∀ n ∈ L, Dn D ino n
  old : ∀ o ∈ S0, o ∈ S
  new : ∀ o ∈ S, o ∈ S0 ∨ InB D ino o
  pend : Pend D S B L
  root : ino ∈ B ∨ ino ∈ L

theorem Bel.start {D : DumpV} {pid ino : Int} (S : List Ob) (hu : ino = pid ∨ ino ∈ D.ids) : Bel D pid ino S S [] [ino] :=
  ⟨List.nodup_nil, by simp, fun n hn => by simp at hn; rw [hn]; exact hu, fun n hn => by simp at hn; rw [hn]; exact .refl, fun _ h => h, fun _ h => .inl h, fun n hn => by simp at hn, .inr (by simp)⟩

theorem Bel.blen {D : DumpV} {pid ino : Int} {S0 S : List Ob} {B L : List Int} (h : Bel D pid ino S0 S B L) : B.length ≤ D.ids.length + 1 := by
  have := nodup_sub_length (m := pid :: D.ids) h.bnd (fun x hx => by simpa using h.bsub x hx)
  simpa using this

theorem Bel.skip {D : DumpV} {pid ino n : Int} {S0 S : List Ob} {B r : List Int} (h : Bel D pid ino S0 S B (n :: r)) (hn : n ∈ B) : Bel D pid ino S0 S B r := by
  refine ⟨h.bnd, h.bsub, fun m hm => h.lsub m (by simp [hm]), fun m hm => h.ldn m (by simp [hm]), h.old, h.new, fun m hm => ?_, ?_⟩
  · obtain ⟨h1, h2, h3⟩ := h.pend m hm
    refine ⟨h1, h2, fun q hq => ?_⟩
    rcases h3 q hq with h | h
    · exact .inl h
    · rcases List.mem_cons.1 h with rfl | h
      · exact .inl hn
      · exact .inr h
  · rcases h.root with h | h
    · exact .inl h
    · rcases List.mem_cons.1 h with e | h
      · exact .inl (by rw [e]; exact hn)
      · exact .inr h

theorem Bel.visit {D : DumpV} {pid ino n : Int} {S0 S S' : List Ob} {B r : List Int} (h : Bel D pid ino S0 S B (n :: r)) (hn : n ∉ B) (hS : ∀ o, o ∈ S' ↔ (o ∈ S ∨ o = (1, n)) ∨ ∃ id ∈ boundOf D n, o = (6, id)) :
    Bel D pid ino S0 S' (B ++ [n]) (r ++ kids D n) := by
  have hdn : Dn D ino n := h.ldn n (by simp)
  refine ⟨?_, ?_, ?_, ?_, fun o ho => (hS o).2 (.inl (.inl (h.old o ho))), fun o ho => ?_, fun m hm => ?_, ?_⟩
  · refine List.nodup_append.2 ⟨h.bnd, by simp, fun a ha b hb => ?_⟩
    simp at hb; subst hb
    exact fun e => hn (by rw [← e]; exact ha)
  · intro m hm
    rcases List.mem_append.1 hm with hm | hm
    · exact h.bsub m hm
    · simp at hm; subst hm; exact h.lsub m (by simp)
  · intro m hm
    rcases List.mem_append.1 hm with hm | hm
    · exact h.lsub m (by simp [hm])
    · exact .inr (kids_ids hm)
  · intro m hm
    rcases List.mem_append.1 hm with hm | hm
    · exact h.ldn m (by simp [hm])
    · exact .step hdn hm
  · rcases (hS o).1 ho with (ho | rfl) | ⟨id, hid, rfl⟩
    · exact h.new o ho
    · exact .inr (down_in hdn)
    · exact .inr (down_bound hdn hid)
  · rcases List.mem_append.1 hm with hm | hm
    · obtain ⟨h1, h2, h3⟩ := h.pend m hm
      refine ⟨(hS _).2 (.inl (.inl h1)), fun id hid => (hS _).2 (.inl (.inl (h2 id hid))), fun q hq => ?_⟩
      rcases h3 q hq with h | h
      · exact .inl (List.mem_append_left _ h)
      · rcases List.mem_cons.1 h with rfl | h
        · exact .inl (by simp)
        · exact .inr (List.mem_append_left _ h)
    · simp at hm; subst hm
      exact ⟨(hS _).2 (.inl (.inr rfl)), fun id hid => (hS _).2 (.inr ⟨id, hid, rfl⟩), fun q hq => .inr (List.mem_append_right _ hq)⟩
  · rcases h.root with h | h
    · exact .inl (List.mem_append_left _ h)
    · rcases List.mem_cons.1 h with e | h
      · exact .inl (by rw [e]; simp)
      · exact .inr (List.mem_append_left _ h)

theorem Bel.done {D : DumpV} {pid ino : Int} {S0 S : List Ob} {B : List Int} (h : Bel D pid ino S0 S B []) : ∀ o, o ∈ S ↔ o ∈ S0 ∨ InB D ino o := fun o =>
  ⟨h.new o, fun ho => ho.elim (h.old o) (fun hi => h.pend.all (h.root.elim id (fun h => by simp at h)) hi)⟩

theorem rsl_none' {w : World} : RSl 1 (RInt .i64) w ⟨none, 0, 0, []⟩ := ⟨Nat.le_refl _, Nat.zero_le _, fun _ => ⟨rfl, rfl⟩, rfl, fun i x hx => by simp at hx⟩

theorem kids_len {D : DumpV} {w : World} (hD : RDump w D) (hsm : Small D) (n : Int) : (kids D n).length ≤ 20 := by
  unfold kids
  split
  · rename_i x hx
    split
    · unfold atIno at hx
      obtain ⟨i, _, hi⟩ := Option.bind_eq_some_iff.1 hx
      have h1 := hsm.inos x (List.mem_of_getElem? hi)
      obtain ⟨b, o, cs, _, hR, _⟩ := at_cell (hD.inodes.at_ i x hi)
      have := hR.2.2.2.n
      omega
    · simp
  · simp

/-- A list of things: the one that came in, or one of the call's own. -/
def TL (w0 w : World) (base : Nat) (s t : Sl Ob) : Prop := (t = s ∧ RSl 2 RObj w0 s) ∨ OwnL w base (.slice t.a t.len t.cap) t.xs

theorem TL.rsl {w0 w : World} {base : Nat} {s t : Sl Ob} (h : TL w0 w base s t) (ht : Turned [] w0 w) (hw : ∀ o ∈ t.xs, KObj.dom o) : RSl 2 RObj w t := by
  rcases h with ⟨rfl, h⟩ | h
  · exact h.stays stays_obj ht
  · obtain ⟨s', hv, hx, hr⟩ := h.sl hw
    have : t = s' := by
      obtain ⟨a, n, c, xs⟩ := t
      obtain ⟨a', n', c', xs'⟩ := s'
      simp [Sl.v] at hv
      simp only at hx
      obtain ⟨rfl, rfl, rfl⟩ := hv
      subst hx; rfl
    rw [this]; exact hr

theorem TL.keep {w0 w w' : World} {base : Nat} {s t : Sl Ob} (h : TL w0 w base s t) (ht : Turned [] w w') : TL w0 w' base s t := h.imp id (fun h => h.keep ht)

/-- Numbers elsewhere turn. -/
theorem TL.ints {w0 w w' : World} {base base2 : Nat} {s t : Sl Ob} {v : Value} {l : List Int} (h : TL w0 w base s t) (hi : OwnI w base2 v l) (hg : w.grownBy w' v.ownBlock) : TL w0 w' base s t := by
  refine h.imp id (fun h => World.ownsRow.kept h hg ?_)
  rcases h.2 with ⟨e, _⟩ | ⟨g, cap, cur, e, _, hh, _⟩
  · rw [e]; exact .inl rfl
  · refine .inr (fun e1 => ?_)
    rw [e] at e1
    rcases hi.1.2 with ⟨rfl, _⟩ | ⟨g', cap', cur', rfl, _, hh', _⟩
    · simp [Value.ownBlock] at e1
    · simp [Value.ownBlock] at e1
      rw [e1, hh'] at hh
      simp at hh

theorem TL.step {w0 w w' : World} {base : Nat} {s t t' : Sl Ob} (h : TL w0 w base s t) (ht : Turned [] w w') (h' : t' = t ∨ OwnL w' w.heap.size (.slice t'.a t'.len t'.cap) t'.xs) (hb : base ≤ w.heap.size) : TL w0 w' base s t' := by
  rcases h' with rfl | h'
  · exact h.keep ht
  · exact .inr (h'.mono hb)

/-- The numbers still to be entered: in a block of the call's own that is not v's. -/
structure Nxt (w : World) (base : Nat) (v : Value) (n : Sl Int) : Prop where
  q : QRow w base 3 1 (.slice n.a n.len n.cap) n.xs.length (intCells n.xs)
  ne : (Value.slice n.a n.len n.cap).ownBlock = none ∨ (Value.slice n.a n.len n.cap).ownBlock ≠ v.ownBlock
  wf : ∀ x ∈ n.xs, I64 x

theorem Nxt.len {w : World} {base : Nat} {v : Value} {n : Sl Int} (h : Nxt w base v n) : n.len = n.xs.length := by
  rcases h.q.2 with ⟨e, h0⟩ | ⟨g, off, cap, cur, e, _⟩
  · simp at e; omega
  · simp at e; exact e.2.1

theorem Nxt.rsl {w : World} {base : Nat} {v : Value} {n : Sl Int} (h : Nxt w base v n) : RSl 1 (RInt .i64) w n := by
  have hwf := h.wf
  have hlen := h.len
  rcases h.q.2 with ⟨e, h0⟩ | ⟨g, off, cap, cur, e, _, hb, h1, h2, _, h4⟩
  · obtain ⟨a, l, c, xs⟩ := n
    simp at e h0
    obtain ⟨rfl, rfl, rfl⟩ := e
    subst h0
    exact rsl_none'
  · obtain ⟨a, l, c, xs⟩ := n
    simp at e hlen hwf
    obtain ⟨rfl, rfl, rfl⟩ := e
    refine ⟨h1, h2, fun e => by simp at e, rfl, fun i x hx => ?_⟩
    refine ⟨g, off, [.int .i64 x], rfl, rfl, fun j u hj => ?_, rfl, hwf x (List.mem_of_getElem? hx)⟩
    match j, hj with
    | 0, hj =>
      simp at hj; subst hj
      have := h4 i (.int .i64 x) (by unfold intCells; rw [List.getElem?_map]; simp only at hx; rw [hx]; rfl)
      simp [World.cell?, hb]; exact this

theorem Nxt.keep {w w' : World} {base : Nat} {v : Value} {n : Sl Int} (h : Nxt w base v n) (ht : Turned [] w w') : Nxt w' base v n := ⟨h.q.kept ht (by simp), h.ne, h.wf⟩

/-- The other list of numbers has grown. -/
theorem Nxt.grown {w w' : World} {base : Nat} {v v' : Value} {n : Sl Int} (h : Nxt w base v n) (hg : w.grownBy w' v.ownBlock) (hloc : v'.ownBlock = v.ownBlock ∨ ∃ k, v'.ownBlock = some k ∧ w.heap.size ≤ k) : Nxt w' base v' n := by
  have hk : ∀ k, (Value.slice n.a n.len n.cap).ownBlock = some k → v.ownBlock ≠ some k := fun k hk e => by
    rcases h.ne with h1 | h1
    · rw [h1] at hk; cases hk
    · exact h1 (by rw [hk, e])
  refine ⟨?_, ?_, h.wf⟩
  · refine ⟨h.q.1, ?_⟩
    rcases h.q.2 with h2 | ⟨g, off, cap, cur, e, hb, hh, r⟩
    · exact .inl h2
    · refine .inr ⟨g, off, cap, cur, e, hb, ?_, r⟩
      rw [hg.block g (lt_of_heap hh) (fun e1 => hk g (by rw [e]; rfl) e1.symm)]
      exact hh
  · cases hb : (Value.slice n.a n.len n.cap).ownBlock with
    | none => exact .inl rfl
    | some k =>
      refine .inr (fun e => ?_)
      rcases hloc with h1 | ⟨q, h1, h2⟩
      · exact hk k hb (by rw [← h1, ← e])
      · rw [h1] at e
        cases e
        have := (h.q.lt k hb).2
        omega

end Go.Proofs.Yteaglbfodeineaa

namespace Go.Proofs.Yteaglbfodeineaa
open Go.RowKit

theorem sock_id_ids {D : DumpV} {x : SockV} (h : x ∈ D.socks.xs) : x.id ∈ D.ids := by
  unfold DumpV.ids
  simp only [List.mem_append, List.mem_flatMap, List.mem_cons]
  exact .inr ⟨x, h, .inl rfl⟩

theorem Turned.list2 {w w' w'' : World} {v : Value} {l : List Int} (ht : Turned [] w w') (h : OwnI w' w.heap.size v l) (hg : w'.grownBy w'' v.ownBlock) : Turned [] w w'' :=
  ht.grown hg (fun k hk => .inr (World.ownsRow.lt h.1 k hk).1)

theorem QRow.low {w : World} {base base' : Nat} {e : TypeId} {size : Nat} {v : Value} {n : Nat} {xs : List Value} (h : QRow w base e size v n xs) (hb : base' ≤ base) : QRow w base' e size v n xs := by
  refine ⟨h.1, ?_⟩
  rcases h.2 with h2 | ⟨g, off, cap, cur, h1, h2, r⟩
  · exact .inl h2
  · exact .inr ⟨g, off, cap, cur, h1, Nat.le_trans hb h2, r⟩

/-- Where below stands. -/
structure BAt (w wr : World) (D : DumpV) (pid ino : Int) (s t : Sl Ob) (ss nx : Sl Int) : Prop where
  box : wr.heap[w.heap.size]? = some (.cells D.cells.toArray 48 (0, 0))
  tw : Turned [] w wr
  tl : TL w wr (w.heap.size + 1) s t
  srt : Srt t.xs
  sub : ∀ o ∈ t.xs, o ∈ univ D pid
  sn : OwnI wr (w.heap.size + 1) (.slice ss.a ss.len ss.cap) ss.xs
  nx : Nxt wr (w.heap.size + 1) (.slice ss.a ss.len ss.cap) nx

theorem BAt.keep {w wr wr' : World} {D : DumpV} {pid ino : Int} {s t : Sl Ob} {ss nx : Sl Int} (h : BAt w wr D pid ino s t ss nx) (ht : Turned [] wr wr') : BAt w wr' D pid ino s t ss nx :=
  ⟨ht.keep h.box (by simp), h.tw.trans ht, h.tl.keep ht, h.srt, h.sub, h.sn.keep ht, h.nx.keep ht⟩

theorem BAt.lst {w wr : World} {D : DumpV} {pid ino : Int} {s t : Sl Ob} {ss nx : Sl Int} (h : BAt w wr D pid ino s t ss nx) (hw : ∀ o ∈ univ D pid, KObj.dom o) : Lst D pid wr t :=
  ⟨⟨h.tl.rsl h.tw (fun o ho => hw o (h.sub o ho)), h.srt⟩, h.sub⟩

theorem own_int {w : World} {base : Nat} {s : Sl Int} (h : OwnI w base (.slice s.a s.len s.cap) s.xs) : RSl 1 (RInt .i64) w s := by
  obtain ⟨s', hv, hx, hr⟩ := h.sl
  have : s = s' := by
    obtain ⟨a, n, c, xs⟩ := s
    obtain ⟨a', n', c', xs'⟩ := s'
    simp at hv
    simp only at hx
    obtain ⟨rfl, rfl, rfl⟩ := hv
    subst hx; rfl
  rw [this]; exact hr

theorem bound_at {D : DumpV} {k : Nat} {n : Int} {x : SockV} (hs : D.socks.xs[k]? = some x) : boundUpto D (k + 1) n = boundUpto D k n ++ (if x.bound ≠ 0 ∧ ixOf D.sockIds x.id = some k ∧ x.bound = n then [x.id] else []) := by
  rw [boundUpto, hs]

/-- The number that is visited is marked. -/
theorem BAt.mark {w wr w6 : World} {D : DumpV} {pid ino : Int} {s t : Sl Ob} {ss ss' nx : Sl Int} (h : BAt w wr D pid ino s t ss nx) {o : Obj} (hn : OwnI w6 (w.heap.size + 1) (.slice ss'.a ss'.len ss'.cap) ss'.xs) (hg : (wr.alloc o).grownBy w6 (Value.slice ss.a ss.len ss.cap).ownBlock)
    (hloc : (Value.slice ss'.a ss'.len ss'.cap).ownBlock = (Value.slice ss.a ss.len ss.cap).ownBlock ∨ ∃ k, (Value.slice ss'.a ss'.len ss'.cap).ownBlock = some k ∧ (wr.alloc o).heap.size ≤ k) : BAt w w6 D pid ino s t ss' nx := by
  have h1 := h.keep ((Turned.refl [] wr).alloc o)
  have hlt : ∀ k, (Value.slice ss.a ss.len ss.cap).ownBlock = some k → w.heap.size + 1 ≤ k := fun k hk => (World.ownsRow.lt h1.sn.1 k hk).1
  refine ⟨?_, h1.tw.grown hg (fun k hk => .inr (by have := hlt k hk; omega)), h1.tl.ints h1.sn hg, h.srt, h.sub, hn, h1.nx.grown hg hloc⟩
  rw [hg.block _ (lt_of_heap h1.box) (fun e => by have := hlt _ e.symm; omega)]
  exact h1.box

set_option maxRecDepth 100000 in
set_option maxHeartbeats 8000000 in
theorem below_any {w : World} {D : DumpV} {pid ino : Int} {s : Sl Ob} (hsm : Small D) (hD : RDump w D) (hp : I64 pid) (hs : Lst D pid w s) (hu : ino = pid ∨ ino ∈ D.ids) (hi : I64 ino) :
    Calls Try.prog 78 #[D.v, .slice s.a s.len s.cap, .int .i64 ino] w (Gets D pid s (InB D ino) w) := by
  have HD := Lib.hid hD
  have HS := Lib.hid hs
  have HSM := Lib.hid hsm
  have HU := Lib.hid hu
  have HWF := Lib.hid (fun o (h : o ∈ univ D pid) => univ_wf hD hp h)
  have HPUT : Hid (∀ w1 (t : Sl Ob) kind id, Lst D pid w1 t → (kind, id) ∈ univ D pid → Calls Try.prog 36 #[.slice t.a t.len t.cap, .int .i64 kind, .int .i64 id] w1 (Gets D pid t (fun x => x = (kind, id)) w1)) := Lib.hid fun w1 t kind id h ho => put_u hsm h ho (univ_wf hD hp ho).1 (univ_wf hD hp ho).2
  have HIW := Lib.hid hi
  clear hD hp hs hu hi
  simp only [DumpV.v, DumpV.cells, Sl.v]
  go_enter Try.func78, Try.ntmps78
  go_wp2
  generalize hW0 : World.alloc (World.alloc (World.alloc w _) _) _ = W
  have hW : W = ((w.alloc (.cells D.cells.toArray 48 (0, 0))).alloc (.cells #[] 3 (0, 0))).alloc (.cells #[.int .i64 ino] 3 (0, 0)) := hW0.symm
  have HA0 := Lib.hid (show BAt w W D pid ino s s ⟨some ⟨w.heap.size + 1, 0, none⟩, 0, 0, []⟩ ⟨some ⟨w.heap.size + 1 + 1, 0, none⟩, 1, 1, [ino]⟩ by
    have hb2 := heap_alloc_second w (.cells D.cells.toArray 48 (0, 0)) (.cells #[] 3 (0, 0))
    have hb3 := heap_alloc_second (w.alloc (.cells D.cells.toArray 48 (0, 0))) (.cells #[] 3 (0, 0)) (.cells #[.int .i64 ino] 3 (0, 0))
    rw [show (w.alloc (.cells D.cells.toArray 48 (0, 0))).heap.size = w.heap.size + 1 by simp] at hb3
    rw [hW]
    refine ⟨(((Turned.refl [] _).alloc _).alloc _).keep (heap_alloc_new _ _) (by simp), (((Turned.refl _ _).alloc _).alloc _).alloc _, .inl ⟨rfl, HS.out.ord.rd⟩, HS.out.ord.srt, HS.out.sub, ⟨⟨rfl, .inr ⟨w.heap.size + 1, 0, _, rfl, Nat.le_refl _, ((Turned.refl [] _).alloc _).keep hb2 (by simp), Nat.le_refl _, Nat.zero_le _, rfl, rfl⟩⟩, by simp⟩, ⟨?_, .inr (by simp [Value.ownBlock]), fun x hx => by simp at hx; rw [hx]; exact HIW.out⟩⟩
    exact ⟨rfl, .inr ⟨w.heap.size + 1 + 1, 0, 1, _, rfl, by omega, hb3, Nat.le_refl _, by unfold maxLen; omega, by simp, fun j u hj => by
      match j, hj with
      | 0, hj => simpa [intCells] using hj⟩⟩)
  clear hW hW0
  go_loopg [1, 7, 8] ((D.ids.length + 1) * 21 + 1) (fun gk lv sv nv wr => ∃ t ss nx : Sl _, lv = .slice t.a t.len t.cap ∧ sv = .slice ss.a ss.len ss.cap ∧ nv = .slice nx.a nx.len nx.cap ∧ BAt w wr D pid ino s t ss nx ∧ Bel D pid ino s.xs t.xs ss.xs nx.xs ∧ gk = (D.ids.length + 1 - ss.xs.length) * 21 + nx.xs.length ∧ gk ≤ 1000000)
  case atStart => exact ⟨_, _, _, rfl, rfl, rfl, HA0.out, Bel.start _ HU.out, by simp, by have := HSM.out.ids; omega⟩
  case round =>
    obtain ⟨t, ss, nx, rfl, rfl, rfl, hat, hbel, hgk, hgl⟩ := hrel
    have HGL := Lib.hid hgl
    clear hgl
    have HAT := Lib.hid hat
    have HBEL := Lib.hid hbel
    have HGK := Lib.hid hgk
    have hnl := hat.nx.len
    clear hat hbel hgk HA0
    cases hxs : nx.xs with
    | nil =>
      have hl0 : nx.len = 0 := by rw [hnl, hxs]; rfl
      rw [hl0]
      have HXS := Lib.hid hxs
      clear hl0 hnl hxs
      go_wp2
      go_ret
      have hb := HBEL.out
      rw [HXS.out] at hb
      exact ⟨t, rfl, HAT.out.lst HWF.out, HAT.out.tw, HAT.out.tl.imp (fun h => h.1) (fun h => h.mono (Nat.le_succ _)), hb.done⟩
    | cons n r =>
      obtain ⟨g, off, cap, hnv, hc1, hc2, -, hcell⟩ := HAT.out.nx.q.cell (by rw [hxs]; simp)
      obtain ⟨c, rfl⟩ : ∃ c, cap = c + 1 := ⟨cap - 1, by rw [hxs] at hc1; simp at hc1; omega⟩
      have hlen : nx.len = r.length + 1 := by rw [hnl, hxs]; rfl
      have hxa : nx.a = some ⟨g, off, none⟩ := by simp at hnv; exact hnv.1
      have hxc : nx.cap = c + 1 := by simp at hnv; exact hnv.2.2
      have e0 : wr.cell? ⟨g, off, none⟩ = some (.int .i64 n) := by
        have := hcell 0 (.int .i64 n) (by rw [hxs]; rfl)
        rwa [Nat.add_zero] at this
      rw [hxs] at hc1
      simp only [List.length_cons] at hc1
      unfold maxLen at hc2
      have HXS := Lib.hid hxs
      have HNQ := Lib.hid (show Nxt wr (w.heap.size + 1) (.slice ss.a ss.len ss.cap) ⟨some ⟨g, off, none⟩, r.length + 1, c + 1, n :: r⟩ from by
        have h := HAT.out.nx
        obtain ⟨a, l, cc, xs⟩ := nx
        simp only at hxa hxc hlen hxs
        subst hxa; subst hxc; subst hlen; subst hxs
        exact h)
      have HNW := Lib.hid (HAT.out.nx.wf n (by rw [hxs]; simp))
      rw [hlen, hxa, hxc]
      clear hnv hcell hxs hnl hlen hxa hxc
      go_upto_region 4 with fail
      go_cut [8] (fun v wx => wx = wr ∧ ∃ nr : Sl Int, v = .slice nr.a nr.len nr.cap ∧ Nxt wr (w.heap.size + 1) (.slice ss.a ss.len ss.cap) nr ∧ nr.xs = r)
      case first =>
        by_cases hc0 : c = 0
        · subst hc0
          have hr0 : r = [] := List.eq_nil_of_length_eq_zero (by omega)
          subst hr0
          go_wp2
          go_meet
          exact ⟨rfl, ⟨some ⟨g, off, none⟩, 0, 0, []⟩, rfl, ⟨QRow.tail0 HNQ.out.q, HNQ.out.ne, by simp⟩, rfl⟩
        · go_wp2
          go_meet
          exact ⟨rfl, ⟨some ⟨g, off + 1, none⟩, r.length, c, r⟩, rfl, ⟨HNQ.out.q.tail, HNQ.out.ne, fun x hx => HNQ.out.wf x (by simp [hx])⟩, rfl⟩
      case rest =>
      obtain ⟨rfl, nr, rfl, hnr, hnrx⟩ := hcut
      have HNR := Lib.hid hnr
      have HNRX := Lib.hid hnrx
      have HIN := Lib.hid (in_nums (own_int HAT.out.sn) (z := n))
      simp only [Sl.v] at HIN
      clear hnr hnrx e0
      have HBL := Lib.hid (show Bel D pid ino s.xs t.xs ss.xs (n :: r) by rw [← HXS.out]; exact HBEL.out)
      have HGK2 := Lib.hid (show gk = (D.ids.length + 1 - ss.xs.length) * 21 + (r.length + 1) by rw [HGK.out, HXS.out]; rfl)
      by_cases hin : n ∈ ss.xs
      · rw [show decide (n ∈ ss.xs) = true by simp [hin]] at HIN
        have HM := Lib.hid hin
        clear hin
        go_wp2_with (go_at_call 93; refine HIN.out.mono ?_; rintro e w5 ⟨rfl, ht5⟩; have HT5 := Lib.hid ht5; clear ht5)
        go_roundg (gk - 1)
        case measure => have := HGK2.out; omega
        case rel =>
          have h5 := HAT.out.keep HT5.out
          refine ⟨t, ss, nr, rfl, rfl, rfl, ⟨h5.box, h5.tw, h5.tl, h5.srt, h5.sub, h5.sn, HNR.out.keep HT5.out⟩, by rw [HNRX.out]; exact HBL.out.skip HM.out, by rw [HNRX.out]; have := HGK2.out; omega, by have := HGL.out; omega⟩
      · rw [show decide (n ∈ ss.xs) = false by simp [hin]] at HIN
        have HM := Lib.hid hin
        have HBN := Lib.hid (show ss.xs.length + 1 ≤ D.ids.length + 1 by
          have h1 := (HBL.out.visit (S' := t.xs ++ (1, n) :: (boundOf D n).map (fun id => (6, id))) hin (fun o => by simp [or_assoc, eq_comm])).blen
          simpa using h1)
        clear hin
        have hsml := HSM.out.ids
        go_wp2_with (first
          | (go_at_call 93; refine HIN.out.mono ?_; rintro e w5 ⟨rfl, ht5⟩; have HT5 := Lib.hid ht5; have HA5 := Lib.hid (show BAt w w5 D pid ino s t ss nr from by have h5 := HAT.out.keep ht5; exact ⟨h5.box, h5.tw, h5.tl, h5.srt, h5.sub, h5.sn, HNR.out.keep ht5⟩); have hs5 := HA5.out.tw.size; clear ht5)
          | (at_builtin; refine wpList_append_int (by rfl) (.tmp 26) (.tmp 28) rfl rfl (HA5.out.sn.keep ((Turned.refl [] w5).alloc _)) n HNW.out w5.heap.size 1 rfl ⟨_, heap_alloc_new _ _⟩ (by have := HBN.out; omega) (by have := lt_of_heap HA5.out.box; simp; omega) ?_; intro v6 w6 ho6 hg6 hl6; obtain ⟨ss6, rfl, hx6, hr6⟩ := ho6.sl; rw [← hx6] at ho6; have HA6 := Lib.hid (HA5.out.mark ho6 hg6 hl6); have HX6 := Lib.hid hx6; clear ho6 hg6 hl6 hx6 hr6)
          | (go_at_call 36; refine (HPUT.out w6 t 1 n (HA6.out.lst HWF.out) (mem_univ (.inl rfl) (HBL.out.lsub n (by simp)))).mono ?_; rintro e w7 ⟨t7, rfl, hl7, ht7, htl7, hm7⟩; have HA7 := Lib.hid (show BAt w w7 D pid ino s t7 ss6 nr from by have h7 := HA6.out.keep ht7; exact ⟨h7.box, h7.tw, HA6.out.tl.step ht7 htl7 (by have := lt_of_heap HA6.out.box; omega), hl7.ord.srt, hl7.sub, h7.sn, h7.nx⟩); have HM7 := Lib.hid hm7; clear hl7 ht7 htl7 hm7))
        have h6w := HA6.out.tw.size
        have hscm := HD.out.socks.cm
        have hslc := HD.out.socks.lc
        unfold maxLen at hscm
        go_loopw [1, 10] (fun lv kv wr2 => ∃ (k : Nat) (t2 : Sl Ob), k ≤ D.socks.len ∧ kv = .int .i64 k ∧ lv = .slice t2.a t2.len t2.cap ∧ BAt w wr2 D pid ino s t2 ss6 nr ∧ ∀ x, x ∈ t2.xs ↔ x ∈ t7.xs ∨ ∃ id ∈ boundUpto D k n, x = (6, id)) (fun _ kv _ => D.socks.len - (intOf kv).toNat)
        case atStart => exact ⟨0, t7, by omega, rfl, rfl, HA7.out, fun x => by simp [boundUpto]⟩
        case round =>
          obtain ⟨k, t2, hk, rfl, rfl, ha8, hm8⟩ := hrel
          have HA8 := Lib.hid ha8
          have HM8 := Lib.hid hm8
          clear ha8 hm8
          have HL8 := Lib.hid (HA8.out.lst HWF.out)
          have HD8 := Lib.hid (HD.out.stays HA8.out.tw)
          obtain ⟨d0, d1, d2, d3, d4, d5, d6, d7, d8, d9, d10, d11⟩ := box_cells HA8.out.box
          simp only [Sl.v] at d0 d1 d2 d3 d4 d5 d6
          by_cases hlt : k < D.socks.len
          · have hsn := HD.out.socks.n
            obtain ⟨x, hx⟩ : ∃ x, D.socks.xs[k]? = some x := ⟨D.socks.xs[k]'(by omega), by simp⟩
            have HX := Lib.hid hx
            obtain ⟨b, o, hab, e0, e1, e2, e3, e4, e5, e6, e7, e8, -, -, -⟩ := sock_cells (HD8.out.socks.at_ k x hx)
            simp only [Sl.v] at e5 e8
            have HBT := Lib.hid (bound_at (n := n) hx)
            have HXU := Lib.hid (show (6, x.id) ∈ univ D pid from mem_univ (.inr (.inr (.inl rfl))) (.inr (sock_id_ids (List.mem_of_getElem? hx))))
            have HPL : Hid (∀ m, Calls Try.prog 38 #[D.v, .int .i64 x.id] (wr.drewN m) fun e w' => e = .returned (.int .i64 (ixv (ixOf D.sockIds x.id))) ∧ Turned [] (wr.drewN m) w') := Lib.hid fun m => place_sock (HD8.out.stays ((Turned.refl [] wr).drewN m))
            obtain ⟨j, hj⟩ := sock_place hx
            have HJ := Lib.hid hj
            rw [hj, show ixv (some j) = (j : Int) from rfl] at HPL
            simp only [DumpV.v, DumpV.cells, Sl.v] at HPL
            have HAB := Lib.hid hab
            rw [hab] at HPL
            rw [hab] at d5
            have HD5 := Lib.hid d5
            have HE0 := Lib.hid e0
            have HE3 := Lib.hid e3
            clear hx hab hj
            by_cases hb : x.bound = n
            · have b1 : (x.bound == n) = true := by simp [hb]
              by_cases h0 : n = 0
              · have b2 : (n != 0) = false := by simp [h0]
                have H0 := Lib.hid (show ¬ (x.bound ≠ 0 ∧ ixOf D.sockIds x.id = some k ∧ x.bound = n) from fun h => h.1 (by rw [hb, h0]))
                clear h0 hb
                go_wp2
                go_quiet (fail)
                go_wp2
                go_roundw
                case rel => exact ⟨k + 1, t2, by omega, by go_num, rfl, HA8.out.keep ((Turned.refl _ _).drewN _), fun y => by rw [HBT.out, if_neg H0.out, List.append_nil]; exact HM8.out y⟩
                case measure => simp [intOf]; omega
              · have b2 : (n != 0) = true := by simp [h0]
                by_cases hjk : j = k
                · have hjj : ((j : Int) == (k : Int)) = true := by simp [hjk]
                  have H0 := Lib.hid (show x.bound ≠ 0 ∧ ixOf D.sockIds x.id = some k ∧ x.bound = n from ⟨by rw [hb]; exact h0, by rw [HJ.out, hjk], hb⟩)
                  clear h0 hb hjk
                  go_wp2
                  go_region_held3 (fun w' => w'.cell? ⟨w.heap.size, 0, none⟩ = some (.slice D.procs.a D.procs.len D.procs.cap) ∧ w'.cell? ⟨w.heap.size, 1, none⟩ = some (.slice D.held.a D.held.len D.held.cap) ∧ w'.cell? ⟨w.heap.size, 2, none⟩ = some (.slice D.parks.a D.parks.len D.parks.cap) ∧ w'.cell? ⟨w.heap.size, 3, none⟩ = some (.slice D.files.a D.files.len D.files.cap) ∧ w'.cell? ⟨w.heap.size, 4, none⟩ = some (.slice D.pipes.a D.pipes.len D.pipes.cap) ∧ w'.cell? ⟨w.heap.size, 5, none⟩ = some (.slice (some ⟨b, o, none⟩) D.socks.len D.socks.cap) ∧ w'.cell? ⟨w.heap.size, 6, none⟩ = some (.slice D.inodes.a D.inodes.len D.inodes.cap) ∧ w'.cell? ⟨w.heap.size, 7, none⟩ = some (.int .i64 D.n0) ∧ w'.cell? ⟨w.heap.size, 8, none⟩ = some (.int .i64 D.n1) ∧ w'.cell? ⟨w.heap.size, 9, none⟩ = some (.int .i64 D.n2) ∧ w'.cell? ⟨w.heap.size, 10, none⟩ = some (.int .i64 D.n3) ∧ w'.cell? ⟨w.heap.size, 11, none⟩ = some (.int .i64 D.n4) ∧ w'.cell? ⟨b, o + k * 9, none⟩ = some (.int .i64 x.id) ∧ w'.cell? ⟨b, o + k * 9 + 3, none⟩ = some (.int .i64 x.bound))
                    (first | go_keep | (go_split_ands; exact ⟨HT9.out.cell (block_cell HA8.out.box rfl) (by simp), HT9.out.cell (block_cell HA8.out.box rfl) (by simp), HT9.out.cell (block_cell HA8.out.box rfl) (by simp), HT9.out.cell (block_cell HA8.out.box rfl) (by simp), HT9.out.cell (block_cell HA8.out.box rfl) (by simp), HT9.out.cell HD5.out (by simp), HT9.out.cell (block_cell HA8.out.box rfl) (by simp), HT9.out.cell (block_cell HA8.out.box rfl) (by simp), HT9.out.cell (block_cell HA8.out.box rfl) (by simp), HT9.out.cell (block_cell HA8.out.box rfl) (by simp), HT9.out.cell (block_cell HA8.out.box rfl) (by simp), HT9.out.cell (block_cell HA8.out.box rfl) (by simp), HT9.out.cell HE0.out (by simp), HT9.out.cell HE3.out (by simp)⟩))
                    ((go_at_call 38; refine (HPL.out 1).mono ?_; rintro e w9 ⟨rfl, ht9⟩; have HT9 := Lib.hid (((Turned.refl [] wr).drewN 1).trans ht9); clear ht9))
                  all_goals
                    have d5 := HT9.out.cell HD5.out (by simp)
                    have e0 := HT9.out.cell HE0.out (by simp)
                    go_wp2_with (go_at_call 36; refine (HPUT.out w9 t2 6 x.id (HL8.out.stays HT9.out) HXU.out).mono ?_; rintro e w10 ⟨t10, rfl, hl10, ht10, htl10, hm10⟩; have HL10 := Lib.hid hl10; have HT10 := Lib.hid ht10; have HTL := Lib.hid htl10; have HM10 := Lib.hid hm10; clear hl10 ht10 htl10 hm10)
                    go_roundw
                    case rel =>
                      have h9 := HA8.out.keep HT9.out
                      have h10 := h9.keep HT10.out
                      refine ⟨k + 1, t10, by omega, by go_num, rfl, ⟨h10.box, h10.tw, h9.tl.step HT10.out HTL.out (by have := lt_of_heap h9.box; omega), HL10.out.ord.srt, HL10.out.sub, h10.sn, h10.nx⟩, fun y => ?_⟩
                      rw [HM10.out y, HM8.out y, HBT.out, if_pos H0.out]
                      simp only [List.mem_append, List.mem_singleton]
                      constructor
                      · rintro ((h | ⟨id, h1, h2⟩) | h)
                        · exact .inl h
                        · exact .inr ⟨id, .inl h1, h2⟩
                        · exact .inr ⟨_, .inr rfl, h⟩
                      · rintro (h | ⟨id, h1 | h1, h2⟩)
                        · exact .inl (.inl h)
                        · exact .inl (.inr ⟨id, h1, h2⟩)
                        · exact .inr (by rw [h2, h1])
                    case measure => simp [intOf]; omega
                · have hjj : ((j : Int) == (k : Int)) = false := by simp; omega
                  have H0 := Lib.hid (show ¬ (x.bound ≠ 0 ∧ ixOf D.sockIds x.id = some k ∧ x.bound = n) from fun h => hjk (by have := h.2.1; rw [HJ.out] at this; exact Option.some.inj this))
                  clear h0 hb hjk
                  go_wp2
                  go_region_held3 (fun w' => w'.cell? ⟨w.heap.size, 0, none⟩ = some (.slice D.procs.a D.procs.len D.procs.cap) ∧ w'.cell? ⟨w.heap.size, 1, none⟩ = some (.slice D.held.a D.held.len D.held.cap) ∧ w'.cell? ⟨w.heap.size, 2, none⟩ = some (.slice D.parks.a D.parks.len D.parks.cap) ∧ w'.cell? ⟨w.heap.size, 3, none⟩ = some (.slice D.files.a D.files.len D.files.cap) ∧ w'.cell? ⟨w.heap.size, 4, none⟩ = some (.slice D.pipes.a D.pipes.len D.pipes.cap) ∧ w'.cell? ⟨w.heap.size, 5, none⟩ = some (.slice (some ⟨b, o, none⟩) D.socks.len D.socks.cap) ∧ w'.cell? ⟨w.heap.size, 6, none⟩ = some (.slice D.inodes.a D.inodes.len D.inodes.cap) ∧ w'.cell? ⟨w.heap.size, 7, none⟩ = some (.int .i64 D.n0) ∧ w'.cell? ⟨w.heap.size, 8, none⟩ = some (.int .i64 D.n1) ∧ w'.cell? ⟨w.heap.size, 9, none⟩ = some (.int .i64 D.n2) ∧ w'.cell? ⟨w.heap.size, 10, none⟩ = some (.int .i64 D.n3) ∧ w'.cell? ⟨w.heap.size, 11, none⟩ = some (.int .i64 D.n4) ∧ w'.cell? ⟨b, o + k * 9, none⟩ = some (.int .i64 x.id) ∧ w'.cell? ⟨b, o + k * 9 + 3, none⟩ = some (.int .i64 x.bound))
                    (first | go_keep | (go_split_ands; exact ⟨HT9.out.cell (block_cell HA8.out.box rfl) (by simp), HT9.out.cell (block_cell HA8.out.box rfl) (by simp), HT9.out.cell (block_cell HA8.out.box rfl) (by simp), HT9.out.cell (block_cell HA8.out.box rfl) (by simp), HT9.out.cell (block_cell HA8.out.box rfl) (by simp), HT9.out.cell HD5.out (by simp), HT9.out.cell (block_cell HA8.out.box rfl) (by simp), HT9.out.cell (block_cell HA8.out.box rfl) (by simp), HT9.out.cell (block_cell HA8.out.box rfl) (by simp), HT9.out.cell (block_cell HA8.out.box rfl) (by simp), HT9.out.cell (block_cell HA8.out.box rfl) (by simp), HT9.out.cell (block_cell HA8.out.box rfl) (by simp), HT9.out.cell HE0.out (by simp), HT9.out.cell HE3.out (by simp)⟩))
                    ((go_at_call 38; refine (HPL.out 1).mono ?_; rintro e w9 ⟨rfl, ht9⟩; have HT9 := Lib.hid (((Turned.refl [] wr).drewN 1).trans ht9); clear ht9))
                  all_goals
                    go_wp2
                    go_roundw
                    case rel => exact ⟨k + 1, t2, by omega, by go_num, rfl, HA8.out.keep HT9.out, fun y => by rw [HBT.out, if_neg H0.out, List.append_nil]; exact HM8.out y⟩
                    case measure => simp [intOf]; omega
            · have b1 : (x.bound == n) = false := by simp [hb]
              have H0 := Lib.hid (show ¬ (x.bound ≠ 0 ∧ ixOf D.sockIds x.id = some k ∧ x.bound = n) from fun h => hb h.2.2)
              clear hb
              go_wp2
              go_quiet (fail)
              go_wp2
              go_roundw
              case rel => exact ⟨k + 1, t2, by omega, by go_num, rfl, HA8.out.keep ((Turned.refl _ _).drewN _), fun y => by rw [HBT.out, if_neg H0.out, List.append_nil]; exact HM8.out y⟩
              case measure => simp [intOf]; omega
          · obtain rfl : k = D.socks.len := by omega
            have HVIS := Lib.hid (HBL.out.visit (S' := t2.xs) HM.out (fun o => by
              rw [HM8.out o, HM7.out o]
              rfl))
            have HPI := Lib.hid (place_inode (id := n) HD8.out)
            simp only [DumpV.v, DumpV.cells, Sl.v] at HPI
            clear HA7 HA5 HPUT
            cases hix : ixOf D.inodeIds n with
            | none =>
              have hpi : ixv (ixOf (D.inodes.xs.map InodeV.ino) n) = -1 := by
                have : ixOf (D.inodes.xs.map InodeV.ino) n = none := hix
                rw [this]; rfl
              rw [hpi] at HPI
              have HK := Lib.hid (show kids D n = [] by simp [kids, atIno, hix])
              clear hix hpi
              go_wp2_with (go_at_call 33; refine HPI.out.mono ?_; rintro e w9 ⟨rfl, ht9⟩; have HT9 := Lib.hid ht9; clear ht9)
              go_roundg ((D.ids.length + 1 - (ss.xs.length + 1)) * 21 + r.length)
              case measure => have := HGK2.out; have := HBN.out; omega
              case rel =>
                have h9 := HA8.out.keep HT9.out
                have hv := HVIS.out
                rw [HK.out, List.append_nil, ← HNRX.out, ← HX6.out] at hv
                exact ⟨t2, ss6, nr, rfl, rfl, rfl, h9, hv, by rw [HX6.out, HNRX.out]; simp, by have := HGL.out; have := HGK2.out; have := HBN.out; omega⟩
            | some i =>
              obtain ⟨x, hx⟩ : ∃ x, D.inodes.xs[i]? = some x := by
                have h1 := (ixOf_some.1 hix).1
                unfold DumpV.inodeIds at h1
                rw [List.getElem?_map] at h1
                obtain ⟨x, hx, _⟩ := Option.map_eq_some_iff.1 h1
                exact ⟨x, hx⟩
              have hpi : ixv (ixOf (D.inodes.xs.map InodeV.ino) n) = (i : Int) := by
                have : ixOf (D.inodes.xs.map InodeV.ino) n = some i := hix
                rw [this]; rfl
              rw [hpi] at HPI
              have HK := Lib.hid (show kids D n = if x.kind = 2 then x.inos.xs else [] by simp [kids, atIno, hix, hx])
              have hil : i < D.inodes.len := by rw [← HD.out.inodes.n]; exact (List.getElem?_eq_some_iff.1 hx).1
              have hicm := HD.out.inodes.cm
              have hilc := HD.out.inodes.lc
              unfold maxLen at hicm
              obtain ⟨b, o, hab, e0, e1, e2, e3, e4, e5, e6, e7, e8, -, -, hri⟩ := inode_cells (HD8.out.inodes.at_ i x hx)
              simp only [Sl.v] at e7 e8
              have HRI := Lib.hid hri
              have HIL := Lib.hid (HSM.out.inos x (List.mem_of_getElem? hx))
              rw [hab] at HPI d6
              have HD6 := Lib.hid d6
              have HE1 := Lib.hid e1
              have HE8 := Lib.hid e8
              clear hix hpi hx hri hab
              by_cases hkd : x.kind = 2
              · have bk : (x.kind == 2) = true := by simp [hkd]
                have HKD := Lib.hid hkd
                clear hkd
                go_upto_region 15 with (go_at_call 33; refine HPI.out.mono ?_; rintro e w9 ⟨rfl, ht9⟩; have HT9 := Lib.hid ht9; clear d6 e1 e8; have d6 := HT9.out.cell HD6.out (by simp); have e1 := HT9.out.cell HE1.out (by simp); have e8 := HT9.out.cell HE8.out (by simp); clear ht9)
                have HA9 := Lib.hid (HA8.out.keep HT9.out)
                have hs9 := lt_of_heap HA9.out.box
                have hbb : b < w9.heap.size := World.block_lt_of_cell? w9 _ e1
                have HNL := Lib.hid (show nr.len ≤ 1000000 by rw [HNR.out.len, HNRX.out]; have := HGK2.out; have := HGL.out; omega)
                go_region_law
                  (first
                  | ((refine step_append_ints (by rfl) (.tmp 88) (.tmp 94) (by rfl) (base := w9.heap.size) (by rfl) HOA.out (s := x.inos) (by rfl) ((HRI.out.stays (stays_int _) HT9.out).stays (stays_int _) (by (repeat (first | exact Turned.refl _ _ | exact HTA.out | refine Turned.drew ?_ | refine Turned.drewN ?_ _ | refine Turned.alloc ?_ _)))) (by have := HIL.out; have := HNL.out; have := HNR.out.len; simp <;> omega) (by first | omega | (simp <;> omega)) ?_; intro vb wb hob hgb hzb; obtain ⟨q, rfl, hqx, hqr⟩ := hob.sl; have HOB := Lib.hid hob; have HTB := Lib.hid (show Turned [] w9 wb from HTA.out.list2 HOA.out hgb); have HQX := Lib.hid hqx; clear hob hgb hzb hqx hqr))
                  | ((refine step_append_ints (by rfl) (.tmp 86) (.tmp 87) (by rfl) (base := w9.heap.size) (by rfl) (l := []) ⟨⟨rfl, .inr ⟨w9.heap.size, 0, _, rfl, Nat.le_refl _, heap_alloc_new w9 _, Nat.le_refl _, Nat.zero_le _, rfl, rfl⟩⟩, by simp⟩ (s := nr) (by rfl) ((HA9.out.nx.rsl.stays (stays_int _) (by (repeat (first | exact Turned.refl _ _ | exact HTA.out | refine Turned.drew ?_ | refine Turned.drewN ?_ _ | refine Turned.alloc ?_ _))))) (by have := HNL.out; simp <;> omega) (by first | omega | (simp <;> omega)) ?_; intro va wa hoa hga hza; have HOA := Lib.hid hoa; have HTA := Lib.hid (show Turned [] w9 wa from Turned.grown (by (repeat (first | exact Turned.refl _ _ | exact HTA.out | refine Turned.drew ?_ | refine Turned.drewN ?_ _ | refine Turned.alloc ?_ _))) hga (fun q hq => by simp [Value.ownBlock] at hq; subst hq; exact .inr (Nat.le_refl _))); clear d6 e1 e8; have d6 : wa.cell? ⟨w.heap.size, 6, none⟩ = some (.slice (some ⟨b, o, none⟩) D.inodes.len D.inodes.cap) := HTA.out.cell (HT9.out.cell HD6.out (by simp)) (by simp); have e8 : wa.cell? ⟨b, o + i * 9 + 8, none⟩ = some (.slice x.inos.a x.inos.len x.inos.cap) := HTA.out.cell (HT9.out.cell HE8.out (by simp)) (by simp); have hsa := HTA.out.size; clear hoa hga hza)))
                all_goals
                  go_wp2
                  go_roundg ((D.ids.length + 1 - (ss.xs.length + 1)) * 21 + (r.length + x.inos.xs.length))
                  case measure => have := HGK2.out; have := HBN.out; have := HIL.out; have := HRI.out.n; omega
                  case rel =>
                    have h9 := HA9.out.keep HTB.out
                    have hv := HVIS.out
                    have hq := HQX.out
                    rw [List.nil_append, HNRX.out] at hq
                    rw [HK.out, if_pos HKD.out, ← hq, ← HX6.out] at hv
                    have hob := HOB.out
                    rw [← HQX.out] at hob
                    refine ⟨t2, ss6, q, rfl, rfl, rfl, ⟨h9.box, h9.tw, h9.tl, h9.srt, h9.sub, h9.sn, ⟨(QRow.of_owns hob.1).low (by omega), ?_, hob.2⟩⟩, hv, by rw [HX6.out, hq]; simp, by have := HGL.out; have := HGK2.out; have := HBN.out; have := HIL.out; have := HRI.out.n; omega⟩
                    cases hqo : (Value.slice q.a q.len q.cap).ownBlock with
                    | none => exact .inl rfl
                    | some k =>
                      refine .inr (fun e => ?_)
                      have k1 := (World.ownsRow.lt hob.1 k hqo).1
                      have k2 := (World.ownsRow.lt HA9.out.sn.1 k e.symm).2
                      omega
              · have bk : (x.kind == 2) = false := by simp [hkd]
                have HKD := Lib.hid hkd
                clear hkd
                go_wp2_with (go_at_call 33; refine HPI.out.mono ?_; rintro e w9 ⟨rfl, ht9⟩; have HT9 := Lib.hid ht9; clear d6 e1 e8; have d6 := HT9.out.cell HD6.out (by simp); have e1 := HT9.out.cell HE1.out (by simp); clear ht9)
                go_roundg ((D.ids.length + 1 - (ss.xs.length + 1)) * 21 + r.length)
                case measure => have := HGK2.out; have := HBN.out; omega
                case rel =>
                  have h9 := HA8.out.keep HT9.out
                  have hv := HVIS.out
                  rw [HK.out, if_neg HKD.out, List.append_nil, ← HNRX.out, ← HX6.out] at hv
                  exact ⟨t2, ss6, nr, rfl, rfl, rfl, h9, hv, by rw [HX6.out, HNRX.out]; simp, by have := HGL.out; have := HGK2.out; have := HBN.out; omega⟩
end Go.Proofs.Yteaglbfodeineaa

namespace Go.Proofs.Yteaglbfodeineaa
open Go.RowKit

theorem Gets.iff {D : DumpV} {pid : Int} {s : Sl Ob} {P P' : Ob → Prop} {w w' : World} {e : Ending} (h : Gets D pid s P w e w') (hP : ∀ o, P' o ↔ P o) : Gets D pid s P' w e w' := by
  obtain ⟨t, he, hl, ht, ho, hm⟩ := h
  exact ⟨t, he, hl, ht, ho, fun x => by rw [hm x, hP x]⟩

set_option maxRecDepth 100000 in
set_option maxHeartbeats 8000000 in
theorem opened_any {w : World} {D : DumpV} {pid id : Int} {s : Sl Ob} (hsm : Small D) (hD : RDump w D) (hp : I64 pid) (hs : Lst D pid w s) :
    Calls Try.prog 61 #[D.v, .slice s.a s.len s.cap, .int .i64 id] w (Gets D pid s (OpT D id) w) := by
  have HD := Lib.hid hD
  have HS := Lib.hid hs
  have HPL : Hid (∀ w1, Turned [] w w1 → Calls Try.prog 77 #[D.v, .int .i64 id] w1 fun e w' => e = .returned (.int .i64 (ixv (ixOf D.fileIds id))) ∧ Turned [] w1 w') := Lib.hid fun w1 h => place_file (hD.stays h)
  have HBEL : Hid (∀ w1 n, Turned [] w w1 → (n = pid ∨ n ∈ D.ids) → I64 n → Calls Try.prog 78 #[D.v, .slice s.a s.len s.cap, .int .i64 n] w1 (Gets D pid s (InB D n) w1)) := Lib.hid fun w1 n h hu hi => below_any hsm (hD.stays h) hp (hs.stays h) hu hi
  have HPUT : Hid (∀ w1 kind n, Turned [] w w1 → (kind, n) ∈ univ D pid → Calls Try.prog 36 #[.slice s.a s.len s.cap, .int .i64 kind, .int .i64 n] w1 (Gets D pid s (fun x => x = (kind, n)) w1)) := Lib.hid fun w1 kind n h ho => put_u hsm (hs.stays h) ho (univ_wf hD hp ho).1 (univ_wf hD hp ho).2
  have HIDS := Lib.hid (ids_wf hD)
  have HPRE : Hid (∀ w1 e w2 P, Turned [] w w1 → Gets D pid s P w1 e w2 → Gets D pid s P w e w2) := Lib.hid fun w1 e w2 P h hg => by
    obtain ⟨t, he, hl, ht, ho, hm⟩ := hg
    exact ⟨t, he, hl, h.trans ht, ho.imp (fun e => e) (fun h' => h'.mono h.size), hm⟩
  clear hsm hp hs
  simp only [DumpV.v, DumpV.cells, Sl.v] at HPL HBEL ⊢
  cases hix : ixOf D.fileIds id with
  | none =>
    have HE := Lib.hid (show ∀ o, ¬ OpT D id o from fun o ⟨f, hf, _⟩ => by simp [atFile, hix] at hf)
    rw [hix] at HPL
    have hm1 : ixv none = -1 := rfl
    rw [hm1] at HPL
    clear hix hm1 hD
    go_enter Try.func61, Try.ntmps61
    go_wp2_with (go_at_call 77; refine (HPL.out _ ((Turned.refl [] w).alloc _)).mono ?_; rintro e w1 ⟨rfl, ht1⟩; have HT1 := Lib.hid (((Turned.refl [] w).alloc _).trans ht1); clear ht1)
    go_ret
    exact ⟨s, rfl, HS.out.stays HT1.out, HT1.out, .inl rfl, fun x => ⟨fun h => .inl h, fun h => h.elim (fun h => h) (fun h => absurd h (HE.out x))⟩⟩
  | some i =>
    obtain ⟨f, hf⟩ : ∃ f, D.files.xs[i]? = some f := by
      have h1 := (ixOf_some.1 hix).1
      unfold DumpV.fileIds at h1
      rw [List.getElem?_map] at h1
      obtain ⟨x, hx, _⟩ := Option.map_eq_some_iff.1 h1
      exact ⟨x, hx⟩
    have HAF := Lib.hid (show atFile D id = some f by simp [atFile, hix, hf])
    have HFI := Lib.hid (file_ids (List.mem_of_getElem? hf))
    rw [hix] at HPL
    have hm1 : ixv (some i) = (i : Int) := rfl
    rw [hm1] at HPL
    have hil : i < D.files.len := by rw [← hD.files.n]; exact (List.getElem?_eq_some_iff.1 hf).1
    have hicm := hD.files.cm
    have hilc := hD.files.lc
    unfold maxLen at hicm
    clear hix hm1 hD
    have HF := Lib.hid hf
    clear hf
    go_enter Try.func61, Try.ntmps61
    go_wp2_with fail
    generalize hW : World.alloc w _ = W
    have HTW := Lib.hid (show Turned [] w W by rw [← hW]; exact (Turned.refl _ _).alloc _)
    have HBX := Lib.hid (show W.heap[w.heap.size]? = some (.cells D.cells.toArray 48 (0, 0)) by rw [← hW]; exact heap_alloc_new _ _)
    clear hW
    refine (HPL.out _ HTW.out).mono ?_
    rintro e w1 ⟨rfl, ht1⟩
    have HT1 := Lib.hid (HTW.out.trans ht1)
    have HB1 := Lib.hid (ht1.keep HBX.out (by simp))
    clear ht1
    obtain ⟨d0, d1, d2, d3, d4, d5, d6, d7, d8, d9, d10, d11⟩ := box_cells HB1.out
    simp only [Sl.v] at d0 d1 d2 d3 d4 d5 d6
    obtain ⟨b, o, hab, e0, e1, e2, e3, e4, e5, -⟩ := file_cells ((HD.out.stays HT1.out).files.at_ i f HF.out)
    rw [hab] at d3 HBEL
    have hBl : w.heap.size < w1.heap.size := lt_of_heap HB1.out
    have hBn : ¬ w.heap.size = w1.heap.size := by omega
    have hbl : b < w1.heap.size := World.block_lt_of_cell? w1 _ e0
    have hbn : ¬ b = w1.heap.size := by omega
    clear hab
    by_cases h12 : f.kind = 1 ∨ f.kind = 2
    · rcases h12 with h1 | h1
      · have b1 : (f.kind == 1) = true := by simp [h1]
        have HI := Lib.hid (show ∀ o, OpT D id o ↔ InB D f.obj o from fun o => ⟨fun ⟨g, hg, h⟩ => (by rw [HAF.out] at hg; cases hg; exact h.elim (fun h => h.2) (fun h => absurd h.1 (by omega))), fun h => ⟨f, HAF.out, .inl ⟨by omega, h⟩⟩⟩)
        clear h1
        go_wp2_with (go_at_call 78; refine (HBEL.out _ f.obj (HT1.out.alloc _) (.inr HFI.out) (HIDS.out _ HFI.out)).mono ?_; rintro e w2 hg; obtain ⟨t, rfl, hl, ht, ho, hm⟩ := HPRE.out _ _ _ _ (HT1.out.alloc _) hg; have HG := Lib.hid (show Gets D pid s (InB D f.obj) w (.returned (.slice t.a t.len t.cap)) w2 from ⟨t, rfl, hl, ht, ho, hm⟩); clear hg hl ht ho hm)
        go_ret
        exact HG.out.iff HI.out
      · have b1 : (f.kind == 1) = false := by simp [h1]
        have b2 : (f.kind == 2) = true := by simp [h1]
        have HI := Lib.hid (show ∀ o, OpT D id o ↔ InB D f.obj o from fun o => ⟨fun ⟨g, hg, h⟩ => (by rw [HAF.out] at hg; cases hg; exact h.elim (fun h => h.2) (fun h => absurd h.1 (by omega))), fun h => ⟨f, HAF.out, .inl ⟨by omega, h⟩⟩⟩)
        clear h1
        go_wp2_with (go_at_call 78; refine (HBEL.out _ f.obj (HT1.out.alloc _) (.inr HFI.out) (HIDS.out _ HFI.out)).mono ?_; rintro e w2 hg; obtain ⟨t, rfl, hl, ht, ho, hm⟩ := HPRE.out _ _ _ _ (HT1.out.alloc _) hg; have HG := Lib.hid (show Gets D pid s (InB D f.obj) w (.returned (.slice t.a t.len t.cap)) w2 from ⟨t, rfl, hl, ht, ho, hm⟩); clear hg hl ht ho hm)
        go_ret
        exact HG.out.iff HI.out
    · have b1 : (f.kind == 1) = false := by simp; omega
      have b2 : (f.kind == 2) = false := by simp; omega
      by_cases h57 : 5 ≤ f.kind ∧ f.kind ≤ 7
      · have g5 := h57.1
        have g7 := h57.2
        have HI := Lib.hid (show ∀ o, OpT D id o ↔ o = (f.kind, f.obj) from fun o => ⟨fun ⟨g, hg, h⟩ => (by rw [HAF.out] at hg; cases hg; exact h.elim (fun h => absurd h.1 h12) (fun h => h.2)), fun h => ⟨f, HAF.out, .inr ⟨by omega, h⟩⟩⟩)
        have HK := Lib.hid (show f.kind = 1 ∨ f.kind = 5 ∨ f.kind = 6 ∨ f.kind = 7 by omega)
        clear h12 h57
        go_wp2_with (go_at_call 36; refine (HPUT.out _ f.kind f.obj (HT1.out.alloc _) (mem_univ HK.out (.inr HFI.out))).mono ?_; rintro e w2 hg; obtain ⟨t, rfl, hl, ht, ho, hm⟩ := HPRE.out _ _ _ _ (HT1.out.alloc _) hg; have HG := Lib.hid (show Gets D pid s (fun x => x = (f.kind, f.obj)) w (.returned (.slice t.a t.len t.cap)) w2 from ⟨t, rfl, hl, ht, ho, hm⟩); clear hg hl ht ho hm)
        go_ret
        exact HG.out.iff HI.out
      · have HE := Lib.hid (show ∀ o, ¬ OpT D id o from fun o ⟨g, hg, h⟩ => by rw [HAF.out] at hg; cases hg; rcases h with h | h <;> omega)
        by_cases g5 : 5 ≤ f.kind
        · have g7 : ¬ f.kind ≤ 7 := fun h => h57 ⟨g5, h⟩
          clear h12 h57
          go_wp2
          go_ret
          exact ⟨s, rfl, HS.out.stays (HT1.out.alloc _), HT1.out.alloc _, .inl rfl, fun x => ⟨fun h => .inl h, fun h => h.elim (fun h => h) (fun h => absurd h (HE.out x))⟩⟩
        · clear h12 h57
          go_wp2
          go_ret
          exact ⟨s, rfl, HS.out.stays (HT1.out.alloc _), HT1.out.alloc _, .inl rfl, fun x => ⟨fun h => .inl h, fun h => h.elim (fun h => h) (fun h => absurd h (HE.out x))⟩⟩
end Go.Proofs.Yteaglbfodeineaa

namespace Go.Proofs.Yteaglbfodeineaa
open Go.RowKit

/-- Where more stands: the list t has what s had, and what P says. -/
structure MAt (w wr : World) (D : DumpV) (pid : Int) (o : Ob) (s t : Sl Ob) (P : Ob → Prop) : Prop where
  box : wr.heap[w.heap.size]? = some (.cells D.cells.toArray 48 (0, 0))
  box2 : wr.heap[w.heap.size + 1]? = some (.cells #[.int .i64 o.1, .int .i64 o.2] 70 (0, 0))
  tw : Turned [] w wr
  lst : Lst D pid wr t
  own : t = s ∨ OwnL wr w.heap.size (.slice t.a t.len t.cap) t.xs
  mem : ∀ x, x ∈ t.xs ↔ x ∈ s.xs ∨ P x

theorem MAt.keep {w wr wr' : World} {D : DumpV} {pid : Int} {o : Ob} {s t : Sl Ob} {P : Ob → Prop} (h : MAt w wr D pid o s t P) (ht : Turned [] wr wr') : MAt w wr' D pid o s t P :=
  ⟨ht.keep h.box (by simp), ht.keep h.box2 (by simp), h.tw.trans ht, h.lst.stays ht, h.own.imp (fun e => e) (fun h => h.keep ht), h.mem⟩

theorem MAt.gets {w wr wr' : World} {D : DumpV} {pid : Int} {o : Ob} {s t : Sl Ob} {P Q : Ob → Prop} {e : Ending} (h : MAt w wr D pid o s t P) (hg : Gets D pid t Q wr e wr') : ∃ t', e = .returned (.slice t'.a t'.len t'.cap) ∧ MAt w wr' D pid o s t' (fun x => P x ∨ Q x) ∧ Turned [] wr wr' := by
  obtain ⟨t', he, hl, ht, ho, hm⟩ := hg
  have hk := h.keep ht
  refine ⟨t', he, ⟨hk.box, hk.box2, hk.tw, hl, ?_, fun x => by rw [hm x, h.mem x, or_assoc]⟩, ht⟩
  rcases ho with rfl | ho
  · exact hk.own
  · exact .inr (ho.mono h.tw.size)

theorem MAt.iff {w wr : World} {D : DumpV} {pid : Int} {o : Ob} {s t : Sl Ob} {P P' : Ob → Prop} (h : MAt w wr D pid o s t P) (hP : ∀ x, P' x ↔ P x) : MAt w wr D pid o s t P' :=
  ⟨h.box, h.box2, h.tw, h.lst, h.own, fun x => by rw [h.mem x, hP x]⟩

theorem MAt.done {w wr : World} {D : DumpV} {pid : Int} {o : Ob} {s t : Sl Ob} {P : Ob → Prop} (h : MAt w wr D pid o s t P) : Gets D pid s P w (.returned (.slice t.a t.len t.cap)) wr := ⟨t, rfl, h.lst, h.tw, h.own, h.mem⟩

theorem MAt.start {w : World} {D : DumpV} {pid : Int} {o : Ob} {s : Sl Ob} (h : Lst D pid w s) : MAt w ((w.alloc (.cells D.cells.toArray 48 (0, 0))).alloc (.cells #[.int .i64 o.1, .int .i64 o.2] 70 (0, 0))) D pid o s s (fun _ => False) :=
  have ht := ((Turned.refl [] w).alloc (.cells D.cells.toArray 48 (0, 0))).alloc (.cells #[.int .i64 o.1, .int .i64 o.2] 70 (0, 0))
  ⟨((Turned.refl [] _).alloc _).keep (heap_alloc_new _ _) (by simp), heap_alloc_second _ _ _, ht, h.stays ht, .inl rfl, fun x => by simp⟩

set_option maxRecDepth 100000 in
set_option maxHeartbeats 8000000 in
theorem more_else {w : World} {D : DumpV} {pid : Int} {k id : Int} {s : Sl Ob} (hD : RDump w D) (hs : Lst D pid w s) (h6 : k ≠ 6) (h7 : k ≠ 7) :
    Calls Try.prog 43 #[D.v, .slice s.a s.len s.cap, .agg #[.int .i64 k, .int .i64 id]] w (Gets D pid s (MoreT D (k, id)) w) := by
  have HM := Lib.hid (MAt.start (o := (k, id)) hs)
  have HD := Lib.hid hD
  have HNO := Lib.hid (show ∀ o, MoreT D (k, id) o ↔ False from fun o => ⟨fun ho => by
    rcases ho with ho | ho
    · exact h7 ho.1
    · exact h6 ho.1, fun h => h.elim⟩)
  have b6 : (k != 6) = true := by simp [h6]
  have b7 : (k == 7) = false := by simp [h7]
  have HPL : Hid (∀ w1, Turned [] w w1 → Calls Try.prog 38 #[D.v, .int .i64 id] w1 fun e w' => e = .returned (.int .i64 (ixv (ixOf D.sockIds id))) ∧ Turned [] w1 w') := Lib.hid fun w1 h => place_sock (hD.stays h)
  clear h6 h7 hs hD
  simp only [DumpV.v, DumpV.cells, Sl.v] at HPL ⊢
  go_enter Try.func43, Try.ntmps43
  go_wp2_with (go_at_call 38; refine (HPL.out _ (((Turned.refl [] w).alloc _).alloc _)).mono ?_; rintro e w1 ⟨rfl, ht1⟩; have HT1 := Lib.hid ht1; have k0 : w1.cell? ⟨w.heap.size + 1, 0, none⟩ = some (.int .i64 k) := block_cell (HM.out.keep ht1).box2 rfl; clear ht1)
  go_ret
  exact ((HM.out.keep HT1.out).iff HNO.out).done

def cwdT (D : DumpV) (id : Int) (x : Ob) : Prop := ∃ y, atProc D id = some y ∧ y.cwd ≠ 0 ∧ x = (1, y.cwd)
def cwdB (D : DumpV) (id : Int) : Bool := match atProc D id with | some y => y.cwd != 0 | none => false

theorem held_at {D : DumpV} {k : Nat} {n : Int} {h : HeldV} (hs : D.held.xs[k]? = some h) : heldUpto D (k + 1) n = heldUpto D k n ++ (if h.pid = n then [h.slot.file] else []) := by
  rw [heldUpto, hs]

set_option maxRecDepth 100000 in
set_option maxHeartbeats 8000000 in
theorem more_proc {w : World} {D : DumpV} {pid : Int} {id : Int} {s : Sl Ob} (hsm : Small D) (hD : RDump w D) (hp : I64 pid) (hs : Lst D pid w s) :
    Calls Try.prog 43 #[D.v, .slice s.a s.len s.cap, .agg #[.int .i64 7, .int .i64 id]] w (Gets D pid s (MoreT D (7, id)) w) := by
  have HM := Lib.hid (MAt.start (o := (7, id)) hs)
  have HD := Lib.hid hD
  have HPLP : Hid (∀ w1, Turned [] w w1 → Calls Try.prog 40 #[D.v, .int .i64 id] w1 fun e w' => e = .returned (.int .i64 (ixv (ixOf D.procIds id))) ∧ Turned [] w1 w') := Lib.hid fun w1 h => place_proc (hD.stays h)
  have HPL : Hid (∀ w1, Turned [] w w1 → Calls Try.prog 38 #[D.v, .int .i64 id] w1 fun e w' => e = .returned (.int .i64 (ixv (ixOf D.sockIds id))) ∧ Turned [] w1 w') := Lib.hid fun w1 h => place_sock (hD.stays h)
  have HPUT : Hid (∀ w1 (t : Sl Ob) kind n, Lst D pid w1 t → (kind, n) ∈ univ D pid → Calls Try.prog 36 #[.slice t.a t.len t.cap, .int .i64 kind, .int .i64 n] w1 (Gets D pid t (fun x => x = (kind, n)) w1)) := Lib.hid fun w1 t kind n h ho => put_u hsm h ho (univ_wf hD hp ho).1 (univ_wf hD hp ho).2
  have HOP : Hid (∀ w1 (t : Sl Ob) fid, Turned [] w w1 → Lst D pid w1 t → Calls Try.prog 61 #[D.v, .slice t.a t.len t.cap, .int .i64 fid] w1 (Gets D pid t (OpT D fid) w1)) := Lib.hid fun w1 t fid h ht => opened_any hsm (hD.stays h) hp ht
  clear hs hD hp
  simp only [DumpV.v, DumpV.cells, Sl.v] at HPL HPLP HOP ⊢
  go_enter Try.func43, Try.ntmps43
  go_upto_region 3 with (go_at_call 40; refine (HPLP.out _ (((Turned.refl [] w).alloc _).alloc _)).mono ?_; rintro e w1 ⟨rfl, ht1⟩; have HT1 := Lib.hid ht1; clear ht1)
  have HA := Lib.hid (HM.out.keep HT1.out)
  obtain ⟨d0, d1, d2, d3, d4, d5, d6, d7, d8, d9, d10, d11⟩ := box_cells HA.out.box
  simp only [Sl.v] at d0 d1 d2 d3 d4 d5 d6
  have hpn := HD.out.procs.n
  have hpc := HD.out.procs.cm
  have hpl := HD.out.procs.lc
  unfold maxLen at hpc
  have HPR : Hid (∀ i, ixOf D.procIds id = some i → ∃ y, D.procs.xs[i]? = some y) := Lib.hid fun i hi => by
    have h1 := (ixOf_some.1 hi).1
    unfold DumpV.procIds at h1
    rw [List.getElem?_map] at h1
    obtain ⟨x, hx, _⟩ := Option.map_eq_some_iff.1 h1
    exact ⟨x, hx⟩
  clear HM
  go_cut [7, 30] (fun v7 v wx => v7 = .int .i64 (ixv (ixOf D.procIds id)) ∧ v = .bool (cwdB D id) ∧ wx = w1)
  case first =>
    cases hix : ixOf D.procIds id with
    | none =>
      have h1 : ixv (none : Option Nat) = -1 := rfl
      have HB := Lib.hid (show cwdB D id = false by simp [cwdB, atProc, hix])
      have H1 := Lib.hid (show ixv (ixOf D.procIds id) = -1 by rw [hix]; rfl)
      rw [h1]
      clear hix h1
      go_wp2
      go_meet
      exact ⟨by rw [H1.out], by rw [HB.out], rfl⟩
    | some i =>
      obtain ⟨y, hy⟩ := HPR.out i hix
      have h1 : ixv (some i) = (i : Int) := rfl
      have hil : i < D.procs.len := by rw [← hpn]; exact (List.getElem?_eq_some_iff.1 hy).1
      obtain ⟨b, o, hab, e0, e1, e2, e3, e4, e5, e6, -⟩ := proc_cells ((HD.out.stays HA.out.tw).procs.at_ i y hy)
      have HB := Lib.hid (show cwdB D id = (y.cwd != 0) by simp [cwdB, atProc, hix, hy])
      have H1 := Lib.hid (show ixv (ixOf D.procIds id) = (i : Int) by rw [hix]; rfl)
      rw [h1]
      rw [hab] at d0
      clear hix h1 hy hab
      go_wp2
      go_meet
      exact ⟨by rw [H1.out], by rw [HB.out], rfl⟩
  case rest =>
  obtain ⟨rfl, rfl, hwc⟩ := hcut
  have HAC := Lib.hid (show MAt w wc D pid (7, id) s s (fun _ => False) by rw [hwc]; exact HA.out)
  clear hwc d0 d1 d2 d3 d4 d5 d6 d7 d8 d9 d10 d11
  go_upto_if 30 with fail
  go_cut [1, 7] (fun v v7 wx => v7 = .int .i64 (ixv (ixOf D.procIds id)) ∧ ∃ t : Sl Ob, v = .slice t.a t.len t.cap ∧ MAt w wx D pid (7, id) s t (cwdT D id))
  case first =>
    cases hb : cwdB D id with
    | false =>
      have HN := Lib.hid (show ∀ x, cwdT D id x ↔ False from fun x => ⟨fun ⟨y, hy, h0, _⟩ => by simp [cwdB, hy, h0] at hb, fun h => h.elim⟩)
      clear hb
      go_wp2
      go_meet
      exact ⟨rfl, s, rfl, HAC.out.iff HN.out⟩
    | true =>
      obtain ⟨i, y, hix, hy, h0⟩ : ∃ i y, ixOf D.procIds id = some i ∧ D.procs.xs[i]? = some y ∧ y.cwd ≠ 0 := by
        cases hix : ixOf D.procIds id with
        | none => simp [cwdB, atProc, hix] at hb
        | some i =>
          obtain ⟨y, hy⟩ := HPR.out i hix
          exact ⟨i, y, rfl, hy, by simpa [cwdB, atProc, hix, hy] using hb⟩
      have HN := Lib.hid (show ∀ x, cwdT D id x ↔ False ∨ x = (1, y.cwd) from fun x => ⟨fun ⟨z, hz, _, hx⟩ => by simp [atProc, hix, hy] at hz; subst hz; exact .inr hx, fun h => h.elim (fun h => h.elim) (fun h => ⟨y, by simp [atProc, hix, hy], h0, h⟩)⟩)
      have HU := Lib.hid (show ((1, y.cwd) : Ob) ∈ univ D pid from mem_univ (.inl rfl) (.inr (proc_ids (List.mem_of_getElem? hy))))
      have H1 := Lib.hid (show ixv (ixOf D.procIds id) = (i : Int) by rw [hix]; rfl)
      have hil : i < D.procs.len := by rw [← hpn]; exact (List.getElem?_eq_some_iff.1 hy).1
      obtain ⟨b, o, hab, e0, e1, e2, e3, e4, e5, e6, -⟩ := proc_cells ((HD.out.stays HAC.out.tw).procs.at_ i y hy)
      obtain ⟨d0, -⟩ := box_cells HAC.out.box
      simp only [Sl.v] at d0
      rw [hab] at d0
      clear hb hix hy h0 hab
      rw [H1.out]
      go_wp2_with (go_at_call 36; refine (HPUT.out wc s 1 y.cwd HAC.out.lst HU.out).mono ?_; rintro e w2 hg; obtain ⟨t, rfl, hm, ht⟩ := HAC.out.gets hg; have HMT := Lib.hid hm; clear hg hm ht)
      go_meet
      exact ⟨by rw [H1.out], t, rfl, HMT.out.iff HN.out⟩
  case rest =>
  obtain ⟨rfl, t, rfl, ht⟩ := hcut
  have HMC := Lib.hid ht
  clear ht HAC HA HPR HT1
  have hhn := HD.out.held.n
  have hhc := HD.out.held.cm
  have hhl := HD.out.held.lc
  unfold maxLen at hhc
  go_wp2
  go_loopw [1, 8] (fun v kv wr => ∃ (k : Nat) (t : Sl Ob), k ≤ D.held.len ∧ kv = .int .i64 k ∧ v = .slice t.a t.len t.cap ∧ MAt w wr D pid (7, id) s t (fun x => cwdT D id x ∨ ∃ f ∈ heldUpto D k id, OpT D f x)) (fun _ kv _ => D.held.len - (intOf kv).toNat)
  case atStart => exact ⟨0, t, by omega, rfl, rfl, HMC.out.iff (fun x => by simp [heldUpto])⟩
  case round =>
    obtain ⟨k, t2, hk, rfl, rfl, hm⟩ := hrel
    have HM2 := Lib.hid hm
    clear hm
    obtain ⟨d0, d1, d2, d3, d4, d5, d6, d7, d8, d9, d10, d11⟩ := box_cells HM2.out.box
    simp only [Sl.v] at d0 d1 d2 d3 d4 d5 d6
    have k0 : wr.cell? ⟨w.heap.size + 1, 0, none⟩ = some (.int .i64 7) := block_cell HM2.out.box2 rfl
    have k1 : wr.cell? ⟨w.heap.size + 1, 1, none⟩ = some (.int .i64 id) := block_cell HM2.out.box2 rfl
    by_cases hlt : k < D.held.len
    · obtain ⟨h, hh⟩ : ∃ h, D.held.xs[k]? = some h := ⟨D.held.xs[k]'(by omega), by simp⟩
      obtain ⟨b, o, hab, e0, -, e2, -⟩ := held_cells ((HD.out.stays HM2.out.tw).held.at_ k h hh)
      have HAT := Lib.hid (held_at (n := id) hh)
      rw [hab] at d1 HOP
      clear hh hab
      by_cases hpd : h.pid = id
      · have bp : (h.pid == id) = true := by simp [hpd]
        have H0 := Lib.hid hpd
        clear hpd
        have HD1 := Lib.hid d1
        have HE2' := Lib.hid e2
        go_wp2
        go_quiet (fail)
        go_wp2
        obtain ⟨V, hV⟩ : ∃ V, V = wr.drewN nq := ⟨_, rfl⟩
        rw [← hV]
        have HTV := Lib.hid (show Turned [] wr V by rw [hV]; exact (Turned.refl _ _).drewN _)
        have HM3 := Lib.hid (HM2.out.keep HTV.out)
        have HD1 := Lib.hid (HTV.out.cell HD1.out (by simp))
        have HE2 := Lib.hid (HTV.out.cell HE2'.out (by simp))
        clear hV d0 d1 d2 d3 d4 d5 d6 d7 d8 d9 d10 d11 e0 e2 k0 k1 HE2'
        obtain ⟨d0, -, d2, d3, d4, d5, d6, d7, d8, d9, d10, d11⟩ := box_cells HM3.out.box
        simp only [Sl.v] at d0 d2 d3 d4 d5 d6
        have d1 := HD1.out
        have e2 := HE2.out
        have HGT := Lib.hid (HOP.out (V.drewN 1) t2 h.slot.file (HM3.out.tw.drewN 1) (HM3.out.lst.stays ((Turned.refl [] V).drewN 1)))
        go_region_held3 (fun w' => w'.cell? ⟨w.heap.size, 0, none⟩ = some (.slice D.procs.a D.procs.len D.procs.cap) ∧ w'.cell? ⟨w.heap.size, 1, none⟩ = some (.slice (some ⟨b, o, none⟩) D.held.len D.held.cap) ∧ w'.cell? ⟨w.heap.size, 2, none⟩ = some (.slice D.parks.a D.parks.len D.parks.cap) ∧ w'.cell? ⟨w.heap.size, 3, none⟩ = some (.slice D.files.a D.files.len D.files.cap) ∧ w'.cell? ⟨w.heap.size, 4, none⟩ = some (.slice D.pipes.a D.pipes.len D.pipes.cap) ∧ w'.cell? ⟨w.heap.size, 5, none⟩ = some (.slice D.socks.a D.socks.len D.socks.cap) ∧ w'.cell? ⟨w.heap.size, 6, none⟩ = some (.slice D.inodes.a D.inodes.len D.inodes.cap) ∧ w'.cell? ⟨w.heap.size, 7, none⟩ = some (.int .i64 D.n0) ∧ w'.cell? ⟨w.heap.size, 8, none⟩ = some (.int .i64 D.n1) ∧ w'.cell? ⟨w.heap.size, 9, none⟩ = some (.int .i64 D.n2) ∧ w'.cell? ⟨w.heap.size, 10, none⟩ = some (.int .i64 D.n3) ∧ w'.cell? ⟨w.heap.size, 11, none⟩ = some (.int .i64 D.n4) ∧ w'.cell? ⟨b, o + k * 7 + 2, none⟩ = some (.int .i64 h.slot.file))
          (first | go_keep | (go_split_ands; exact ⟨HT9.out.cell (block_cell HM3.out.box rfl) (by simp), HT9.out.cell HD1.out (by simp), HT9.out.cell (block_cell HM3.out.box rfl) (by simp), HT9.out.cell (block_cell HM3.out.box rfl) (by simp), HT9.out.cell (block_cell HM3.out.box rfl) (by simp), HT9.out.cell (block_cell HM3.out.box rfl) (by simp), HT9.out.cell (block_cell HM3.out.box rfl) (by simp), HT9.out.cell (block_cell HM3.out.box rfl) (by simp), HT9.out.cell (block_cell HM3.out.box rfl) (by simp), HT9.out.cell (block_cell HM3.out.box rfl) (by simp), HT9.out.cell (block_cell HM3.out.box rfl) (by simp), HT9.out.cell (block_cell HM3.out.box rfl) (by simp), HT9.out.cell HE2.out (by simp)⟩))
          ((go_at_call 61; refine HGT.out.mono ?_; rintro e w9 hg; obtain ⟨t9, rfl, hm9, ht9⟩ := (HM3.out.keep ((Turned.refl [] V).drewN 1)).gets hg; have HM9 := Lib.hid hm9; have HT9 := Lib.hid (((Turned.refl [] V).drewN 1).trans ht9); clear hg hm9 ht9))
        all_goals
          go_wp2
          go_roundw
          case rel => exact ⟨k + 1, t9, by omega, by go_num, rfl, HM9.out.iff (fun x => by
            rw [HAT.out, if_pos H0.out]
            simp only [List.mem_append, List.mem_singleton]
            constructor
            · rintro (h | ⟨f, h1 | h1, h2⟩)
              · exact .inl (.inl h)
              · exact .inl (.inr ⟨f, h1, h2⟩)
              · subst h1; exact .inr h2
            · rintro ((h | ⟨f, h1, h2⟩) | h)
              · exact .inl h
              · exact .inr ⟨f, .inl h1, h2⟩
              · exact .inr ⟨_, .inr rfl, h⟩)⟩
          case measure => simp [intOf]; omega
      · have bp : (h.pid == id) = false := by simp [hpd]
        have H0 := Lib.hid hpd
        clear hpd
        go_wp2
        go_quiet (fail)
        go_wp2
        go_roundw
        case rel => exact ⟨k + 1, t2, by omega, by go_num, rfl, (HM2.out.keep ((Turned.refl [] wr).drewN _)).iff (fun x => by rw [HAT.out, if_neg H0.out, List.append_nil])⟩
        case measure => simp [intOf]; omega
    · obtain rfl : k = D.held.len := by omega
      have HNO := Lib.hid (show ∀ x, MoreT D (7, id) x ↔ (cwdT D id x ∨ ∃ f ∈ heldUpto D D.held.len id, OpT D f x) from fun x => ⟨fun h => h.elim (fun h => h.2) (fun h => absurd h.1 (by simp)), fun h => .inl ⟨rfl, h⟩⟩)
      go_wp2_with (go_at_call 38; refine (HPL.out _ HM2.out.tw).mono ?_; rintro e w9 ⟨rfl, ht9⟩; have HT9 := Lib.hid ht9; have k0' : w9.cell? ⟨w.heap.size + 1, 0, none⟩ = some (.int .i64 7) := block_cell (HM2.out.keep ht9).box2 rfl; clear ht9)
      go_ret
      exact ((HM2.out.keep HT9.out).iff HNO.out).done
end Go.Proofs.Yteaglbfodeineaa

namespace Go.Proofs.Yteaglbfodeineaa
open Go.RowKit

set_option maxRecDepth 100000 in
set_option maxHeartbeats 8000000 in
theorem more_sock {w : World} {D : DumpV} {pid : Int} {id : Int} {s : Sl Ob} (hsm : Small D) (hD : RDump w D) (hp : I64 pid) (hs : Lst D pid w s) :
    Calls Try.prog 43 #[D.v, .slice s.a s.len s.cap, .agg #[.int .i64 6, .int .i64 id]] w (Gets D pid s (MoreT D (6, id)) w) := by
  have HM := Lib.hid (MAt.start (o := (6, id)) hs)
  have HD := Lib.hid hD
  have HPL : Hid (∀ w1, Turned [] w w1 → Calls Try.prog 38 #[D.v, .int .i64 id] w1 fun e w' => e = .returned (.int .i64 (ixv (ixOf D.sockIds id))) ∧ Turned [] w1 w') := Lib.hid fun w1 h => place_sock (hD.stays h)
  have HPUT : Hid (∀ w1 (t : Sl Ob) kind n, Lst D pid w1 t → (kind, n) ∈ univ D pid → Calls Try.prog 36 #[.slice t.a t.len t.cap, .int .i64 kind, .int .i64 n] w1 (Gets D pid t (fun x => x = (kind, n)) w1)) := Lib.hid fun w1 t kind n h ho => put_u hsm h ho (univ_wf hD hp ho).1 (univ_wf hD hp ho).2
  have HOP : Hid (∀ w1 (t : Sl Ob) fid, Turned [] w w1 → Lst D pid w1 t → Calls Try.prog 61 #[D.v, .slice t.a t.len t.cap, .int .i64 fid] w1 (Gets D pid t (OpT D fid) w1)) := Lib.hid fun w1 t fid h ht => opened_any hsm (hD.stays h) hp ht
  clear hs hD hp
  simp only [DumpV.v, DumpV.cells, Sl.v] at HPL HOP ⊢
  cases hix : ixOf D.sockIds id with
  | none =>
    have HNO := Lib.hid (show ∀ o, MoreT D (6, id) o ↔ False from fun o => by simp [MoreT, atSock, hix])
    rw [hix] at HPL
    have h1 : ixv none = -1 := rfl
    rw [h1] at HPL
    clear hix h1
    go_enter Try.func43, Try.ntmps43
    go_wp2_with (go_at_call 38; refine (HPL.out _ (((Turned.refl [] w).alloc _).alloc _)).mono ?_; rintro e w1 ⟨rfl, ht1⟩; have HT1 := Lib.hid ht1; have k0 : w1.cell? ⟨w.heap.size + 1, 0, none⟩ = some (.int .i64 6) := block_cell (HM.out.keep ht1).box2 rfl; clear ht1)
    go_ret
    exact ((HM.out.keep HT1.out).iff HNO.out).done
  | some i =>
    obtain ⟨x, hx⟩ : ∃ x, D.socks.xs[i]? = some x := by
      have h1 := (ixOf_some.1 hix).1
      unfold DumpV.sockIds at h1
      rw [List.getElem?_map] at h1
      obtain ⟨x, hx, _⟩ := Option.map_eq_some_iff.1 h1
      exact ⟨x, hx⟩
    have HMT := Lib.hid (show ∀ y, MoreT D (6, id) y ↔ ((x.peer ≠ 0 ∧ y = (6, x.peer)) ∨ ∃ n ∈ x.waits.xs, y = (6, n)) ∨ ∃ q ∈ x.parts.xs, ∃ f ∈ q.l.xs, OpT D f.file y from fun y => by simp [MoreT, atSock, hix, hx, or_assoc])
    have HPI : Hid (∀ n, n = x.peer ∨ n ∈ x.waits.xs → ((6, n) : Ob) ∈ univ D pid) := Lib.hid fun n hn => mem_univ (.inr (.inr (.inl rfl))) (.inr (sock_ids (List.mem_of_getElem? hx) hn))
    rw [hix] at HPL
    have hm1 : ixv (some i) = (i : Int) := rfl
    rw [hm1] at HPL
    have hil : i < D.socks.len := by rw [← HD.out.socks.n]; exact (List.getElem?_eq_some_iff.1 hx).1
    have hicm := HD.out.socks.cm
    have hilc := HD.out.socks.lc
    unfold maxLen at hicm
    obtain ⟨b, o, hab, -, -, c2, -, -, c5, -, -, c8, -, hws, hps⟩ := sock_cells (HD.out.socks.at_ i x hx)
    simp only [Sl.v] at c5 c8
    have HC2 : Hid (∀ w1, Turned [] w w1 → w1.cell? ⟨b, o + i * 9 + 2, none⟩ = some (.int .i64 x.peer)) := Lib.hid fun w1 h => h.cell c2 (by simp)
    have HC5 : Hid (∀ w1, Turned [] w w1 → w1.cell? ⟨b, o + i * 9 + 5, none⟩ = some (.slice x.waits.a x.waits.len x.waits.cap)) := Lib.hid fun w1 h => h.cell c5 (by simp)
    have HC8 : Hid (∀ w1, Turned [] w w1 → w1.cell? ⟨b, o + i * 9 + 8, none⟩ = some (.slice x.parts.a x.parts.len x.parts.cap)) := Lib.hid fun w1 h => h.cell c8 (by simp)
    have HWS := Lib.hid hws
    have HPS := Lib.hid hps
    have HAB := Lib.hid hab
    have hwn := hws.n
    have hwc := hws.cm
    have hwl := hws.lc
    have hpn := hps.n
    have hpc := hps.cm
    have hpl := hps.lc
    unfold maxLen at hwc hpc
    rw [hab] at HOP
    clear hix hm1 hx hab c2 c5 c8 hws hps
    go_enter Try.func43, Try.ntmps43
    go_wp2_with fail
    refine (HPL.out _ (((Turned.refl [] w).alloc _).alloc _)).mono ?_
    rintro e w1 ⟨rfl, ht1⟩
    have HA := Lib.hid (HM.out.keep ht1)
    clear ht1 HM
    obtain ⟨d0, d1, d2, d3, d4, d5, d6, d7, d8, d9, d10, d11⟩ := box_cells HA.out.box
    simp only [Sl.v] at d0 d1 d2 d3 d4 d5 d6
    rw [HAB.out] at d5
    have k0 : w1.cell? ⟨w.heap.size + 1, 0, none⟩ = some (.int .i64 6) := block_cell HA.out.box2 rfl
    have c2 := HC2.out _ HA.out.tw
    go_upto_if 83 with fail
    go_cut [1, 9] (fun v v9 wx => v9 = .int .i64 (i : Int) ∧ ∃ t : Sl Ob, v = .slice t.a t.len t.cap ∧ MAt w wx D pid (6, id) s t (fun y => x.peer ≠ 0 ∧ y = (6, x.peer)))
    case first =>
      by_cases hb : x.peer = 0
      · have hbb : (x.peer != 0) = false := by simp [hb]
        have HN := Lib.hid (show ∀ y : Ob, (x.peer ≠ 0 ∧ y = (6, x.peer)) ↔ False from fun y => by simp [hb])
        clear hb
        go_wp2
        go_meet
        exact ⟨rfl, s, rfl, HA.out.iff HN.out⟩
      · have hbb : (x.peer != 0) = true := by simp [hb]
        have HN := Lib.hid (show ∀ y : Ob, (x.peer ≠ 0 ∧ y = (6, x.peer)) ↔ False ∨ y = (6, x.peer) from fun y => by simp [hb])
        clear hb
        go_wp2_with (go_at_call 36; refine (HPUT.out w1 s 6 x.peer HA.out.lst (HPI.out _ (.inl rfl))).mono ?_; rintro e w2 hg; obtain ⟨t, rfl, hm, ht⟩ := HA.out.gets hg; have HMT2 := Lib.hid hm; clear hg hm ht)
        go_meet
        exact ⟨rfl, t, rfl, HMT2.out.iff HN.out⟩
    case rest =>
    obtain ⟨rfl, t, rfl, ht⟩ := hcut
    have HMC := Lib.hid ht
    clear ht HA d0 d1 d2 d3 d4 d5 d6 d7 d8 d9 d10 d11 k0 c2
    go_wp2
    go_loopw [1, 10] (fun v kv wr => ∃ (k : Nat) (t : Sl Ob), k ≤ x.waits.len ∧ kv = .int .i64 k ∧ v = .slice t.a t.len t.cap ∧ MAt w wr D pid (6, id) s t (fun y => (x.peer ≠ 0 ∧ y = (6, x.peer)) ∨ ∃ n ∈ x.waits.xs.take k, y = (6, n))) (fun _ kv _ => x.waits.len - (intOf kv).toNat)
    case atStart => exact ⟨0, t, by omega, rfl, rfl, HMC.out.iff (fun y => by simp)⟩
    case round =>
      obtain ⟨k, t2, hk, rfl, rfl, hm⟩ := hrel
      have HM2 := Lib.hid hm
      clear hm
      obtain ⟨-, -, -, -, -, d5, -⟩ := box_cells HM2.out.box
      simp only [Sl.v] at d5
      rw [HAB.out] at d5
      have c5 := HC5.out _ HM2.out.tw
      by_cases hlt : k < x.waits.len
      · obtain ⟨n, hn⟩ : ∃ n, x.waits.xs[k]? = some n := ⟨x.waits.xs[k]'(by omega), by simp⟩
        obtain ⟨b2, o2, hab2, e0⟩ := int_cells ((HWS.out.stays (stays_int _) HM2.out.tw).at_ k n hn)
        have HN := Lib.hid hn
        rw [hab2] at c5
        clear hn hab2
        go_wp2_with (go_at_call 36; refine (HPUT.out wr t2 6 n HM2.out.lst (HPI.out _ (.inr (List.mem_of_getElem? HN.out)))).mono ?_; rintro e w2 hg; obtain ⟨t3, rfl, hm, ht⟩ := HM2.out.gets hg; have HM3 := Lib.hid hm; clear hg hm ht)
        go_roundw
        case rel => exact ⟨k + 1, t3, by omega, by go_num, rfl, HM3.out.iff (fun y => by
          rw [List.take_add_one, HN.out]
          exact take_or)⟩
        case measure => simp [intOf]; omega
      · obtain rfl : k = x.waits.len := by omega
        have HM4 := Lib.hid (HM2.out.iff (P' := fun y => (x.peer ≠ 0 ∧ y = (6, x.peer)) ∨ ∃ n ∈ x.waits.xs, y = (6, n)) (fun y => by rw [← hwn, List.take_length]))
        clear hk
        go_wp2
        go_loopw [1, 11] (fun v kv wr => ∃ (k : Nat) (t : Sl Ob), k ≤ x.parts.len ∧ kv = .int .i64 k ∧ v = .slice t.a t.len t.cap ∧ MAt w wr D pid (6, id) s t (fun y => ((x.peer ≠ 0 ∧ y = (6, x.peer)) ∨ ∃ n ∈ x.waits.xs, y = (6, n)) ∨ ∃ q ∈ x.parts.xs.take k, ∃ f ∈ q.l.xs, OpT D f.file y)) (fun _ kv _ => x.parts.len - (intOf kv).toNat)
        case atStart => exact ⟨0, t2, by omega, rfl, rfl, HM4.out.iff (fun y => by simp)⟩
        case round =>
          obtain ⟨k, t5, hk, rfl, rfl, hm⟩ := hrel
          have HM5 := Lib.hid hm
          clear hm d5 c5 HM2 HM4
          obtain ⟨-, -, -, -, -, d5, -⟩ := box_cells HM5.out.box
          simp only [Sl.v] at d5
          rw [HAB.out] at d5
          have c8 := HC8.out _ HM5.out.tw
          by_cases hlt : k < x.parts.len
          · obtain ⟨q, hq⟩ : ∃ q, x.parts.xs[k]? = some q := ⟨x.parts.xs[k]'(by omega), by simp⟩
            obtain ⟨b3, o3, hab3, -, g1, -, hql⟩ := part_cells (HPS.out.at_ k q hq)
            simp only [Sl.v] at g1
            have HG1 : Hid (∀ w1, Turned [] w w1 → w1.cell? ⟨b3, o3 + k * 2 + 1, none⟩ = some (.slice q.l.a q.l.len q.l.cap)) := Lib.hid fun w1 h => h.cell g1 (by simp)
            have HQ := Lib.hid hq
            have HQL := Lib.hid hql
            have HAB3 := Lib.hid hab3
            have hqn := hql.n
            have hqc := hql.cm
            have hqll := hql.lc
            unfold maxLen at hqc
            rw [hab3] at c8
            clear hq hql hab3 g1
            go_wp2
            go_loopw [1, 12] (fun v jv wr => ∃ (j : Nat) (t : Sl Ob), j ≤ q.l.len ∧ jv = .int .i64 j ∧ v = .slice t.a t.len t.cap ∧ MAt w wr D pid (6, id) s t (fun y => (((x.peer ≠ 0 ∧ y = (6, x.peer)) ∨ ∃ n ∈ x.waits.xs, y = (6, n)) ∨ ∃ q ∈ x.parts.xs.take k, ∃ f ∈ q.l.xs, OpT D f.file y) ∨ ∃ f ∈ q.l.xs.take j, OpT D f.file y)) (fun _ jv _ => q.l.len - (intOf jv).toNat)
            case atStart => exact ⟨0, t5, by omega, rfl, rfl, HM5.out.iff (fun y => by simp)⟩
            case round =>
              obtain ⟨j, t6, hj, rfl, rfl, hm⟩ := hrel
              have HM6 := Lib.hid hm
              clear hm d5 c8 HM5
              obtain ⟨d0, d1, d2, d3, d4, d5, d6, d7, d8, d9, d10, d11⟩ := box_cells HM6.out.box
              simp only [Sl.v] at d0 d1 d2 d3 d4 d5 d6
              rw [HAB.out] at d5
              have c8 := HC8.out _ HM6.out.tw
              rw [HAB3.out] at c8
              have g1 := HG1.out _ HM6.out.tw
              by_cases hlj : j < q.l.len
              · obtain ⟨f, hf⟩ : ∃ f, q.l.xs[j]? = some f := ⟨q.l.xs[j]'(by omega), by simp⟩
                obtain ⟨b4, o4, hab4, f0, -⟩ := passed_cells ((HQL.out.stays stays_passed HM6.out.tw).at_ j f hf)
                rw [hab4] at g1
                have HF := Lib.hid hf
                clear hf hab4
                have HD5 := Lib.hid d5
                have HC8' := Lib.hid c8
                have HG1' := Lib.hid g1
                have HF0 := Lib.hid f0
                go_wp2
                have HGT := Lib.hid (HOP.out (wr.drewN 1) t6 f.file (HM6.out.tw.drewN 1) (HM6.out.lst.stays ((Turned.refl [] wr).drewN 1)))
                go_region_held3 (fun w' => w'.cell? ⟨w.heap.size, 0, none⟩ = some (.slice D.procs.a D.procs.len D.procs.cap) ∧ w'.cell? ⟨w.heap.size, 1, none⟩ = some (.slice D.held.a D.held.len D.held.cap) ∧ w'.cell? ⟨w.heap.size, 2, none⟩ = some (.slice D.parks.a D.parks.len D.parks.cap) ∧ w'.cell? ⟨w.heap.size, 3, none⟩ = some (.slice D.files.a D.files.len D.files.cap) ∧ w'.cell? ⟨w.heap.size, 4, none⟩ = some (.slice D.pipes.a D.pipes.len D.pipes.cap) ∧ w'.cell? ⟨w.heap.size, 5, none⟩ = some (.slice (some ⟨b, o, none⟩) D.socks.len D.socks.cap) ∧ w'.cell? ⟨w.heap.size, 6, none⟩ = some (.slice D.inodes.a D.inodes.len D.inodes.cap) ∧ w'.cell? ⟨w.heap.size, 7, none⟩ = some (.int .i64 D.n0) ∧ w'.cell? ⟨w.heap.size, 8, none⟩ = some (.int .i64 D.n1) ∧ w'.cell? ⟨w.heap.size, 9, none⟩ = some (.int .i64 D.n2) ∧ w'.cell? ⟨w.heap.size, 10, none⟩ = some (.int .i64 D.n3) ∧ w'.cell? ⟨w.heap.size, 11, none⟩ = some (.int .i64 D.n4) ∧ w'.cell? ⟨b, o + i * 9 + 8, none⟩ = some (.slice (some ⟨b3, o3, none⟩) x.parts.len x.parts.cap) ∧ w'.cell? ⟨b3, o3 + k * 2 + 1, none⟩ = some (.slice (some ⟨b4, o4, none⟩) q.l.len q.l.cap) ∧ w'.cell? ⟨b4, o4 + j * 5, none⟩ = some (.int .i64 f.file))
                  (first | go_keep | (go_split_ands; exact ⟨HT9.out.cell (block_cell HM6.out.box rfl) (by simp), HT9.out.cell (block_cell HM6.out.box rfl) (by simp), HT9.out.cell (block_cell HM6.out.box rfl) (by simp), HT9.out.cell (block_cell HM6.out.box rfl) (by simp), HT9.out.cell (block_cell HM6.out.box rfl) (by simp), HT9.out.cell HD5.out (by simp), HT9.out.cell (block_cell HM6.out.box rfl) (by simp), HT9.out.cell (block_cell HM6.out.box rfl) (by simp), HT9.out.cell (block_cell HM6.out.box rfl) (by simp), HT9.out.cell (block_cell HM6.out.box rfl) (by simp), HT9.out.cell (block_cell HM6.out.box rfl) (by simp), HT9.out.cell (block_cell HM6.out.box rfl) (by simp), HT9.out.cell HC8'.out (by simp), HT9.out.cell HG1'.out (by simp), HT9.out.cell HF0.out (by simp)⟩))
                  ((go_at_call 61; refine HGT.out.mono ?_; rintro e w9 hg; obtain ⟨t9, rfl, hm9, ht9⟩ := (HM6.out.keep ((Turned.refl [] wr).drewN 1)).gets hg; have HM9 := Lib.hid hm9; have HT9 := Lib.hid (((Turned.refl [] wr).drewN 1).trans ht9); clear hg hm9 ht9))
                all_goals
                  go_wp2
                  go_roundw
                  case rel => exact ⟨j + 1, t9, by omega, by go_num, rfl, HM9.out.iff (fun y => by
                    rw [List.take_add_one, HF.out]
                    exact take_or)⟩
                  case measure => simp [intOf]; omega
              · obtain rfl : j = q.l.len := by omega
                go_wp2
                go_roundw
                case rel => exact ⟨k + 1, t6, by omega, by go_num, rfl, HM6.out.iff (fun y => by
                  rw [← hqn, List.take_length, List.take_add_one, HQ.out]
                  exact take_or)⟩
                case measure => simp [intOf]; omega
          · obtain rfl : k = x.parts.len := by omega
            go_wp2
            go_ret
            exact (HM5.out.iff (fun y => by rw [HMT.out, ← hpn, List.take_length])).done

/-- What is come to from any one thing. -/
theorem more_any {w : World} {D : DumpV} {pid : Int} {o : Ob} {s : Sl Ob} (hsm : Small D) (hD : RDump w D) (hp : I64 pid) (hs : Lst D pid w s) :
    Calls Try.prog 43 #[D.v, .slice s.a s.len s.cap, .agg #[.int .i64 o.1, .int .i64 o.2]] w (Gets D pid s (MoreT D o) w) := by
  obtain ⟨k, id⟩ := o
  by_cases h7 : k = 7
  · subst h7; exact more_proc hsm hD hp hs
  · by_cases h6 : k = 6
    · subst h6; exact more_sock hsm hD hp hs
    · exact more_else hD hs h6 h7
end Go.Proofs.Yteaglbfodeineaa

namespace Go.Proofs.Yteaglbfodeineaa
open Go.RowKit

/-- Where the reference stands in its rounds. -/
structure AAt (w wr : World) (D : DumpV) (pid : Int) (t : Sl Ob) : Prop where
  box : wr.heap[w.heap.size]? = some (.cells D.cells.toArray 48 (0, 0))
  tw : Turned [] w wr
  lst : Lst D pid wr t
  start : (7, pid) ∈ t.xs
  sound : ∀ o ∈ t.xs, Auth D pid o

theorem AAt.keep {w wr wr' : World} {D : DumpV} {pid : Int} {t : Sl Ob} (h : AAt w wr D pid t) (ht : Turned [] wr wr') : AAt w wr' D pid t :=
  ⟨ht.keep h.box (by simp), h.tw.trans ht, h.lst.stays ht, h.start, h.sound⟩

theorem AAt.gets {w wr wr' : World} {D : DumpV} {pid : Int} {t : Sl Ob} {o : Ob} {e : Ending} (h : AAt w wr D pid t) (ho : Auth D pid o) (hg : Gets D pid t (MoreT D o) wr e wr') :
    ∃ t', e = .returned (.slice t'.a t'.len t'.cap) ∧ AAt w wr' D pid t' ∧ Turned [] wr wr' ∧ (∀ x ∈ t.xs, x ∈ t'.xs) ∧ ∀ p, MoreT D o p → p ∈ t'.xs := by
  obtain ⟨t', he, hl, ht, -, hm⟩ := hg
  have hk := h.keep ht
  refine ⟨t', he, ⟨hk.box, hk.tw, hl, (hm _).2 (.inl h.start), fun x hx => ?_⟩, ht, fun x hx => (hm x).2 (.inl hx), fun p hp => (hm p).2 (.inr hp)⟩
  rcases (hm x).1 hx with hx | hx
  · exact h.sound x hx
  · exact .step ho hx

theorem sub_back {l m : List Ob} (hl : l.Nodup) (hs : ∀ x ∈ l, x ∈ m) (hn : m.length ≤ l.length) : ∀ x ∈ m, x ∈ l := fun x hx => by
  by_cases h : x ∈ l
  · exact h
  · have h1 : (x :: l).Nodup := List.nodup_cons.2 ⟨h, hl⟩
    have := nodup_sub_length h1 (fun y hy => by
      rcases List.mem_cons.1 hy with rfl | hy
      · exact hx
      · exact hs y hy)
    simp at this; omega

set_option maxRecDepth 100000 in
set_option maxHeartbeats 8000000 in
theorem ref_authority {w : World} {D : DumpV} {pid : Int} (hsm : Small D) (hD : RDump w D) (hp : I64 pid) :
    Calls Try.prog 27 #[D.v, .int .i64 pid] w fun e w' => ∃ t : Sl Ob, e = .returned (.slice t.a t.len t.cap) ∧ Lst D pid w' t ∧ Turned [] w w' ∧ ∀ o, o ∈ t.xs ↔ Auth D pid o := by
  have HPUT : Hid (∀ w1 (t : Sl Ob), Lst D pid w1 t → Calls Try.prog 36 #[.slice t.a t.len t.cap, .int .i64 7, .int .i64 pid] w1 (Gets D pid t (fun x => x = (7, pid)) w1)) := Lib.hid fun w1 t h => put_u hsm h (mem_univ (.inr (.inr (.inr rfl))) (.inl rfl)) rfl hp
  have HMORE : Hid (∀ w1 (t : Sl Ob) (o : Ob), Turned [] w w1 → Lst D pid w1 t → Calls Try.prog 43 #[D.v, .slice t.a t.len t.cap, .agg #[.int .i64 o.1, .int .i64 o.2]] w1 (Gets D pid t (MoreT D o) w1)) := Lib.hid fun w1 t o h ht => more_any hsm (hD.stays h) hp ht
  have HLEN : Hid (∀ w1 (t : Sl Ob), Lst D pid w1 t → t.len ≤ 100000) := Lib.hid fun w1 t h => h.len hsm
  clear hD hp hsm
  simp only [DumpV.v, DumpV.cells, Sl.v] at HMORE ⊢
  go_enter Try.func27, Try.ntmps27
  go_wp2_with fail
  generalize hW0 : World.alloc (World.alloc w _) _ = W
  have HTW := Lib.hid (show Turned [] w W by rw [← hW0]; exact ((Turned.refl _ _).alloc _).alloc _)
  have HB := Lib.hid (show W.heap[w.heap.size]? = some (.cells D.cells.toArray 48 (0, 0)) by rw [← hW0]; exact ((Turned.refl [] _).alloc _).keep (heap_alloc_new _ _) (by simp))
  have hL : Lst D pid W ⟨some ⟨w.heap.size + 1, 0, none⟩, 0, 0, []⟩ := ⟨⟨⟨Nat.le_refl _, Nat.zero_le _, fun e => by simp at e, rfl, fun i y hy => by simp at hy⟩, List.Pairwise.nil⟩, fun o ho => by simp at ho⟩
  clear hW0
  refine (HPUT.out W ⟨some ⟨w.heap.size + 1, 0, none⟩, 0, 0, []⟩ hL).mono ?_
  clear hL
  rintro e w1 ⟨t, rfl, hl, ht, -, hm⟩
  have HA := Lib.hid (show AAt w w1 D pid t from ⟨ht.keep HB.out (by simp), HTW.out.trans ht, hl, (hm _).2 (.inr rfl), fun o ho => by
    rcases (hm o).1 ho with h | h
    · simp at h
    · rw [h]; exact .start⟩)
  have ht1 : 1 ≤ t.len := by rw [← hl.ord.rd.n]; exact List.length_pos_of_mem HA.out.start
  have htl := HLEN.out _ _ hl
  clear hl ht hm HB HTW HPUT
  go_wp2
  go_loopw [5, 6] (fun v nv wr => ∃ (n : Nat) (t : Sl Ob), nv = .int .i64 n ∧ v = .slice t.a t.len t.cap ∧ n ≤ t.len ∧ AAt w wr D pid t ∧ (n = t.len → ∀ o ∈ t.xs, ∀ p, MoreT D o p → p ∈ t.xs)) (fun _ nv _ => 100001 - (intOf nv).toNat)
  case atStart => exact ⟨0, t, rfl, rfl, by omega, HA.out, fun h => by omega⟩
  case round =>
    obtain ⟨n, t0, rfl, rfl, hn, hA, hcl⟩ := hrel
    have HA0 := Lib.hid hA
    have HCL := Lib.hid hcl
    have hlen := HLEN.out _ _ hA.lst
    have hlc := hA.lst.ord.rd.lc
    have hcm := hA.lst.ord.rd.cm
    have hxn := hA.lst.ord.rd.n
    unfold maxLen at hcm
    clear hA hcl HA ht1 htl
    by_cases hlt : n < t0.len
    · obtain ⟨wo, rfl⟩ : ∃ wo : World, wo = wr := ⟨_, rfl⟩
      go_wp2
      go_loopw [5, 8] (fun v iv wr => ∃ (k : Nat) (t1 : Sl Ob), k ≤ t0.len ∧ iv = .int .i64 k ∧ v = .slice t1.a t1.len t1.cap ∧ AAt w wr D pid t1 ∧ Turned [] wo wr ∧ (∀ o ∈ t0.xs, o ∈ t1.xs) ∧ ∀ o ∈ t0.xs.take k, ∀ p, MoreT D o p → p ∈ t1.xs) (fun _ iv _ => t0.len - (intOf iv).toNat)
      case atStart => exact ⟨0, t0, by omega, rfl, rfl, HA0.out, Turned.refl _ _, fun o h => h, fun o h => by simp at h⟩
      case round =>
        obtain ⟨k, t1, hk, rfl, rfl, hA, hT, hsub, hdone⟩ := hrel
        have HA1 := Lib.hid hA
        have HT1 := Lib.hid hT
        have HSUB := Lib.hid hsub
        have HDONE := Lib.hid hdone
        have hlen1 := HLEN.out _ _ hA.lst
        clear hA hT hsub hdone
        by_cases hlk : k < t0.len
        · obtain ⟨x, hx⟩ : ∃ x, t0.xs[k]? = some x := ⟨t0.xs[k]'(by omega), by simp⟩
          obtain ⟨b, o, hab, e0, e1, -⟩ := obj_cells ((HA0.out.lst.ord.rd.stays stays_obj HT1.out).at_ k x hx)
          obtain ⟨d0, d1, d2, d3, d4, d5, d6, d7, d8, d9, d10, d11⟩ := box_cells HA1.out.box
          simp only [Sl.v] at d0 d1 d2 d3 d4 d5 d6
          rw [hab]
          have HX := Lib.hid hx
          have HE0 := Lib.hid e0
          have HE1 := Lib.hid e1
          have HAX := Lib.hid (HA0.out.sound x (List.mem_of_getElem? hx))
          clear hx hab
          go_wp2
          have HGT := Lib.hid (HMORE.out (wr.drewN 1) t1 x (HA1.out.tw.drewN 1) (HA1.out.lst.stays ((Turned.refl [] wr).drewN 1)))
          go_region_held3 (fun w' => w'.cell? ⟨w.heap.size, 0, none⟩ = some (.slice D.procs.a D.procs.len D.procs.cap) ∧ w'.cell? ⟨w.heap.size, 1, none⟩ = some (.slice D.held.a D.held.len D.held.cap) ∧ w'.cell? ⟨w.heap.size, 2, none⟩ = some (.slice D.parks.a D.parks.len D.parks.cap) ∧ w'.cell? ⟨w.heap.size, 3, none⟩ = some (.slice D.files.a D.files.len D.files.cap) ∧ w'.cell? ⟨w.heap.size, 4, none⟩ = some (.slice D.pipes.a D.pipes.len D.pipes.cap) ∧ w'.cell? ⟨w.heap.size, 5, none⟩ = some (.slice D.socks.a D.socks.len D.socks.cap) ∧ w'.cell? ⟨w.heap.size, 6, none⟩ = some (.slice D.inodes.a D.inodes.len D.inodes.cap) ∧ w'.cell? ⟨w.heap.size, 7, none⟩ = some (.int .i64 D.n0) ∧ w'.cell? ⟨w.heap.size, 8, none⟩ = some (.int .i64 D.n1) ∧ w'.cell? ⟨w.heap.size, 9, none⟩ = some (.int .i64 D.n2) ∧ w'.cell? ⟨w.heap.size, 10, none⟩ = some (.int .i64 D.n3) ∧ w'.cell? ⟨w.heap.size, 11, none⟩ = some (.int .i64 D.n4) ∧ w'.cell? ⟨b, o + k * 2, none⟩ = some (.int .i64 x.1) ∧ w'.cell? ⟨b, o + k * 2 + 1, none⟩ = some (.int .i64 x.2))
            (first | go_keep | (go_split_ands; exact ⟨HT9.out.cell (block_cell HA1.out.box rfl) (by simp), HT9.out.cell (block_cell HA1.out.box rfl) (by simp), HT9.out.cell (block_cell HA1.out.box rfl) (by simp), HT9.out.cell (block_cell HA1.out.box rfl) (by simp), HT9.out.cell (block_cell HA1.out.box rfl) (by simp), HT9.out.cell (block_cell HA1.out.box rfl) (by simp), HT9.out.cell (block_cell HA1.out.box rfl) (by simp), HT9.out.cell (block_cell HA1.out.box rfl) (by simp), HT9.out.cell (block_cell HA1.out.box rfl) (by simp), HT9.out.cell (block_cell HA1.out.box rfl) (by simp), HT9.out.cell (block_cell HA1.out.box rfl) (by simp), HT9.out.cell (block_cell HA1.out.box rfl) (by simp), HT9.out.cell HE0.out (by simp), HT9.out.cell HE1.out (by simp)⟩))
            ((go_at_call 43; refine HGT.out.mono ?_; rintro e w9 hg; obtain ⟨t9, rfl, hm9, ht9, hs9, hd9⟩ := (HA1.out.keep ((Turned.refl [] wr).drewN 1)).gets HAX.out hg; have HM9 := Lib.hid hm9; have HT9 := Lib.hid (((Turned.refl [] wr).drewN 1).trans ht9); have HS9 := Lib.hid hs9; have HD9 := Lib.hid hd9; clear hg hm9 ht9 hs9 hd9))
          all_goals
            go_wp2
            go_roundw
            case rel => exact ⟨k + 1, t9, by omega, by go_num, rfl, HM9.out, HT1.out.trans HT9.out, fun y hy => HS9.out y (HSUB.out y hy), fun y hy p hp => by
              rw [List.take_add_one, HX.out] at hy
              rcases List.mem_append.1 hy with hy | hy
              · exact HS9.out p (HDONE.out y hy p hp)
              · simp at hy; subst hy; exact HD9.out p hp⟩
            case measure => simp [intOf]; omega
        · obtain rfl : k = t0.len := by omega
          have HLE := Lib.hid (nodup_sub_length (srt_nodup HA0.out.lst.ord.srt) HSUB.out)
          have HN1 := Lib.hid HA1.out.lst.ord.rd.n
          go_wp2
          go_roundw
          case rel => exact ⟨t0.len, t1, rfl, rfl, by have := HLE.out; have := HN1.out; omega, HA1.out, fun he y hy p hp => HDONE.out y (by
            rw [← hxn, List.take_length]
            exact sub_back (srt_nodup HA0.out.lst.ord.srt) HSUB.out (by have := HN1.out; omega) y hy) p hp⟩
          case measure => simp [intOf]; omega
    · obtain rfl : n = t0.len := by omega
      go_wp2
      go_ret
      have HEQ : ∀ o, o ∈ t0.xs ↔ Auth D pid o := fun o => ⟨HA0.out.sound o, fun ha => by
        induction ha with
        | start => exact HA0.out.start
        | step _ hm ih => exact HCL.out (by simp) _ ih _ hm⟩
      exact ⟨t0, rfl, HA0.out.lst, HA0.out.tw, fun y z => HEQ (y, z)⟩
end Go.Proofs.Yteaglbfodeineaa
