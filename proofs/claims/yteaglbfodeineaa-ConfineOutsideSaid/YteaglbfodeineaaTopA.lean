/-
  Authority: the walk.
-/
import Derived.Test.YteaglbfodeineaaAuth
import Derived.Test.YteaglbfodeineaaSort
import Derived.Test.YteaglbfodeineaaChanged
namespace Go.Proofs.Yteaglbfodeineaa
open Go.RowKit

theorem heap_alloc_second (w : World) (a b : Obj) : ((w.alloc a).alloc b).heap[w.heap.size + 1]? = some b := by
  have := heap_alloc_new (w.alloc a) b
  rwa [show (w.alloc a).heap.size = w.heap.size + 1 by simp] at this

/-- What has been gathered of a set, where 'left' are still to come. -/
structure Gat (S : List Ob) (left : Ob → Bool) (l : List Ob) : Prop where
  nd : l.Nodup
  mem : ∀ o, KObj.dom o → (o ∈ l ↔ o ∈ S ∧ left o = false)
  wf : ∀ o ∈ l, KObj.dom o

theorem setOf_some {S : List Ob} {o : Ob} : (setOf S o).isSome ↔ o ∈ S := by
  unfold setOf
  split <;> simp_all

theorem Gat.start {S : List Ob} {left : Ob → Bool} (h : ∀ x, KObj.dom x → left x = (setOf S x).isSome) : Gat S left [] :=
  ⟨List.nodup_nil, fun o ho => ⟨fun h => (by simp at h), fun ⟨h1, h2⟩ => (by rw [h o ho, setOf_some.2 h1] at h2; cases h2)⟩, fun o ho => (by simp at ho)⟩

theorem Gat.put {S : List Ob} {left left' : Ob → Bool} {l : List Ob} (h : Gat S left l) {x : Ob} (hx : KObj.dom x) (hxS : x ∈ S) (hlx : left x = true) (hl : ∀ y, KObj.dom y → (left' y = true ↔ left y = true ∧ y ≠ x)) : Gat S left' (l ++ [x]) := by
  have hlx' : left' x = false := by
    have := hl x hx
    cases hq : left' x with
    | false => rfl
    | true => exact absurd rfl (this.1 hq).2
  refine ⟨List.nodup_append.2 ⟨h.nd, by simp, fun a ha b hb => ?_⟩, fun o ho => ?_, fun o ho => ?_⟩
  · simp at hb; subst hb
    rintro rfl
    have := ((h.mem a hx).1 ha).2
    rw [hlx] at this; cases this
  · rw [List.mem_append, h.mem o ho, List.mem_singleton]
    have := hl o ho
    by_cases e : o = x
    · subst e; simp [hxS, hlx']
    · simp only [e, or_false]
      refine and_congr_right fun _ => ?_
      cases hq : left' o <;> cases hp : left o <;> simp_all
  · rcases List.mem_append.1 ho with ho | ho
    · exact h.wf o ho
    · simp at ho; subst ho; exact hx

theorem Gat.len {S : List Ob} {left : Ob → Bool} {l : List Ob} (h : Gat S left l) : l.length ≤ S.length :=
  nodup_sub_length h.nd (fun o ho => ((h.mem o (h.wf o ho)).1 ho).1)

set_option maxRecDepth 100000 in
set_option maxHeartbeats 4000000 in
theorem authority_top {w : World} {D : DumpV} (hsm : Small D) (hD : RDump w D) {pid : Int} (hp : I64 pid) :
    Calls Try.prog 26 #[D.v, .int .i64 pid] w fun e w' => ∃ v l, e = .returned v ∧ Srt l ∧ OwnL w' w.heap.size v l ∧ Turned [] w w' ∧ l.length ≤ 100000 ∧ (∀ o ∈ l, KObj.dom o) ∧ ∀ o, o ∈ l ↔ Auth D pid o := by
  have HC : Hid (∀ w1, Turned [] w w1 → Calls Try.prog 41 #[D.v, .int .i64 pid] w1 fun e w' => ∃ ms S, e = .returned (.map (some ms)) ∧ IsMapAt KObj w' ms S.length (setOf S) ∧ Turned [] w1 w' ∧ w1.heap.size ≤ ms ∧ (∀ o, o ∈ S ↔ Auth D pid o) ∧ (∀ o ∈ S, KObj.dom o) ∧ S.Nodup ∧ S.length ≤ 100000) := Lib.hid fun w1 h => authority_any hsm (hD.stays h) hp
  clear hD hsm hp
  simp only [DumpV.v, DumpV.cells, Sl.v] at HC ⊢
  go_enter Try.func26, Try.ntmps26
  go_wp2_with (first
    | (go_at_call 41; refine (HC.out _ ((Turned.refl [] w).alloc _)).mono ?_; rintro e w2 ⟨ms, S, rfl, hm, ht2, hb, hmem, hdom, hnd, hlen⟩; have HM := Lib.hid hm; have HT2 := Lib.hid (((Turned.refl [] w).alloc _).trans ht2); have HB := Lib.hid hb; have HMEM := Lib.hid hmem; have HDOM := Lib.hid hdom; have HND := Lib.hid hnd; have HLEN := Lib.hid hlen; clear hm ht2 hb hmem hdom hnd hlen)
    | (at_range; refine wpList_range_is KObj rfl _ rfl HM.out Try.underlying93 rfl ?_; intro w0 left0 cnt0 hrg0 hl0 hg0 hs0; have HRG0 := Lib.hid hrg0; have HL0 := Lib.hid hl0; have HT0 := Lib.hid (show Turned [] w2 w0 from (Turned.refl [] w2).grown hg0 (fun k hk => by cases hk)); have HS0 := Lib.hid hs0; clear hrg0 hl0 hg0 hs0))
  go_frame
  have hmlt := HM.out.lt
  go_loopw [5] (fun v wr => ∃ left cnt l, Ranges KObj wr ms w2.heap.size S.length (setOf S) left cnt ∧ OwnL wr (w2.heap.size + 1) v l ∧ Turned [] w2 wr ∧ w2.heap.size < wr.heap.size ∧ Gat S left l) (fun _ wr => wr.rangeLeft ms w2.heap.size)
  case atStart => exact ⟨left0, cnt0, [], HRG0.out, OwnL.nil _ _, HT0.out, by rw [HS0.out]; omega, Gat.start HL0.out⟩
  case round =>
    obtain ⟨left, cnt, l, hrg, hown, hT, hlt, hga⟩ := hrel
    have HRG := Lib.hid hrg
    have HOWN := Lib.hid hown
    have HT := Lib.hid hT
    have HGA := Lib.hid hga
    have hlen := Nat.le_trans hga.len HLEN.out
    clear hrg hown hT hga HRG0 HL0 HT0 HS0
    go_wp2_with (at_next; refine wpList_next_is KObj rfl _ rfl HRG.out rfl ?_ ?_)
    · intro hc0 hl0
      have HEQ := Lib.hid (show ∀ o, o ∈ l ↔ Auth D pid o from fun o => by
        rw [← HMEM.out o]
        constructor
        · intro h; exact ((HGA.out.mem o (HGA.out.wf o h)).1 h).1
        · intro h; exact (HGA.out.mem o (HDOM.out o h)).2 ⟨h, hl0 o.1 o.2 (HDOM.out o h)⟩)
      clear hc0 hl0
      have HOR := Lib.hid (order_any HOWN.out HGA.out.wf HGA.out.nd (by omega))
      go_wp2_with (go_at_call 42; refine HOR.out.mono ?_; rintro e w5 ⟨rfl, l5, hp, hs, ho, ht5⟩; have HP := Lib.hid hp; have HS := Lib.hid hs; have HO := Lib.hid ho; have HT5 := Lib.hid ht5; clear hp hs ho ht5)
      go_ret
      have hwV := HT2.out.size
      refine ⟨_, l5, rfl, HS.out, HO.out.mono (by omega), (HT2.out.trans HT.out).step HT5.out (fun i hi => .inr ?_), by rw [HP.out.length_eq]; exact hlen, fun o ho => HGA.out.wf o (HP.out.mem_iff.1 ho), fun o => (HP.out.mem_iff).trans (HEQ.out o)⟩
      have := (World.ownsRow.lt HOWN.out i (by simpa using hi)).1
      omega
    · intro x1 x2 c w1 left1 cnt1 hx hlx hfx hrg1 hl1 hcnt hg1 hs1 hen
      obtain ⟨x, hxx⟩ : ∃ x : Ob, x = (x1, x2) := ⟨_, rfl⟩
      obtain rfl : x.1 = x1 := by rw [hxx]
      obtain rfl : x.2 = x2 := by rw [hxx]
      clear hxx
      replace hl1 : ∀ y, KObj.dom y → (left1 y = true ↔ left y = true ∧ y ≠ x) := fun y hy => (hl1 y.1 y.2 hy).trans (and_congr_right fun _ => ⟨fun h e => h (congrArg Prod.fst e) (congrArg Prod.snd e), fun h e1 e2 => h (Prod.ext e1 e2)⟩)
      have HRG1 := Lib.hid hrg1
      have HL1 := Lib.hid hl1
      have HX := Lib.hid hx
      have HXS := Lib.hid (show x ∈ S from setOf_some.1 (by rw [hfx]; rfl))
      have HLX := Lib.hid hlx
      have HCNT := Lib.hid hcnt
      have HT1 := Lib.hid (HT.out.iter hg1 (Nat.le_refl _))
      have HOWN1 := Lib.hid (HOWN.out.grown hg1 (by omega))
      have HSZ := Lib.hid (show w2.heap.size < w1.heap.size from Nat.lt_of_lt_of_le hlt hg1.size)
      clear hrg1 hl1 hx hlx hcnt hg1 hs1 hfx
      have hxv : KObj.val x = .agg #[.int .i64 x.1, .int .i64 x.2] := rfl
      rw [hxv] at hen ⊢
      go_wp2_with (at_builtin; go_loud (refine wpList_append_ob (by rfl) _ _ rfl rfl ((HOWN1.out.keep ((Turned.refl [] w1).alloc _)).keep ((Turned.refl [] _).alloc _)) x _ _ rfl ⟨_, heap_alloc_second _ _ _⟩ (by omega) (by have := HSZ.out; simp; omega) ?_; intro v3 w3 ho3 hg3; have HO3 := Lib.hid ho3; have HG3 := Lib.hid hg3; clear ho3 hg3))
      have HT3 := Lib.hid (show Turned [] w2 w3 from ((HT1.out.alloc _).alloc _).grown HG3.out (fun k hk => .inr (by have := (World.ownsRow.lt HOWN1.out k hk).1; omega)))
      have HRG3 := Lib.hid (show Ranges KObj w3 ms w2.heap.size S.length (setOf S) left1 cnt1 from ((HRG1.out.kept ((Turned.refl [] w1).alloc _) (by simp) (by simp)).kept ((Turned.refl [] _).alloc _) (by simp) (by simp)).grown HG3.out (fun e => by have := (World.ownsRow.lt HOWN1.out _ e.symm).1; omega) (fun e => by have := (World.ownsRow.lt HOWN1.out _ e.symm).1; omega))
      have HSZ3 := Lib.hid (show w2.heap.size < w3.heap.size from Nat.lt_of_lt_of_le HSZ.out (Nat.le_trans (((Turned.refl [] w1).alloc _).alloc _).size HG3.out.size))
      go_roundw
      case rel => exact ⟨left1, cnt1, _, HRG3.out, HO3.out, HT3.out, HSZ3.out, HGA.out.put HX.out HXS.out HLX.out HL1.out⟩
      case measure => rw [HRG3.out.left_eq, HRG.out.left_eq]; exact HCNT.out
end Go.Proofs.Yteaglbfodeineaa
