/-
  Things put in order: slices.SortFunc laid at the program, and the walk of order.
-/
import Derived.Test.YteaglbfodeineaaSortA
import Derived.Test.YteaglbfodeineaaClos
import Derived.Test.YteaglbfodeineaaShelf
namespace Go.Proofs.Yteaglbfodeineaa
open Go.Shelf Go.RowKit Go.Lib Go.Sort

theorem cmpLays57 (blk off size : Nat) (w : World) : CmpLays Try.prog 57 #[] encOb 2 cmpO blk off size w :=
  fun _ _ _ _ x y => (closure_57 x y).mono (by
    rintro e w' ⟨he, q, a, b, c, rfl⟩
    exact ⟨he, q, #[a, b, c], by rw [alloc_eq_grow, alloc_eq_grow, alloc_eq_grow, grow_grow, grow_grow]; rfl⟩)

theorem sort_own {w : World} {base : Nat} {v : Value} {l : List Ob} (h : OwnL w base v l) (hnd : l.Nodup) (hl : l.length ≤ 2000000) :
    Calls Try.prog 56 #[v, .func (.func 57) #[] #[]] w fun e w' => e = .returned (.tuple #[]) ∧ ∃ l', l'.Perm l ∧ Srt l' ∧ OwnL w' base v l' ∧ Turned v.ownBlock.toList w w' := by
  rcases h.2 with ⟨rfl, h0⟩ | ⟨g, cap, cur, rfl, hg, hb, h1, h2, h3, h4⟩
  · obtain rfl : l = [] := List.eq_nil_of_length_eq_zero h0
    have := AnyF.slices_SortFunc_none (P := Try.prog) Try.sortOb none 0 (.func (.func 57) #[] #[]) w
    change Calls Try.prog 56 _ _ _ at this
    refine this.mono ?_
    rintro e w' ⟨he, rfl⟩
    exact ⟨he, [], List.Perm.refl _, List.Pairwise.nil, OwnL.nil _ _, Turned.refl _ _⟩
  · have eg : ∀ args w, (callFunc 57 args).run Try.prog w = .ok (.enter 57 args) w := enters_of Try.func57 (by kernel_rfl) rfl
    have hcon := AnyQ.slices_SortFunc (P := Try.prog) Try.sortOb 2 Try.isAgg70 Try.sizeOf70 encOb (fun _ => rfl) (fun x u hu => by simp [encOb] at hu; rcases hu with rfl | rfl <;> rfl) cmpO cmpO_swo 57 #[] g 0 cap l.toArray w eg (cmpLays57 g 0 _ w)
      (holds_ob hb h4) (lt_of_heap hb) (by simp; omega)
    simp only [List.size_toArray] at hcon
    change Calls Try.prog 56 _ _ _ at hcon
    refine hcon.mono ?_
    rintro e w' ⟨he, d', n, os, ⟨hsz, _, hp⟩, hs, rfl⟩
    obtain ⟨l', rfl⟩ : ∃ l', d' = List.toArray l' := ⟨d'.toList, by simp⟩
    have hsz' : l'.length = l.length := by simpa using hsz
    have hperm : l'.Perm l := by
      simp only [Array.toList_extract, List.extract_eq_take_drop, List.drop_zero, Nat.sub_zero] at hp
      rwa [← hsz', List.take_length, hsz', List.take_length] at hp
    refine ⟨he, l', hperm, srt_of_sorted (hperm.nodup_iff.2 hnd) (by rw [hsz']; exact hs), own_sorted hsz' hg hb h1 h2 h3, ?_⟩
    exact turned_sorted.mono (fun k hk => by simpa [Value.ownBlock] using hk)

set_option maxRecDepth 100000 in
set_option maxHeartbeats 2000000 in
theorem order_any {w : World} {base : Nat} {v : Value} {l : List Ob} (h : OwnL w base v l) (hw : ∀ o ∈ l, KObj.dom o) (hnd : l.Nodup) (hl : l.length ≤ 2000000) :
    Calls Try.prog 42 #[v] w fun e w' => e = .returned v ∧ ∃ l', l'.Perm l ∧ Srt l' ∧ OwnL w' base v l' ∧ Turned v.ownBlock.toList w w' := by
  have HC := Lib.hid (sort_own h hnd hl)
  have HW := Lib.hid hw
  clear h hw hnd
  go_enter Try.func42, Try.ntmps42
  go_wp2_with fail
  refine HC.out.mono ?_
  rintro e w1 ⟨rfl, l', hp, hs, ho, ht⟩
  have HP := Lib.hid hp
  have HS := Lib.hid hs
  have HO := Lib.hid ho
  have HT := Lib.hid ht
  obtain ⟨s, hv, hx, hr⟩ := ho.sl (fun o ho => HW.out o (hp.mem_iff.1 ho))
  have HR := Lib.hid (compact_same (w := w1) (s := s) hr (by rw [hx]; exact srt_next hs))
  clear hp hs ho ht hr HC
  rw [← hv] at HR
  clear hv hx
  go_wp2_with fail
  refine HR.out.mono ?_
  rintro e w2 ⟨rfl, ht2⟩
  have HT2 := Lib.hid ht2
  clear ht2
  go_wp2
  go_ret
  exact ⟨rfl, l', HP.out, HS.out, HO.out.keep HT2.out, HT.out.trans (HT2.out.mono (by simp))⟩
end Go.Proofs.Yteaglbfodeineaa
