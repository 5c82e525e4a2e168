/-
  The things of one kind that are gone, or others: the walk of changed.
-/
import Derived.Test.YteaglbfodeineaaLists
import Derived.Test.YteaglbfodeineaaFirsts
import Derived.Test.YteaglbfodeineaaReach
import Derived.Handy
namespace Go.Proofs.Yteaglbfodeineaa
open Go.RowKit

/-- The thing with the number id is gone, or another. -/
def Chg (ids ids' : List Int) (same : Nat → Nat → Bool) (id : Int) : Prop := ∃ i, ixOf ids id = some i ∧ ∀ k, ixOf ids' id = some k → same i k = false

theorem ix_mem {ids : List Int} {id : Int} {i : Nat} (h : ixOf ids id = some i) : id ∈ ids := List.mem_of_getElem? (ixOf_some.1 h).1

theorem ixFrom_zero {ids : List Int} {id : Int} {c : Value} (h : ixFrom ids 0 id = some c) : ∃ i, ixOf ids id = some i ∧ c = .int .i64 i := by
  unfold ixFrom at h
  rw [List.drop_zero] at h
  obtain ⟨i, h1, h2⟩ := Option.map_eq_some_iff.1 h
  exact ⟨i, h1, by rw [← h2]; rfl⟩

/-- What has been gathered, where 'left' are still to come. -/
structure Gath (kind : Int) (ids ids' : List Int) (same : Nat → Nat → Bool) (left : Int → Bool) (l : List Ob) : Prop where
  nd : l.Nodup
  snd : ∀ o ∈ l, o.1 = kind ∧ left o.2 = false ∧ Chg ids ids' same o.2
  all : ∀ x, I64 x → left x = false → Chg ids ids' same x → (kind, x) ∈ l
  wf : ∀ o ∈ l, I64 o.2

theorem Gath.start {kind : Int} {ids ids' : List Int} {same : Nat → Nat → Bool} {left : Int → Bool} (h : ∀ x, I64 x → left x = (ixFrom ids 0 x).isSome) : Gath kind ids ids' same left [] :=
  ⟨List.nodup_nil, fun o ho => by simp at ho, fun x hx hl ⟨i, hi, _⟩ => by rw [h x hx] at hl; simp [ixFrom, hi] at hl, fun o ho => by simp at ho⟩

theorem Gath.len {kind : Int} {ids ids' : List Int} {same : Nat → Nat → Bool} {left : Int → Bool} {l : List Ob} (h : Gath kind ids ids' same left l) : l.length ≤ ids.length := by
  have := nodup_sub_length (m := ids.map fun x => (kind, x)) h.nd (fun o ho => by
    obtain ⟨h1, _, i, hi, _⟩ := h.snd o ho
    exact List.mem_map.2 ⟨o.2, ix_mem hi, by rw [← h1]⟩)
  simpa using this

theorem Gath.skip {kind : Int} {ids ids' : List Int} {same : Nat → Nat → Bool} {left left' : Int → Bool} {l : List Ob} (h : Gath kind ids ids' same left l) {x : Int} (hx : I64 x) (hlx : left x = true)
    (hl : ∀ y, I64 y → (left' y = true ↔ left y = true ∧ y ≠ x)) (hc : ¬ Chg ids ids' same x) : Gath kind ids ids' same left' l := by
  refine ⟨h.nd, fun o ho => ?_, fun y hy hly hcy => ?_, h.wf⟩
  · obtain ⟨h1, h2, h3⟩ := h.snd o ho
    refine ⟨h1, ?_, h3⟩
    have := hl o.2 (h.wf o ho)
    rw [h2] at this
    simpa using this
  · by_cases e : y = x
    · subst e; exact absurd hcy hc
    · refine h.all y hy ?_ hcy
      have := hl y hy
      rw [hly] at this
      cases hq : left y with
      | false => rfl
      | true => exact absurd (this.2 ⟨hq, e⟩) (by simp)

theorem Gath.put {kind : Int} {ids ids' : List Int} {same : Nat → Nat → Bool} {left left' : Int → Bool} {l : List Ob} (h : Gath kind ids ids' same left l) {x : Int} (hx : I64 x) (hlx : left x = true)
    (hl : ∀ y, I64 y → (left' y = true ↔ left y = true ∧ y ≠ x)) (hc : Chg ids ids' same x) : Gath kind ids ids' same left' (l ++ [(kind, x)]) := by
  have hlx' : left' x = false := by
    have := hl x hx
    cases hq : left' x with
    | false => rfl
    | true => exact absurd rfl (this.1 hq).2
  refine ⟨?_, fun o ho => ?_, fun y hy hly hcy => ?_, fun o ho => ?_⟩
  · refine List.nodup_append.2 ⟨h.nd, by simp, fun a ha b hb => ?_⟩
    simp at hb; subst hb
    rintro rfl
    have := (h.snd _ ha).2.1
    simp only at this
    rw [hlx] at this; cases this
  · rcases List.mem_append.1 ho with ho | ho
    · obtain ⟨h1, h2, h3⟩ := h.snd o ho
      refine ⟨h1, ?_, h3⟩
      have := hl o.2 (h.wf o ho)
      rw [h2] at this
      simpa using this
    · simp at ho; subst ho; exact ⟨rfl, hlx', hc⟩
  · by_cases e : y = x
    · subst e; simp
    · refine List.mem_append_left _ (h.all y hy ?_ hcy)
      have := hl y hy
      rw [hly] at this
      cases hq : left y with
      | false => rfl
      | true => exact absurd (this.2 ⟨hq, e⟩) (by simp)
  · rcases List.mem_append.1 ho with ho | ho
    · exact h.wf o ho
    · simp at ho; subst ho; exact hx

theorem Turned.iter {w w1 w2 : World} {S : List Nat} {r : Nat} (h : Turned S w w1) (hg : w1.grownBy w2 (some r)) (hb : w.heap.size ≤ r) : Turned S w w2 :=
  h.grown hg (fun k hk => by cases hk; exact .inr hb)

theorem OwnL.grown {w w' : World} {base r : Nat} {v : Value} {l : List Ob} (h : OwnL w base v l) (hg : w.grownBy w' (some r)) (hr : r < base) : OwnL w' base v l :=
  World.ownsRow.kept h hg (by
    cases hv : v.ownBlock with
    | none => exact .inl rfl
    | some k => exact .inr (fun e => by have := (World.ownsRow.lt h k hv).1; simp at e; omega))

set_option maxHeartbeats 4000000 in
theorem changed_46 {w : World} {b1 b2 n m B1 B2 : Nat} {kind : Int} {ids ids' : List Int} {same : Nat → Nat → Bool} (hf : IsMapAt KInt w b1 n (ixFrom ids 0)) (hg : IsMapAt KInt w b2 m (ixFrom ids' 0)) (hn : ids.length ≤ 1000000)
    (hs : ∀ i k id, ixOf ids id = some i → ixOf ids' id = some k → ∀ w1, Turned [] w w1 → Calls Try.prog 46 #[.int .i64 i, .int .i64 k, .pointer (some ⟨B1, 0, none⟩), .pointer (some ⟨B2, 0, none⟩)] w1 fun e w2 => e = .returned (.bool (same i k)) ∧ Turned [] w1 w2) :
    Calls Try.prog 45 #[.int .i64 kind, .map (some b1), .map (some b2), .func (.func 46) #[] #[.pointer (some ⟨B1, 0, none⟩), .pointer (some ⟨B2, 0, none⟩)]] w fun e w' => ∃ v l, e = .returned v ∧ OwnL w' w.heap.size v l ∧ Turned [] w w' ∧ l.Nodup ∧ l.length ≤ ids.length ∧
      ∀ o, o ∈ l ↔ I64 o.2 ∧ o.1 = kind ∧ Chg ids ids' same o.2 := by
  have HF := Lib.hid hf
  have HG := Lib.hid hg
  have HS := Lib.hid hs
  clear hf hg hs
  go_enter Try.func45, Try.ntmps45
  go_wp2_with (at_range; refine wpList_range_is KInt rfl _ rfl HF.out Try.underlying100 rfl ?_; intro w0 left0 cnt0 hrg0 hl0 hg0 hs0; have HRG0 := Lib.hid hrg0; have HL0 := Lib.hid hl0; have HT0 := Lib.hid (show Turned [] w w0 from (Turned.refl [] w).grown hg0 (fun k hk => by cases hk)); have HS0 := Lib.hid hs0; clear hrg0 hl0 hg0 hs0)
  go_frame
  have hb1 := HF.out.lt
  have hb2 := HG.out.lt
  go_loopw [9] (fun v wr => ∃ left cnt l, Ranges KInt wr b1 w.heap.size n (ixFrom ids 0) left cnt ∧ OwnL wr (w.heap.size + 1) v l ∧ Turned [] w wr ∧ w.heap.size < wr.heap.size ∧ Gath kind ids ids' same left l) (fun _ wr => wr.rangeLeft b1 w.heap.size)
  case atStart => exact ⟨left0, cnt0, [], HRG0.out, OwnL.nil _ _, HT0.out, by rw [HS0.out]; omega, Gath.start HL0.out⟩
  case round =>
    obtain ⟨left, cnt, l, hrg, hown, hT, hlt, hga⟩ := hrel
    have HRG := Lib.hid hrg
    have HOWN := Lib.hid hown
    have HT := Lib.hid hT
    have HGA := Lib.hid hga
    have hlen := hga.len
    clear hrg hown hT hga HRG0 HL0 HT0 HS0
    go_wp2_with (at_next; refine wpList_next_is KInt rfl _ rfl HRG.out rfl ?_ ?_)
    · intro hc0 hl0
      have HC := Lib.hid hl0
      clear hc0 hl0
      go_wp2
      go_ret
      refine ⟨_, l, rfl, HOWN.out.mono (by omega), HT.out, HGA.out.nd, hlen, fun o => ⟨fun ho => ⟨HGA.out.wf o ho, (HGA.out.snd o ho).1, (HGA.out.snd o ho).2.2⟩, fun ho => ?_⟩⟩
      obtain ⟨k, x⟩ := o
      obtain ⟨h1, rfl, h3⟩ := ho
      exact HGA.out.all x h1 (HC.out x h1) h3
    · intro x c w1 left1 cnt1 hx hlx hfx hrg1 hl1 hcnt hg1 hs1 hen
      obtain ⟨i, hi, rfl⟩ := ixFrom_zero hfx
      have HRG1 := Lib.hid hrg1
      have HL1 := Lib.hid hl1
      have HX := Lib.hid hx
      have HLX := Lib.hid hlx
      have HI := Lib.hid hi
      have HCNT := Lib.hid hcnt
      have HT1 := Lib.hid (HT.out.iter hg1 (Nat.le_refl _))
      have HOWN1 := Lib.hid (HOWN.out.grown hg1 (by omega))
      have HSZ := Lib.hid (show w.heap.size < w1.heap.size from Nat.lt_of_lt_of_le hlt hg1.size)
      clear hrg1 hl1 hx hlx hi hcnt hg1 hs1 hfx
      have hxv : KInt.val x = .int .i64 x := rfl
      rw [hxv] at hen ⊢
      have hlk : (Instr.lookup 100 (.map (some b2)) (.int .i64 x) true).run Try.prog w1 = .ok (.tuple #[(ixFrom ids' 0 x).getD (.int .i64 0), .bool (ixFrom ids' 0 x).isSome]) w1 :=
        (HG.out.kept HT1.out (by simp)).look_ok (x := x) Try.underlying100 (z := .int .i64 0) (by exact Try.zeroValue3 _) HX.out
      cases hk : ixOf ids' x with
      | none =>
        have hkk : ixFrom ids' 0 x = none := by simp [ixFrom, hk]
        rw [hkk] at hlk
        simp only [Option.getD_none, Option.isSome_none] at hlk
        have HC := Lib.hid (show Chg ids ids' same x from ⟨i, HI.out, fun k h => by rw [hk] at h; cases h⟩)
        clear hk hkk
        go_wp2_with (at_builtin; refine wpList_append_ob (by rfl) _ _ rfl rfl (HOWN1.out.keep ((Turned.refl [] w1).alloc _)) (kind, x) _ _ rfl ⟨_, heap_alloc_new _ _⟩ (by omega) (by have := HSZ.out; simp; omega) ?_; intro v2 w2 ho2 hg2; have HO2 := Lib.hid ho2; have HG2 := Lib.hid hg2; clear ho2 hg2)
        have HT2 := Lib.hid (show Turned [] w w2 from (HT1.out.alloc _).grown HG2.out (fun k hk => .inr (by have := (World.ownsRow.lt HOWN1.out k hk).1; omega)))
        have HRG2 := Lib.hid (show Ranges KInt w2 b1 w.heap.size n (ixFrom ids 0) left1 cnt1 from (HRG1.out.kept ((Turned.refl [] w1).alloc _) (by simp) (by simp)).grown HG2.out (fun e => by have := (World.ownsRow.lt HOWN1.out _ e.symm).1; omega) (fun e => by have := (World.ownsRow.lt HOWN1.out _ e.symm).1; omega))
        have HSZ2 := Lib.hid (show w.heap.size < w2.heap.size from Nat.lt_of_lt_of_le HSZ.out (Nat.le_trans ((Turned.refl [] w1).alloc _).size HG2.out.size))
        go_roundw
        case rel => exact ⟨left1, cnt1, _, HRG2.out, HO2.out, HT2.out, HSZ2.out, HGA.out.put HX.out HLX.out HL1.out HC.out⟩
        case measure => rw [HRG2.out.left_eq, HRG.out.left_eq]; exact HCNT.out
      | some k =>
        have hkk : ixFrom ids' 0 x = some (.int .i64 k) := by simp [ixFrom, hk]
        rw [hkk] at hlk
        simp only [Option.getD_some, Option.isSome_some] at hlk
        have HK := Lib.hid hk
        clear hk hkk
        cases hsm : same i k with
        | true =>
          have HC := Lib.hid (show ¬ Chg ids ids' same x from fun ⟨i', h1, h2⟩ => by rw [HI.out] at h1; cases h1; have := h2 k HK.out; rw [hsm] at this; cases this)
          have HCL := Lib.hid (show Calls Try.prog 46 #[.int .i64 i, .int .i64 k, .pointer (some ⟨B1, 0, none⟩), .pointer (some ⟨B2, 0, none⟩)] w1 fun e w2 => e = .returned (.bool true) ∧ Turned [] w1 w2 from by rw [← hsm]; exact HS.out i k x HI.out HK.out w1 HT1.out)
          clear hsm
          go_wp2_with (go_at_call 46; refine HCL.out.mono ?_; rintro e w2 ⟨rfl, ht2⟩; have HT2 := Lib.hid ht2; clear ht2)
          go_roundw
          case rel => exact ⟨left1, cnt1, _, HRG1.out.kept HT2.out (by simp) (by simp), HOWN1.out.keep HT2.out, HT1.out.trans HT2.out, Nat.lt_of_lt_of_le HSZ.out HT2.out.size, HGA.out.skip HX.out HLX.out HL1.out HC.out⟩
          case measure => rw [(HRG1.out.kept HT2.out (by simp) (by simp)).left_eq, HRG.out.left_eq]; exact HCNT.out
        | false =>
          have HC := Lib.hid (show Chg ids ids' same x from ⟨i, HI.out, fun k' h => by rw [HK.out] at h; cases h; exact hsm⟩)
          have HCL := Lib.hid (show Calls Try.prog 46 #[.int .i64 i, .int .i64 k, .pointer (some ⟨B1, 0, none⟩), .pointer (some ⟨B2, 0, none⟩)] w1 fun e w2 => e = .returned (.bool false) ∧ Turned [] w1 w2 from by rw [← hsm]; exact HS.out i k x HI.out HK.out w1 HT1.out)
          clear hsm
          go_wp2_with (first
            | (go_at_call 46; refine HCL.out.mono ?_; rintro e w3 ⟨rfl, ht3⟩; have HT3 := Lib.hid ht3; have HSZ3 := Lib.hid ht3.size; clear ht3)
            | (at_builtin; refine wpList_append_ob (by rfl) _ _ rfl rfl ((HOWN1.out.keep HT3.out).keep ((Turned.refl [] w3).alloc _)) (kind, x) _ _ rfl ⟨_, heap_alloc_new _ _⟩ (by omega) (by have := HSZ.out; have := HSZ3.out; simp; omega) ?_; intro v2 w2 ho2 hg2; have HO2 := Lib.hid ho2; have HG2 := Lib.hid hg2; clear ho2 hg2))
          have HT2 := Lib.hid (show Turned [] w w2 from ((HT1.out.trans HT3.out).alloc _).grown HG2.out (fun k hk => .inr (by have := (World.ownsRow.lt HOWN1.out k hk).1; omega)))
          have HRG2 := Lib.hid (show Ranges KInt w2 b1 w.heap.size n (ixFrom ids 0) left1 cnt1 from ((HRG1.out.kept HT3.out (by simp) (by simp)).kept ((Turned.refl [] w3).alloc _) (by simp) (by simp)).grown HG2.out (fun e => by have := (World.ownsRow.lt HOWN1.out _ e.symm).1; omega) (fun e => by have := (World.ownsRow.lt HOWN1.out _ e.symm).1; omega))
          have HSZ2 := Lib.hid (show w.heap.size < w2.heap.size from Nat.lt_of_lt_of_le HSZ.out (Nat.le_trans HSZ3.out (Nat.le_trans ((Turned.refl [] w3).alloc _).size HG2.out.size)))
          go_roundw
          case rel => exact ⟨left1, cnt1, _, HRG2.out, HO2.out, HT2.out, HSZ2.out, HGA.out.put HX.out HLX.out HL1.out HC.out⟩
          case measure => rw [HRG2.out.left_eq, HRG.out.left_eq]; exact HCNT.out

set_option maxHeartbeats 4000000 in
theorem changed_48 {w : World} {b1 b2 n m B1 B2 : Nat} {kind : Int} {ids ids' : List Int} {same : Nat → Nat → Bool} (hf : IsMapAt KInt w b1 n (ixFrom ids 0)) (hg : IsMapAt KInt w b2 m (ixFrom ids' 0)) (hn : ids.length ≤ 1000000)
    (hs : ∀ i k id, ixOf ids id = some i → ixOf ids' id = some k → ∀ w1, Turned [] w w1 → Calls Try.prog 48 #[.int .i64 i, .int .i64 k, .pointer (some ⟨B1, 0, none⟩), .pointer (some ⟨B2, 0, none⟩)] w1 fun e w2 => e = .returned (.bool (same i k)) ∧ Turned [] w1 w2) :
    Calls Try.prog 45 #[.int .i64 kind, .map (some b1), .map (some b2), .func (.func 48) #[] #[.pointer (some ⟨B1, 0, none⟩), .pointer (some ⟨B2, 0, none⟩)]] w fun e w' => ∃ v l, e = .returned v ∧ OwnL w' w.heap.size v l ∧ Turned [] w w' ∧ l.Nodup ∧ l.length ≤ ids.length ∧
      ∀ o, o ∈ l ↔ I64 o.2 ∧ o.1 = kind ∧ Chg ids ids' same o.2 := by
  have HF := Lib.hid hf
  have HG := Lib.hid hg
  have HS := Lib.hid hs
  clear hf hg hs
  go_enter Try.func45, Try.ntmps45
  go_wp2_with (at_range; refine wpList_range_is KInt rfl _ rfl HF.out Try.underlying100 rfl ?_; intro w0 left0 cnt0 hrg0 hl0 hg0 hs0; have HRG0 := Lib.hid hrg0; have HL0 := Lib.hid hl0; have HT0 := Lib.hid (show Turned [] w w0 from (Turned.refl [] w).grown hg0 (fun k hk => by cases hk)); have HS0 := Lib.hid hs0; clear hrg0 hl0 hg0 hs0)
  go_frame
  have hb1 := HF.out.lt
  have hb2 := HG.out.lt
  go_loopw [9] (fun v wr => ∃ left cnt l, Ranges KInt wr b1 w.heap.size n (ixFrom ids 0) left cnt ∧ OwnL wr (w.heap.size + 1) v l ∧ Turned [] w wr ∧ w.heap.size < wr.heap.size ∧ Gath kind ids ids' same left l) (fun _ wr => wr.rangeLeft b1 w.heap.size)
  case atStart => exact ⟨left0, cnt0, [], HRG0.out, OwnL.nil _ _, HT0.out, by rw [HS0.out]; omega, Gath.start HL0.out⟩
  case round =>
    obtain ⟨left, cnt, l, hrg, hown, hT, hlt, hga⟩ := hrel
    have HRG := Lib.hid hrg
    have HOWN := Lib.hid hown
    have HT := Lib.hid hT
    have HGA := Lib.hid hga
    have hlen := hga.len
    clear hrg hown hT hga HRG0 HL0 HT0 HS0
    go_wp2_with (at_next; refine wpList_next_is KInt rfl _ rfl HRG.out rfl ?_ ?_)
    · intro hc0 hl0
      have HC := Lib.hid hl0
      clear hc0 hl0
      go_wp2
      go_ret
      refine ⟨_, l, rfl, HOWN.out.mono (by omega), HT.out, HGA.out.nd, hlen, fun o => ⟨fun ho => ⟨HGA.out.wf o ho, (HGA.out.snd o ho).1, (HGA.out.snd o ho).2.2⟩, fun ho => ?_⟩⟩
      obtain ⟨k, x⟩ := o
      obtain ⟨h1, rfl, h3⟩ := ho
      exact HGA.out.all x h1 (HC.out x h1) h3
    · intro x c w1 left1 cnt1 hx hlx hfx hrg1 hl1 hcnt hg1 hs1 hen
      obtain ⟨i, hi, rfl⟩ := ixFrom_zero hfx
      have HRG1 := Lib.hid hrg1
      have HL1 := Lib.hid hl1
      have HX := Lib.hid hx
      have HLX := Lib.hid hlx
      have HI := Lib.hid hi
      have HCNT := Lib.hid hcnt
      have HT1 := Lib.hid (HT.out.iter hg1 (Nat.le_refl _))
      have HOWN1 := Lib.hid (HOWN.out.grown hg1 (by omega))
      have HSZ := Lib.hid (show w.heap.size < w1.heap.size from Nat.lt_of_lt_of_le hlt hg1.size)
      clear hrg1 hl1 hx hlx hi hcnt hg1 hs1 hfx
      have hxv : KInt.val x = .int .i64 x := rfl
      rw [hxv] at hen ⊢
      have hlk : (Instr.lookup 100 (.map (some b2)) (.int .i64 x) true).run Try.prog w1 = .ok (.tuple #[(ixFrom ids' 0 x).getD (.int .i64 0), .bool (ixFrom ids' 0 x).isSome]) w1 :=
        (HG.out.kept HT1.out (by simp)).look_ok (x := x) Try.underlying100 (z := .int .i64 0) (by exact Try.zeroValue3 _) HX.out
      cases hk : ixOf ids' x with
      | none =>
        have hkk : ixFrom ids' 0 x = none := by simp [ixFrom, hk]
        rw [hkk] at hlk
        simp only [Option.getD_none, Option.isSome_none] at hlk
        have HC := Lib.hid (show Chg ids ids' same x from ⟨i, HI.out, fun k h => by rw [hk] at h; cases h⟩)
        clear hk hkk
        go_wp2_with (at_builtin; refine wpList_append_ob (by rfl) _ _ rfl rfl (HOWN1.out.keep ((Turned.refl [] w1).alloc _)) (kind, x) _ _ rfl ⟨_, heap_alloc_new _ _⟩ (by omega) (by have := HSZ.out; simp; omega) ?_; intro v2 w2 ho2 hg2; have HO2 := Lib.hid ho2; have HG2 := Lib.hid hg2; clear ho2 hg2)
        have HT2 := Lib.hid (show Turned [] w w2 from (HT1.out.alloc _).grown HG2.out (fun k hk => .inr (by have := (World.ownsRow.lt HOWN1.out k hk).1; omega)))
        have HRG2 := Lib.hid (show Ranges KInt w2 b1 w.heap.size n (ixFrom ids 0) left1 cnt1 from (HRG1.out.kept ((Turned.refl [] w1).alloc _) (by simp) (by simp)).grown HG2.out (fun e => by have := (World.ownsRow.lt HOWN1.out _ e.symm).1; omega) (fun e => by have := (World.ownsRow.lt HOWN1.out _ e.symm).1; omega))
        have HSZ2 := Lib.hid (show w.heap.size < w2.heap.size from Nat.lt_of_lt_of_le HSZ.out (Nat.le_trans ((Turned.refl [] w1).alloc _).size HG2.out.size))
        go_roundw
        case rel => exact ⟨left1, cnt1, _, HRG2.out, HO2.out, HT2.out, HSZ2.out, HGA.out.put HX.out HLX.out HL1.out HC.out⟩
        case measure => rw [HRG2.out.left_eq, HRG.out.left_eq]; exact HCNT.out
      | some k =>
        have hkk : ixFrom ids' 0 x = some (.int .i64 k) := by simp [ixFrom, hk]
        rw [hkk] at hlk
        simp only [Option.getD_some, Option.isSome_some] at hlk
        have HK := Lib.hid hk
        clear hk hkk
        cases hsm : same i k with
        | true =>
          have HC := Lib.hid (show ¬ Chg ids ids' same x from fun ⟨i', h1, h2⟩ => by rw [HI.out] at h1; cases h1; have := h2 k HK.out; rw [hsm] at this; cases this)
          have HCL := Lib.hid (show Calls Try.prog 48 #[.int .i64 i, .int .i64 k, .pointer (some ⟨B1, 0, none⟩), .pointer (some ⟨B2, 0, none⟩)] w1 fun e w2 => e = .returned (.bool true) ∧ Turned [] w1 w2 from by rw [← hsm]; exact HS.out i k x HI.out HK.out w1 HT1.out)
          clear hsm
          go_wp2_with (go_at_call 48; refine HCL.out.mono ?_; rintro e w2 ⟨rfl, ht2⟩; have HT2 := Lib.hid ht2; clear ht2)
          go_roundw
          case rel => exact ⟨left1, cnt1, _, HRG1.out.kept HT2.out (by simp) (by simp), HOWN1.out.keep HT2.out, HT1.out.trans HT2.out, Nat.lt_of_lt_of_le HSZ.out HT2.out.size, HGA.out.skip HX.out HLX.out HL1.out HC.out⟩
          case measure => rw [(HRG1.out.kept HT2.out (by simp) (by simp)).left_eq, HRG.out.left_eq]; exact HCNT.out
        | false =>
          have HC := Lib.hid (show Chg ids ids' same x from ⟨i, HI.out, fun k' h => by rw [HK.out] at h; cases h; exact hsm⟩)
          have HCL := Lib.hid (show Calls Try.prog 48 #[.int .i64 i, .int .i64 k, .pointer (some ⟨B1, 0, none⟩), .pointer (some ⟨B2, 0, none⟩)] w1 fun e w2 => e = .returned (.bool false) ∧ Turned [] w1 w2 from by rw [← hsm]; exact HS.out i k x HI.out HK.out w1 HT1.out)
          clear hsm
          go_wp2_with (first
            | (go_at_call 48; refine HCL.out.mono ?_; rintro e w3 ⟨rfl, ht3⟩; have HT3 := Lib.hid ht3; have HSZ3 := Lib.hid ht3.size; clear ht3)
            | (at_builtin; refine wpList_append_ob (by rfl) _ _ rfl rfl ((HOWN1.out.keep HT3.out).keep ((Turned.refl [] w3).alloc _)) (kind, x) _ _ rfl ⟨_, heap_alloc_new _ _⟩ (by omega) (by have := HSZ.out; have := HSZ3.out; simp; omega) ?_; intro v2 w2 ho2 hg2; have HO2 := Lib.hid ho2; have HG2 := Lib.hid hg2; clear ho2 hg2))
          have HT2 := Lib.hid (show Turned [] w w2 from ((HT1.out.trans HT3.out).alloc _).grown HG2.out (fun k hk => .inr (by have := (World.ownsRow.lt HOWN1.out k hk).1; omega)))
          have HRG2 := Lib.hid (show Ranges KInt w2 b1 w.heap.size n (ixFrom ids 0) left1 cnt1 from ((HRG1.out.kept HT3.out (by simp) (by simp)).kept ((Turned.refl [] w3).alloc _) (by simp) (by simp)).grown HG2.out (fun e => by have := (World.ownsRow.lt HOWN1.out _ e.symm).1; omega) (fun e => by have := (World.ownsRow.lt HOWN1.out _ e.symm).1; omega))
          have HSZ2 := Lib.hid (show w.heap.size < w2.heap.size from Nat.lt_of_lt_of_le HSZ.out (Nat.le_trans HSZ3.out (Nat.le_trans ((Turned.refl [] w3).alloc _).size HG2.out.size)))
          go_roundw
          case rel => exact ⟨left1, cnt1, _, HRG2.out, HO2.out, HT2.out, HSZ2.out, HGA.out.put HX.out HLX.out HL1.out HC.out⟩
          case measure => rw [HRG2.out.left_eq, HRG.out.left_eq]; exact HCNT.out

set_option maxHeartbeats 4000000 in
theorem changed_49 {w : World} {b1 b2 n m B1 B2 : Nat} {kind : Int} {ids ids' : List Int} {same : Nat → Nat → Bool} (hf : IsMapAt KInt w b1 n (ixFrom ids 0)) (hg : IsMapAt KInt w b2 m (ixFrom ids' 0)) (hn : ids.length ≤ 1000000)
    (hs : ∀ i k id, ixOf ids id = some i → ixOf ids' id = some k → ∀ w1, Turned [] w w1 → Calls Try.prog 49 #[.int .i64 i, .int .i64 k, .pointer (some ⟨B1, 0, none⟩), .pointer (some ⟨B2, 0, none⟩)] w1 fun e w2 => e = .returned (.bool (same i k)) ∧ Turned [] w1 w2) :
    Calls Try.prog 45 #[.int .i64 kind, .map (some b1), .map (some b2), .func (.func 49) #[] #[.pointer (some ⟨B1, 0, none⟩), .pointer (some ⟨B2, 0, none⟩)]] w fun e w' => ∃ v l, e = .returned v ∧ OwnL w' w.heap.size v l ∧ Turned [] w w' ∧ l.Nodup ∧ l.length ≤ ids.length ∧
      ∀ o, o ∈ l ↔ I64 o.2 ∧ o.1 = kind ∧ Chg ids ids' same o.2 := by
  have HF := Lib.hid hf
  have HG := Lib.hid hg
  have HS := Lib.hid hs
  clear hf hg hs
  go_enter Try.func45, Try.ntmps45
  go_wp2_with (at_range; refine wpList_range_is KInt rfl _ rfl HF.out Try.underlying100 rfl ?_; intro w0 left0 cnt0 hrg0 hl0 hg0 hs0; have HRG0 := Lib.hid hrg0; have HL0 := Lib.hid hl0; have HT0 := Lib.hid (show Turned [] w w0 from (Turned.refl [] w).grown hg0 (fun k hk => by cases hk)); have HS0 := Lib.hid hs0; clear hrg0 hl0 hg0 hs0)
  go_frame
  have hb1 := HF.out.lt
  have hb2 := HG.out.lt
  go_loopw [9] (fun v wr => ∃ left cnt l, Ranges KInt wr b1 w.heap.size n (ixFrom ids 0) left cnt ∧ OwnL wr (w.heap.size + 1) v l ∧ Turned [] w wr ∧ w.heap.size < wr.heap.size ∧ Gath kind ids ids' same left l) (fun _ wr => wr.rangeLeft b1 w.heap.size)
  case atStart => exact ⟨left0, cnt0, [], HRG0.out, OwnL.nil _ _, HT0.out, by rw [HS0.out]; omega, Gath.start HL0.out⟩
  case round =>
    obtain ⟨left, cnt, l, hrg, hown, hT, hlt, hga⟩ := hrel
    have HRG := Lib.hid hrg
    have HOWN := Lib.hid hown
    have HT := Lib.hid hT
    have HGA := Lib.hid hga
    have hlen := hga.len
    clear hrg hown hT hga HRG0 HL0 HT0 HS0
    go_wp2_with (at_next; refine wpList_next_is KInt rfl _ rfl HRG.out rfl ?_ ?_)
    · intro hc0 hl0
      have HC := Lib.hid hl0
      clear hc0 hl0
      go_wp2
      go_ret
      refine ⟨_, l, rfl, HOWN.out.mono (by omega), HT.out, HGA.out.nd, hlen, fun o => ⟨fun ho => ⟨HGA.out.wf o ho, (HGA.out.snd o ho).1, (HGA.out.snd o ho).2.2⟩, fun ho => ?_⟩⟩
      obtain ⟨k, x⟩ := o
      obtain ⟨h1, rfl, h3⟩ := ho
      exact HGA.out.all x h1 (HC.out x h1) h3
    · intro x c w1 left1 cnt1 hx hlx hfx hrg1 hl1 hcnt hg1 hs1 hen
      obtain ⟨i, hi, rfl⟩ := ixFrom_zero hfx
      have HRG1 := Lib.hid hrg1
      have HL1 := Lib.hid hl1
      have HX := Lib.hid hx
      have HLX := Lib.hid hlx
      have HI := Lib.hid hi
      have HCNT := Lib.hid hcnt
      have HT1 := Lib.hid (HT.out.iter hg1 (Nat.le_refl _))
      have HOWN1 := Lib.hid (HOWN.out.grown hg1 (by omega))
      have HSZ := Lib.hid (show w.heap.size < w1.heap.size from Nat.lt_of_lt_of_le hlt hg1.size)
      clear hrg1 hl1 hx hlx hi hcnt hg1 hs1 hfx
      have hxv : KInt.val x = .int .i64 x := rfl
      rw [hxv] at hen ⊢
      have hlk : (Instr.lookup 100 (.map (some b2)) (.int .i64 x) true).run Try.prog w1 = .ok (.tuple #[(ixFrom ids' 0 x).getD (.int .i64 0), .bool (ixFrom ids' 0 x).isSome]) w1 :=
        (HG.out.kept HT1.out (by simp)).look_ok (x := x) Try.underlying100 (z := .int .i64 0) (by exact Try.zeroValue3 _) HX.out
      cases hk : ixOf ids' x with
      | none =>
        have hkk : ixFrom ids' 0 x = none := by simp [ixFrom, hk]
        rw [hkk] at hlk
        simp only [Option.getD_none, Option.isSome_none] at hlk
        have HC := Lib.hid (show Chg ids ids' same x from ⟨i, HI.out, fun k h => by rw [hk] at h; cases h⟩)
        clear hk hkk
        go_wp2_with (at_builtin; refine wpList_append_ob (by rfl) _ _ rfl rfl (HOWN1.out.keep ((Turned.refl [] w1).alloc _)) (kind, x) _ _ rfl ⟨_, heap_alloc_new _ _⟩ (by omega) (by have := HSZ.out; simp; omega) ?_; intro v2 w2 ho2 hg2; have HO2 := Lib.hid ho2; have HG2 := Lib.hid hg2; clear ho2 hg2)
        have HT2 := Lib.hid (show Turned [] w w2 from (HT1.out.alloc _).grown HG2.out (fun k hk => .inr (by have := (World.ownsRow.lt HOWN1.out k hk).1; omega)))
        have HRG2 := Lib.hid (show Ranges KInt w2 b1 w.heap.size n (ixFrom ids 0) left1 cnt1 from (HRG1.out.kept ((Turned.refl [] w1).alloc _) (by simp) (by simp)).grown HG2.out (fun e => by have := (World.ownsRow.lt HOWN1.out _ e.symm).1; omega) (fun e => by have := (World.ownsRow.lt HOWN1.out _ e.symm).1; omega))
        have HSZ2 := Lib.hid (show w.heap.size < w2.heap.size from Nat.lt_of_lt_of_le HSZ.out (Nat.le_trans ((Turned.refl [] w1).alloc _).size HG2.out.size))
        go_roundw
        case rel => exact ⟨left1, cnt1, _, HRG2.out, HO2.out, HT2.out, HSZ2.out, HGA.out.put HX.out HLX.out HL1.out HC.out⟩
        case measure => rw [HRG2.out.left_eq, HRG.out.left_eq]; exact HCNT.out
      | some k =>
        have hkk : ixFrom ids' 0 x = some (.int .i64 k) := by simp [ixFrom, hk]
        rw [hkk] at hlk
        simp only [Option.getD_some, Option.isSome_some] at hlk
        have HK := Lib.hid hk
        clear hk hkk
        cases hsm : same i k with
        | true =>
          have HC := Lib.hid (show ¬ Chg ids ids' same x from fun ⟨i', h1, h2⟩ => by rw [HI.out] at h1; cases h1; have := h2 k HK.out; rw [hsm] at this; cases this)
          have HCL := Lib.hid (show Calls Try.prog 49 #[.int .i64 i, .int .i64 k, .pointer (some ⟨B1, 0, none⟩), .pointer (some ⟨B2, 0, none⟩)] w1 fun e w2 => e = .returned (.bool true) ∧ Turned [] w1 w2 from by rw [← hsm]; exact HS.out i k x HI.out HK.out w1 HT1.out)
          clear hsm
          go_wp2_with (go_at_call 49; refine HCL.out.mono ?_; rintro e w2 ⟨rfl, ht2⟩; have HT2 := Lib.hid ht2; clear ht2)
          go_roundw
          case rel => exact ⟨left1, cnt1, _, HRG1.out.kept HT2.out (by simp) (by simp), HOWN1.out.keep HT2.out, HT1.out.trans HT2.out, Nat.lt_of_lt_of_le HSZ.out HT2.out.size, HGA.out.skip HX.out HLX.out HL1.out HC.out⟩
          case measure => rw [(HRG1.out.kept HT2.out (by simp) (by simp)).left_eq, HRG.out.left_eq]; exact HCNT.out
        | false =>
          have HC := Lib.hid (show Chg ids ids' same x from ⟨i, HI.out, fun k' h => by rw [HK.out] at h; cases h; exact hsm⟩)
          have HCL := Lib.hid (show Calls Try.prog 49 #[.int .i64 i, .int .i64 k, .pointer (some ⟨B1, 0, none⟩), .pointer (some ⟨B2, 0, none⟩)] w1 fun e w2 => e = .returned (.bool false) ∧ Turned [] w1 w2 from by rw [← hsm]; exact HS.out i k x HI.out HK.out w1 HT1.out)
          clear hsm
          go_wp2_with (first
            | (go_at_call 49; refine HCL.out.mono ?_; rintro e w3 ⟨rfl, ht3⟩; have HT3 := Lib.hid ht3; have HSZ3 := Lib.hid ht3.size; clear ht3)
            | (at_builtin; refine wpList_append_ob (by rfl) _ _ rfl rfl ((HOWN1.out.keep HT3.out).keep ((Turned.refl [] w3).alloc _)) (kind, x) _ _ rfl ⟨_, heap_alloc_new _ _⟩ (by omega) (by have := HSZ.out; have := HSZ3.out; simp; omega) ?_; intro v2 w2 ho2 hg2; have HO2 := Lib.hid ho2; have HG2 := Lib.hid hg2; clear ho2 hg2))
          have HT2 := Lib.hid (show Turned [] w w2 from ((HT1.out.trans HT3.out).alloc _).grown HG2.out (fun k hk => .inr (by have := (World.ownsRow.lt HOWN1.out k hk).1; omega)))
          have HRG2 := Lib.hid (show Ranges KInt w2 b1 w.heap.size n (ixFrom ids 0) left1 cnt1 from ((HRG1.out.kept HT3.out (by simp) (by simp)).kept ((Turned.refl [] w3).alloc _) (by simp) (by simp)).grown HG2.out (fun e => by have := (World.ownsRow.lt HOWN1.out _ e.symm).1; omega) (fun e => by have := (World.ownsRow.lt HOWN1.out _ e.symm).1; omega))
          have HSZ2 := Lib.hid (show w.heap.size < w2.heap.size from Nat.lt_of_lt_of_le HSZ.out (Nat.le_trans HSZ3.out (Nat.le_trans ((Turned.refl [] w3).alloc _).size HG2.out.size)))
          go_roundw
          case rel => exact ⟨left1, cnt1, _, HRG2.out, HO2.out, HT2.out, HSZ2.out, HGA.out.put HX.out HLX.out HL1.out HC.out⟩
          case measure => rw [HRG2.out.left_eq, HRG.out.left_eq]; exact HCNT.out

set_option maxHeartbeats 4000000 in
theorem changed_51 {w : World} {b1 b2 n m B1 B2 : Nat} {kind : Int} {ids ids' : List Int} {same : Nat → Nat → Bool} (hf : IsMapAt KInt w b1 n (ixFrom ids 0)) (hg : IsMapAt KInt w b2 m (ixFrom ids' 0)) (hn : ids.length ≤ 1000000)
    (hs : ∀ i k id, ixOf ids id = some i → ixOf ids' id = some k → ∀ w1, Turned [] w w1 → Calls Try.prog 51 #[.int .i64 i, .int .i64 k, .pointer (some ⟨B1, 0, none⟩), .pointer (some ⟨B2, 0, none⟩)] w1 fun e w2 => e = .returned (.bool (same i k)) ∧ Turned [] w1 w2) :
    Calls Try.prog 45 #[.int .i64 kind, .map (some b1), .map (some b2), .func (.func 51) #[] #[.pointer (some ⟨B1, 0, none⟩), .pointer (some ⟨B2, 0, none⟩)]] w fun e w' => ∃ v l, e = .returned v ∧ OwnL w' w.heap.size v l ∧ Turned [] w w' ∧ l.Nodup ∧ l.length ≤ ids.length ∧
      ∀ o, o ∈ l ↔ I64 o.2 ∧ o.1 = kind ∧ Chg ids ids' same o.2 := by
  have HF := Lib.hid hf
  have HG := Lib.hid hg
  have HS := Lib.hid hs
  clear hf hg hs
  go_enter Try.func45, Try.ntmps45
  go_wp2_with (at_range; refine wpList_range_is KInt rfl _ rfl HF.out Try.underlying100 rfl ?_; intro w0 left0 cnt0 hrg0 hl0 hg0 hs0; have HRG0 := Lib.hid hrg0; have HL0 := Lib.hid hl0; have HT0 := Lib.hid (show Turned [] w w0 from (Turned.refl [] w).grown hg0 (fun k hk => by cases hk)); have HS0 := Lib.hid hs0; clear hrg0 hl0 hg0 hs0)
  go_frame
  have hb1 := HF.out.lt
  have hb2 := HG.out.lt
  go_loopw [9] (fun v wr => ∃ left cnt l, Ranges KInt wr b1 w.heap.size n (ixFrom ids 0) left cnt ∧ OwnL wr (w.heap.size + 1) v l ∧ Turned [] w wr ∧ w.heap.size < wr.heap.size ∧ Gath kind ids ids' same left l) (fun _ wr => wr.rangeLeft b1 w.heap.size)
  case atStart => exact ⟨left0, cnt0, [], HRG0.out, OwnL.nil _ _, HT0.out, by rw [HS0.out]; omega, Gath.start HL0.out⟩
  case round =>
    obtain ⟨left, cnt, l, hrg, hown, hT, hlt, hga⟩ := hrel
    have HRG := Lib.hid hrg
    have HOWN := Lib.hid hown
    have HT := Lib.hid hT
    have HGA := Lib.hid hga
    have hlen := hga.len
    clear hrg hown hT hga HRG0 HL0 HT0 HS0
    go_wp2_with (at_next; refine wpList_next_is KInt rfl _ rfl HRG.out rfl ?_ ?_)
    · intro hc0 hl0
      have HC := Lib.hid hl0
      clear hc0 hl0
      go_wp2
      go_ret
      refine ⟨_, l, rfl, HOWN.out.mono (by omega), HT.out, HGA.out.nd, hlen, fun o => ⟨fun ho => ⟨HGA.out.wf o ho, (HGA.out.snd o ho).1, (HGA.out.snd o ho).2.2⟩, fun ho => ?_⟩⟩
      obtain ⟨k, x⟩ := o
      obtain ⟨h1, rfl, h3⟩ := ho
      exact HGA.out.all x h1 (HC.out x h1) h3
    · intro x c w1 left1 cnt1 hx hlx hfx hrg1 hl1 hcnt hg1 hs1 hen
      obtain ⟨i, hi, rfl⟩ := ixFrom_zero hfx
      have HRG1 := Lib.hid hrg1
      have HL1 := Lib.hid hl1
      have HX := Lib.hid hx
      have HLX := Lib.hid hlx
      have HI := Lib.hid hi
      have HCNT := Lib.hid hcnt
      have HT1 := Lib.hid (HT.out.iter hg1 (Nat.le_refl _))
      have HOWN1 := Lib.hid (HOWN.out.grown hg1 (by omega))
      have HSZ := Lib.hid (show w.heap.size < w1.heap.size from Nat.lt_of_lt_of_le hlt hg1.size)
      clear hrg1 hl1 hx hlx hi hcnt hg1 hs1 hfx
      have hxv : KInt.val x = .int .i64 x := rfl
      rw [hxv] at hen ⊢
      have hlk : (Instr.lookup 100 (.map (some b2)) (.int .i64 x) true).run Try.prog w1 = .ok (.tuple #[(ixFrom ids' 0 x).getD (.int .i64 0), .bool (ixFrom ids' 0 x).isSome]) w1 :=
        (HG.out.kept HT1.out (by simp)).look_ok (x := x) Try.underlying100 (z := .int .i64 0) (by exact Try.zeroValue3 _) HX.out
      cases hk : ixOf ids' x with
      | none =>
        have hkk : ixFrom ids' 0 x = none := by simp [ixFrom, hk]
        rw [hkk] at hlk
        simp only [Option.getD_none, Option.isSome_none] at hlk
        have HC := Lib.hid (show Chg ids ids' same x from ⟨i, HI.out, fun k h => by rw [hk] at h; cases h⟩)
        clear hk hkk
        go_wp2_with (at_builtin; refine wpList_append_ob (by rfl) _ _ rfl rfl (HOWN1.out.keep ((Turned.refl [] w1).alloc _)) (kind, x) _ _ rfl ⟨_, heap_alloc_new _ _⟩ (by omega) (by have := HSZ.out; simp; omega) ?_; intro v2 w2 ho2 hg2; have HO2 := Lib.hid ho2; have HG2 := Lib.hid hg2; clear ho2 hg2)
        have HT2 := Lib.hid (show Turned [] w w2 from (HT1.out.alloc _).grown HG2.out (fun k hk => .inr (by have := (World.ownsRow.lt HOWN1.out k hk).1; omega)))
        have HRG2 := Lib.hid (show Ranges KInt w2 b1 w.heap.size n (ixFrom ids 0) left1 cnt1 from (HRG1.out.kept ((Turned.refl [] w1).alloc _) (by simp) (by simp)).grown HG2.out (fun e => by have := (World.ownsRow.lt HOWN1.out _ e.symm).1; omega) (fun e => by have := (World.ownsRow.lt HOWN1.out _ e.symm).1; omega))
        have HSZ2 := Lib.hid (show w.heap.size < w2.heap.size from Nat.lt_of_lt_of_le HSZ.out (Nat.le_trans ((Turned.refl [] w1).alloc _).size HG2.out.size))
        go_roundw
        case rel => exact ⟨left1, cnt1, _, HRG2.out, HO2.out, HT2.out, HSZ2.out, HGA.out.put HX.out HLX.out HL1.out HC.out⟩
        case measure => rw [HRG2.out.left_eq, HRG.out.left_eq]; exact HCNT.out
      | some k =>
        have hkk : ixFrom ids' 0 x = some (.int .i64 k) := by simp [ixFrom, hk]
        rw [hkk] at hlk
        simp only [Option.getD_some, Option.isSome_some] at hlk
        have HK := Lib.hid hk
        clear hk hkk
        cases hsm : same i k with
        | true =>
          have HC := Lib.hid (show ¬ Chg ids ids' same x from fun ⟨i', h1, h2⟩ => by rw [HI.out] at h1; cases h1; have := h2 k HK.out; rw [hsm] at this; cases this)
          have HCL := Lib.hid (show Calls Try.prog 51 #[.int .i64 i, .int .i64 k, .pointer (some ⟨B1, 0, none⟩), .pointer (some ⟨B2, 0, none⟩)] w1 fun e w2 => e = .returned (.bool true) ∧ Turned [] w1 w2 from by rw [← hsm]; exact HS.out i k x HI.out HK.out w1 HT1.out)
          clear hsm
          go_wp2_with (go_at_call 51; refine HCL.out.mono ?_; rintro e w2 ⟨rfl, ht2⟩; have HT2 := Lib.hid ht2; clear ht2)
          go_roundw
          case rel => exact ⟨left1, cnt1, _, HRG1.out.kept HT2.out (by simp) (by simp), HOWN1.out.keep HT2.out, HT1.out.trans HT2.out, Nat.lt_of_lt_of_le HSZ.out HT2.out.size, HGA.out.skip HX.out HLX.out HL1.out HC.out⟩
          case measure => rw [(HRG1.out.kept HT2.out (by simp) (by simp)).left_eq, HRG.out.left_eq]; exact HCNT.out
        | false =>
          have HC := Lib.hid (show Chg ids ids' same x from ⟨i, HI.out, fun k' h => by rw [HK.out] at h; cases h; exact hsm⟩)
          have HCL := Lib.hid (show Calls Try.prog 51 #[.int .i64 i, .int .i64 k, .pointer (some ⟨B1, 0, none⟩), .pointer (some ⟨B2, 0, none⟩)] w1 fun e w2 => e = .returned (.bool false) ∧ Turned [] w1 w2 from by rw [← hsm]; exact HS.out i k x HI.out HK.out w1 HT1.out)
          clear hsm
          go_wp2_with (first
            | (go_at_call 51; refine HCL.out.mono ?_; rintro e w3 ⟨rfl, ht3⟩; have HT3 := Lib.hid ht3; have HSZ3 := Lib.hid ht3.size; clear ht3)
            | (at_builtin; refine wpList_append_ob (by rfl) _ _ rfl rfl ((HOWN1.out.keep HT3.out).keep ((Turned.refl [] w3).alloc _)) (kind, x) _ _ rfl ⟨_, heap_alloc_new _ _⟩ (by omega) (by have := HSZ.out; have := HSZ3.out; simp; omega) ?_; intro v2 w2 ho2 hg2; have HO2 := Lib.hid ho2; have HG2 := Lib.hid hg2; clear ho2 hg2))
          have HT2 := Lib.hid (show Turned [] w w2 from ((HT1.out.trans HT3.out).alloc _).grown HG2.out (fun k hk => .inr (by have := (World.ownsRow.lt HOWN1.out k hk).1; omega)))
          have HRG2 := Lib.hid (show Ranges KInt w2 b1 w.heap.size n (ixFrom ids 0) left1 cnt1 from ((HRG1.out.kept HT3.out (by simp) (by simp)).kept ((Turned.refl [] w3).alloc _) (by simp) (by simp)).grown HG2.out (fun e => by have := (World.ownsRow.lt HOWN1.out _ e.symm).1; omega) (fun e => by have := (World.ownsRow.lt HOWN1.out _ e.symm).1; omega))
          have HSZ2 := Lib.hid (show w.heap.size < w2.heap.size from Nat.lt_of_lt_of_le HSZ.out (Nat.le_trans HSZ3.out (Nat.le_trans ((Turned.refl [] w3).alloc _).size HG2.out.size)))
          go_roundw
          case rel => exact ⟨left1, cnt1, _, HRG2.out, HO2.out, HT2.out, HSZ2.out, HGA.out.put HX.out HLX.out HL1.out HC.out⟩
          case measure => rw [HRG2.out.left_eq, HRG.out.left_eq]; exact HCNT.out

end Go.Proofs.Yteaglbfodeineaa
