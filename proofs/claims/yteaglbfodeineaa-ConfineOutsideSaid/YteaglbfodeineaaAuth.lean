/-
  What a process can come to: the walk of authority.
-/
import Derived.Test.YteaglbfodeineaaSock
namespace Go.Proofs.Yteaglbfodeineaa
open Go.RowKit

set_option maxRecDepth 100000 in
set_option maxHeartbeats 4000000 in
theorem from_else {w0 w : World} {X : Nat} {D : DumpV} {base G ms mb : Nat} {pid : Int} {v : Value} {S N : List Ob} {B : List Int} (h : Go1 w0 w X D base G ms mb pid v S B N) {k id : Int} (h6 : k ≠ 6) (h7 : k ≠ 7) :
    Calls Try.prog 55 #[.pointer (some ⟨G, 0, none⟩), .agg #[.int .i64 k, .int .i64 id]] w fun e w' => e = .returned (.tuple #[]) ∧ Did w0 w w' X D base G ms mb pid v S N (MoreT D (k, id)) := by
  have HG := Lib.hid h
  have HNO := Lib.hid (show ∀ o, ¬ MoreT D (k, id) o from fun o ho => by
    rcases ho with ho | ho
    · exact h7 ho.1
    · exact h6 ho.1)
  have b6 : (k == 6) = false := by simp [h6]
  have b7 : (k == 7) = false := by simp [h7]
  clear h h6 h7
  go_enter Try.func55, Try.ntmps55
  go_wp2
  go_end0
  exact ⟨rfl, .nothing HG.out ((Turned.refl [] w).alloc _) HNO.out⟩

theorem from_go {w0 w : World} {X : Nat} {D : DumpV} {base G ms mb : Nat} {pid : Int} {v : Value} {S N : List Ob} {B : List Int} (hsm : Small D) (h : Go1 w0 w X D base G ms mb pid v S B N) {o : Ob} (hi : I64 o.2) :
    Calls Try.prog 55 #[.pointer (some ⟨G, 0, none⟩), .agg #[.int .i64 o.1, .int .i64 o.2]] w fun e w' => e = .returned (.tuple #[]) ∧ Did w0 w w' X D base G ms mb pid v S N (MoreT D o) := by
  obtain ⟨k, id⟩ := o
  by_cases h7 : k = 7
  · subst h7; exact from_proc hsm h hi
  · by_cases h6 : k = 6
    · subst h6; exact from_sock hsm h hi
    · exact from_else h h6 h7

/-- What a process can come to. -/
inductive Auth (D : DumpV) (pid : Int) : Ob → Prop
  | start : Auth D pid (7, pid)
  | step {o p : Ob} : Auth D pid o → MoreT D o p → Auth D pid p

theorem QRow.tail2 {w : World} {base : Nat} {e : TypeId} {g off n : Nat} {xs : List Value} (h : QRow w base e 2 (.slice (some ⟨g, off, none⟩) (n + 1) 1) (n + 1) xs) :
    QRow w base e 2 (.slice (some ⟨g, off, none⟩) n 0) n (xs.drop 2) := by
  refine ⟨by rw [List.length_drop, h.1]; omega, .inr ?_⟩
  rcases h.2 with ⟨h1, _⟩ | ⟨g', off', cap', cur, h0, hb, hg, h1, h2, h3, h4⟩
  · cases h1
  · simp only [Value.slice.injEq, Option.some.injEq, Addr.mk.injEq] at h0
    obtain ⟨⟨rfl, rfl, _⟩, _, rfl⟩ := h0
    refine ⟨g, off, 0, cur, rfl, hb, hg, by omega, by omega, by omega, fun j u hj => ?_⟩
    have := (List.getElem?_eq_some_iff.1 hj).1
    rw [List.length_drop, h.1] at this
    omega

/-- The first of the queue is taken. -/
theorem Go1.pop {w0 w w1 : World} {X : Nat} {D : DumpV} {base G ms mb : Nat} {pid : Int} {v v' : Value} {S N : List Ob} {B : List Int} {o : Ob} (h : Go1 w0 w X D base G ms mb pid v S B (o :: N)) (ht : Turned [] w w1)
    (hq : QRow w base 70 2 v' N.length (obCells N)) (ho : v'.ownBlock = v.ownBlock) : Go1 w0 (w1.setCell ⟨G, 3, none⟩ v') X D base G ms mb pid v' S B N := by
  have h1 := h.kept ht
  have t4 : Turned [G] w1 (w1.setCell ⟨G, 3, none⟩ v') := (Turned.refl [G] w1).setCell (.inl (by simp)) _
  have d1 := h1.at_.s.not_cells h1.at_.g
  have d2 := h1.at_.b.not_cells h1.at_.g
  have hA : GoerAt (w1.setCell ⟨G, 3, none⟩ v') base G X ms mb v' S B N := by
    refine ⟨?_, (hq.kept ht (by simp)).kept t4 (fun k hk => ?_), h1.at_.s.kept t4 (by simpa using d1), h1.at_.b.kept t4 (by simpa using d2), h1.at_.l1, h1.at_.l2, h1.at_.l3, Nat.le_trans h1.at_.l4 t4.size, h1.at_.n1⟩
    · rw [heap_same_set h1.at_.g]; rfl
    · have := (hq.lt k hk).1
      have := h1.at_.l1
      simp; omega
  exact ⟨hA, h1.env.moved h1.at_ ⟨t4.mono (by simp), .inl ho⟩, ⟨h.st.sub, h.st.nd, h.st.bsub, h.st.bnd, by have := h.st.nl; simp at this; omega⟩, h.pend⟩

theorem Go1.made {w0 : World} {X : Nat} {D : DumpV} (pid : Int) (hix : IndexR w0 X D) (hrd : RDump w0 D) :
    Go1 w0 (((w0.alloc (.map #[] 0)).alloc (.map #[] 0)).alloc (.cells #[.pointer (some ⟨X, 0, none⟩), .map (some w0.heap.size), .map (some (w0.heap.size + 1)), .slice none 0 0] 112 (0, 0))) X D (w0.heap.size + 3) (w0.heap.size + 2) w0.heap.size (w0.heap.size + 1) pid (.slice none 0 0) [] [] [] := by
  have s1 : (w0.alloc (.map #[] 0)).heap.size = w0.heap.size + 1 := by simp
  have s2 : ((w0.alloc (.map #[] 0)).alloc (.map #[] 0)).heap.size = w0.heap.size + 2 := by simp
  have t1 : Turned [] w0 (w0.alloc (.map #[] 0)) := (Turned.refl _ _).alloc _
  have t2 : Turned [] (w0.alloc (.map #[] 0)) ((w0.alloc (.map #[] 0)).alloc (.map #[] 0)) := (Turned.refl _ _).alloc _
  have t3 := (Turned.refl [] ((w0.alloc (.map #[] 0)).alloc (.map #[] 0))).alloc (.cells #[.pointer (some ⟨X, 0, none⟩), .map (some w0.heap.size), .map (some (w0.heap.size + 1)), .slice none 0 0] 112 (0, 0))
  refine ⟨⟨?_, .nil _ _ _ _, ?_, ?_, by omega, by omega, by omega, by simp, by omega⟩, ⟨hix, hrd, (t1.trans t2).trans t3, by omega, by omega, by omega⟩, ⟨by simp, by simp, by simp, by simp, by simp⟩, fun n hn => by simp at hn⟩
  · rw [← s2]; exact heap_alloc_new _ _
  · rw [setOf_nil]
    exact ((IsMapAt.made KObj w0).kept t2 (by simp)).kept t3 (by simp)
  · rw [setOf_nil]
    have := IsMapAt.made KInt (w0.alloc (.map #[] 0))
    rw [s1] at this
    exact this.kept t3 (by simp)

theorem univ_wf {w : World} {D : DumpV} (h : RDump w D) {pid : Int} (hp : I64 pid) {o : Ob} (ho : o ∈ univ D pid) : I64 o.1 ∧ I64 o.2 := by
  unfold univ at ho
  rw [List.mem_flatMap] at ho
  obtain ⟨k, hk, hm⟩ := ho
  obtain ⟨n, hn, rfl⟩ := List.mem_map.1 hm
  refine ⟨?_, ?_⟩
  · simp at hk
    rcases hk with rfl | rfl | rfl | rfl <;> rfl
  · rcases List.mem_cons.1 hn with rfl | hn
    · exact hp
    · exact ids_wf h n hn

set_option maxRecDepth 100000 in
set_option maxHeartbeats 4000000 in
theorem authority_any {w : World} {D : DumpV} (hsm : Small D) (hD : RDump w D) {pid : Int} (hp : I64 pid) :
    Calls Try.prog 41 #[D.v, .int .i64 pid] w fun e w' => ∃ ms S, e = .returned (.map (some ms)) ∧ IsMapAt KObj w' ms S.length (setOf S) ∧ Turned [] w w' ∧ w.heap.size ≤ ms ∧ (∀ o, o ∈ S ↔ Auth D pid o) ∧ (∀ o ∈ S, KObj.dom o) ∧ S.Nodup ∧ S.length ≤ 100000 := by
  have hmm := @run_makeMap Try.prog
  have HD := Lib.hid hD
  have HP := Lib.hid hp
  clear hD hp
  simp only [DumpV.v, DumpV.cells, Sl.v]
  go_enter Try.func41, Try.ntmps41
  go_wp2_with fail
  generalize hW : World.alloc w _ = W
  have HTW := Lib.hid (show Turned [] w W by rw [← hW]; exact (Turned.refl _ _).alloc _)
  clear hW
  refine (show Calls Try.prog 44 #[D.v] W _ from indexed_any (HD.out.stays HTW.out) hsm.socks hsm.held).mono ?_
  rintro e w0 ⟨X, m1, m2, m3, m4, m5, mbd, mhd, rfl, ht0, hix, hg1, hg2⟩
  have HT0 := Lib.hid ht0
  have HIX := Lib.hid (show IndexR w0 X D from ⟨m1, m2, m3, m4, m5, mbd, mhd, hix, hg1, hg2⟩)
  clear ht0 hix hg1 hg2
  go_wp2_with fail
  have HG0 := Lib.hid (Go1.made pid HIX.out (HD.out.stays (HTW.out.trans HT0.out)))
  generalize World.alloc (World.alloc (World.alloc w0 _) _) _ = W1 at HG0 ⊢
  refine (add_go hsm HG0.out (.inr (.inr (.inr rfl))) (.inl rfl) HP.out).mono ?_
  rintro e w2 ⟨rfl, v2, T, B2, hg2, -, hc2, hs2⟩
  have HG2 := Lib.hid hg2
  have HC2 := Lib.hid (hc2 _ rfl)
  have HS2 := Lib.hid hs2
  clear hg2 hc2 hs2
  have hsz := HT0.out.size
  have hsz2 := HTW.out.size
  go_wp2
  go_loopg [6] (univ D pid).length (fun gk u wr => ∃ v Dd N B, Go1 w0 wr X D (w0.heap.size + 3) (w0.heap.size + 2) w0.heap.size (w0.heap.size + 1) pid v (Dd ++ N) B N ∧ (∀ o ∈ Dd, ∀ p, MoreT D o p → p ∈ Dd ++ N) ∧ (∀ o ∈ Dd ++ N, Auth D pid o) ∧ ((7, pid) : Ob) ∈ Dd ++ N ∧ gk = (univ D pid).length - Dd.length)
  case atStart => exact ⟨v2, [], T, B2, by simpa using HG2.out, by simp, fun o ho => by rw [HS2.out o (by simpa using ho)]; exact .start, by simpa using HC2.out, rfl⟩
  case round =>
    obtain ⟨v, Dd, N, B, hg, hdone, hau, hin, hgk⟩ := hrel
    have HG := Lib.hid hg
    have HDN := Lib.hid hdone
    have HAU := Lib.hid hau
    have HIN := Lib.hid hin
    have HGK := Lib.hid hgk
    clear hg hdone hau hin hgk HG2 HC2 HS2 HG0
    have g3 : wr.cell? ⟨w0.heap.size + 1 + 1, 3, none⟩ = some v := block_cell HG.out.at_.g rfl
    cases N with
    | nil =>
      obtain ⟨ao, co, rfl⟩ : ∃ ao co, v = Value.slice ao 0 co := by
        rcases HG.out.at_.q.2 with ⟨hlv, _⟩ | ⟨g, off, cap, cur, hlv, _⟩
        · exact ⟨_, _, hlv⟩
        · exact ⟨_, _, hlv⟩
      have g1 : wr.cell? ⟨w0.heap.size + 1 + 1, 1, none⟩ = some (.map (some w0.heap.size)) := block_cell HG.out.at_.g rfl
      go_wp2
      go_ret
      have hg := HG.out
      have hd := HDN.out
      have ha := HAU.out
      have hi := HIN.out
      rw [List.append_nil] at hg hd ha hi
      refine ⟨w0.heap.size, Dd, rfl, hg.at_.s, (HTW.out.trans HT0.out).trans hg.env.t, by omega, fun o => ⟨ha o, fun h => ?_⟩, fun o ho => univ_wf HD.out HP.out (hg.st.sub o ho), hg.st.nd, hg.st.slen hsm⟩
      induction h with
      | start => exact hi
      | step _ hm ih => exact hd _ ih _ hm
    | cons o N =>
      obtain ⟨g, off, cap, hlv, hc1, hc2, hb, hcell⟩ := HG.out.at_.q.cell (by simp)
      obtain ⟨c, rfl⟩ : ∃ c, cap = c + 1 := ⟨cap - 1, by simp at hc1; omega⟩
      obtain rfl := hlv
      rw [List.length_cons] at hc1
      rw [List.length_cons] at HG g3
      have e0 : wr.cell? ⟨g, off, none⟩ = some (.int .i64 o.1) := hcell 0 _ (by simp [obCells_cons])
      have e1 : wr.cell? ⟨g, off + 1, none⟩ = some (.int .i64 o.2) := hcell 1 _ (by simp [obCells_cons])
      have z3 : wr.frozen? ⟨w0.heap.size + 1 + 1, 3, none⟩ = false := block_free HG.out.at_.g 3
      have hlt : w0.heap.size + 1 + 1 < wr.heap.size := HG.out.at_.l4
      have hne1 : ¬ w0.heap.size + 1 + 1 = wr.heap.size := by omega
      have HOW := Lib.hid (univ_wf HD.out HP.out (HG.out.st.sub o (by simp)))
      have hcnt : Dd.length + (N.length + 1) ≤ (univ D pid).length := by
        have := nodup_sub_length HG.out.st.nd HG.out.st.sub
        simpa using this
      have ht1 : QRow wr (w0.heap.size + 3) 70 2 (.slice (some ⟨g, off + 2, none⟩) N.length c) N.length (obCells N) := by
        have := HG.out.at_.q.tail
        rwa [obCells_cons] at this
      have ht0 : c = 0 → QRow wr (w0.heap.size + 3) 70 2 (.slice (some ⟨g, off, none⟩) N.length 0) N.length (obCells N) := fun e => by
        subst e
        have := HG.out.at_.q.tail2
        rwa [obCells_cons] at this
      have HQ := Lib.hid ht1
      have HQ0 := Lib.hid ht0
      unfold maxLen at hc2
      clear hcell ht1 ht0
      by_cases hc0 : c = 0
      · subst hc0
        obtain rfl : N = [] := List.eq_nil_of_length_eq_zero (by omega)
        have HQ2 := Lib.hid (HQ0.out rfl)
        clear HQ0 HQ
        have HQ := HQ2
        go_wp2_with (go_at_call 55; refine (from_go (o := o) hsm ((HG.out.pop (Turned.refl [] wr) HQ.out rfl).kept ((Turned.refl [] _).alloc _)) HOW.out.2).mono ?_; rintro e w6 ⟨rfl, v6, T6, B6, hg6, -, hc6, hs6⟩; have HG6 := Lib.hid hg6; have HC6 := Lib.hid hc6; have HS6 := Lib.hid hs6; clear hg6 hc6 hs6)
        go_roundg (gk - 1)
        case measure => have := HGK.out; omega
        case rel =>
          have e1 : ∀ R : List Ob, Dd ++ o :: R ++ T6 = (Dd ++ [o]) ++ (R ++ T6) := fun R => by simp
          have hg := HG6.out
          have hc := HC6.out
          rw [e1] at hg
          refine ⟨v6, Dd ++ [o], _, B6, hg, fun x hx p hp => ?_, fun x hx => ?_, ?_, by have := HGK.out; simp; omega⟩
          · rw [← e1]
            rcases List.mem_append.1 hx with hx | hx
            · exact List.mem_append_left _ (HDN.out x hx p hp)
            · simp at hx; subst hx
              exact hc p hp
          · rw [← e1] at hx
            rcases List.mem_append.1 hx with hx | hx
            · exact HAU.out x hx
            · exact .step (HAU.out o (by simp)) (HS6.out x hx)
          · rw [← e1]; exact List.mem_append_left _ HIN.out
      · clear HQ0
        go_wp2_with (go_at_call 55; refine (from_go (o := o) hsm ((HG.out.pop (Turned.refl [] wr) HQ.out rfl).kept ((Turned.refl [] _).alloc _)) HOW.out.2).mono ?_; rintro e w6 ⟨rfl, v6, T6, B6, hg6, -, hc6, hs6⟩; have HG6 := Lib.hid hg6; have HC6 := Lib.hid hc6; have HS6 := Lib.hid hs6; clear hg6 hc6 hs6)
        go_roundg (gk - 1)
        case measure => have := HGK.out; omega
        case rel =>
          have e1 : ∀ R : List Ob, Dd ++ o :: R ++ T6 = (Dd ++ [o]) ++ (R ++ T6) := fun R => by simp
          have hg := HG6.out
          have hc := HC6.out
          rw [e1] at hg
          refine ⟨v6, Dd ++ [o], _, B6, hg, fun x hx p hp => ?_, fun x hx => ?_, ?_, by have := HGK.out; simp; omega⟩
          · rw [← e1]
            rcases List.mem_append.1 hx with hx | hx
            · exact List.mem_append_left _ (HDN.out x hx p hp)
            · simp at hx; subst hx
              exact hc p hp
          · rw [← e1] at hx
            rcases List.mem_append.1 hx with hx | hx
            · exact HAU.out x hx
            · exact .step (HAU.out o (by simp)) (HS6.out x hx)
          · rw [← e1]; exact List.mem_append_left _ HIN.out
end Go.Proofs.Yteaglbfodeineaa
