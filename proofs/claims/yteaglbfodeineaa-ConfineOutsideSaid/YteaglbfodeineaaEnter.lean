/-
  Entering an inode, and all below it: the walk.
-/
import Derived.Test.YteaglbfodeineaaReach
import Derived.Deep.LoopGhost
namespace Go.Proofs.Yteaglbfodeineaa
open Go.RowKit

def intCells (l : List Int) : List Value := l.map (Value.int .i64)

theorem cellsAt_ints {w : World} {s : Sl Int} (h : RSl 1 (RInt .i64) w s) : CellsAt w s.a (intCells s.xs) := fun j u hj => by
  unfold intCells at hj
  rw [List.getElem?_map] at hj
  obtain ⟨x, hx, rfl⟩ := Option.map_eq_some_iff.1 hj
  obtain ⟨b, o, ha, hc⟩ := int_cells (h.at_ j x hx)
  refine ⟨_, ha, ?_⟩
  have e : (⟨b, o, none⟩ : Addr).add j = ⟨b, o + j, none⟩ := by unfold Addr.add; split <;> simp_all
  rw [e]; exact hc

/-- The state at the head of the loop: T is new, L is still to be entered; lv is the queue's value. -/
structure EnterAt (w0 w wr : World) (X : Nat) (D : DumpV) (base G ms mb : Nat) (pid ino : Int) (v v' lv : Value) (S N T : List Ob) (B' L : List Int) : Prop where
  at_ : GoerAt wr base G X ms mb v' (S ++ T) B' (N ++ T)
  env : Env w0 wr X D base G ms mb
  mv : Moved w wr G ms mb v v'
  st : St D pid (S ++ T) B' (N ++ T)
  pend : Pend D (S ++ T) B' L
  q : QRow wr w.heap.size 3 1 lv L.length (intCells L)
  apart : ∀ k, lv.ownBlock = some k → v'.ownBlock ≠ some k
  root : ino ∈ B' ∨ ino ∈ L
  down : ∀ n ∈ L, Dn D ino n ∧ (n = pid ∨ n ∈ D.ids) ∧ I64 n
  new : ∀ o ∈ T, InB D ino o
  len : L.length ≤ 1 + 20 * B'.length

theorem QRow.tail0 {w : World} {base : Nat} {e : TypeId} {g off n : Nat} {xs : List Value} (h : QRow w base e 1 (.slice (some ⟨g, off, none⟩) (n + 1) 1) (n + 1) xs) :
    QRow w base e 1 (.slice (some ⟨g, off, none⟩) n 0) n (xs.drop 1) := by
  refine ⟨by rw [List.length_drop, h.1]; omega, .inr ?_⟩
  rcases h.2 with ⟨h1, _⟩ | ⟨g', off', cap', cur, h0, hb, hg, h1, h2, h3, h4⟩
  · cases h1
  · simp only [Value.slice.injEq, Option.some.injEq, Addr.mk.injEq] at h0
    obtain ⟨⟨rfl, rfl, _⟩, _, rfl⟩ := h0
    refine ⟨g, off, 0, cur, rfl, hb, hg, by omega, by omega, by omega, fun j u hj => ?_⟩
    have := (List.getElem?_eq_some_iff.1 hj).1
    rw [List.length_drop, h.1] at this
    omega

/-- The head has been entered already. -/
theorem EnterAt.skip {w0 w wr : World} {X : Nat} {D : DumpV} {base G ms mb : Nat} {pid ino n : Int} {v v' lv lv' : Value} {S N T : List Ob} {B' L : List Int}
    (h : EnterAt w0 w wr X D base G ms mb pid ino v v' lv S N T B' (n :: L)) (hn : n ∈ B') (hq : QRow wr w.heap.size 3 1 lv' L.length (intCells L)) (ho : lv'.ownBlock = lv.ownBlock) :
    EnterAt w0 w wr X D base G ms mb pid ino v v' lv' S N T B' L := by
  refine ⟨h.at_, h.env, h.mv, h.st, fun m hm => ⟨(h.pend m hm).1, (h.pend m hm).2.1, fun k hk => ?_⟩, hq, fun k hk => h.apart k (by rw [← ho]; exact hk), ?_, fun m hm => h.down m (by simp [hm]), h.new, by have := h.len; simp at this; omega⟩
  · rcases (h.pend m hm).2.2 k hk with e | e
    · exact .inl e
    · rcases List.mem_cons.1 e with rfl | e
      · exact .inl hn
      · exact .inr e
  · rcases h.root with e | e
    · exact .inl e
    · rcases List.mem_cons.1 e with rfl | e
      · exact .inl hn
      · exact .inr e

/-- Between the entering of n and what comes of it. -/
structure MidAt (w0 w wr : World) (X : Nat) (D : DumpV) (base G ms mb : Nat) (pid ino n : Int) (v v' lv : Value) (S N T : List Ob) (B1 L : List Int) : Prop where
  at_ : GoerAt wr base G X ms mb v' (S ++ T) (B1 ++ [n]) (N ++ T)
  env : Env w0 wr X D base G ms mb
  mv : Moved w wr G ms mb v v'
  st : St D pid (S ++ T) (B1 ++ [n]) (N ++ T)
  pend : Pend D (S ++ T) B1 (n :: L)
  q : QRow wr w.heap.size 3 1 lv L.length (intCells L)
  apart : ∀ k, lv.ownBlock = some k → v'.ownBlock ≠ some k
  root : ino ∈ B1 ∨ ino ∈ n :: L
  down : ∀ m ∈ n :: L, Dn D ino m ∧ (m = pid ∨ m ∈ D.ids) ∧ I64 m
  new : ∀ o ∈ T, InB D ino o
  len : L.length ≤ 20 * B1.length

theorem EnterAt.mid {w0 w wr w2 : World} {X : Nat} {D : DumpV} {base G ms mb : Nat} {pid ino n : Int} {v v' lv lv' : Value} {S N T : List Ob} {B1 L : List Int}
    (h : EnterAt w0 w wr X D base G ms mb pid ino v v' lv S N T B1 (n :: L)) (hn : n ∉ B1) (hq : QRow wr w.heap.size 3 1 lv' L.length (intCells L)) (ho : lv'.ownBlock = lv.ownBlock) (hwb : base ≤ w.heap.size)
    (hm : IsMapAt KInt w2 mb (B1.length + 1) (upd (setOf B1) n (.bool true))) (hg : wr.grownBy w2 (some mb)) : MidAt w0 w w2 X D base G ms mb pid ino n v v' lv' S N T B1 L := by
  have ht : Turned [mb] wr w2 := (Turned.refl [mb] wr).grown hg (fun q hq => by cases hq; exact .inl (by simp))
  have hd := h.at_.b.not_cells h.at_.g
  have l3 := h.at_.l3
  have hmv : Moved wr w2 G ms mb v' v' := ⟨ht.mono (by simp), .inl rfl⟩
  have hA : GoerAt w2 base G X ms mb v' (S ++ T) (B1 ++ [n]) (N ++ T) := ⟨ht.keep h.at_.g (by simpa using Ne.symm hd), h.at_.q.kept ht (fun k hk => by have := (h.at_.q.lt k hk).1; simp; omega), h.at_.s.kept ht (by simpa using h.at_.n1),
    by rw [← setOf_put, List.length_append]; exact hm, h.at_.l1, h.at_.l2, h.at_.l3, Nat.le_trans h.at_.l4 ht.size, h.at_.n1⟩
  exact ⟨hA, h.env.moved h.at_ hmv, h.mv.trans hmv, h.st.enter (h.down n (by simp)).2.1 hn, h.pend, hq.kept ht (fun k hk => by have := (hq.lt k hk).1; simp; omega), fun k hk => h.apart k (by rw [← ho]; exact hk), h.root, h.down, h.new, by have := h.len; simp at this; omega⟩

theorem MidAt.add {w0 w wr w2 : World} {X : Nat} {D : DumpV} {base G ms mb : Nat} {pid ino n : Int} {v v' v2 lv : Value} {S N T : List Ob} {B1 L : List Int} {o : Ob}
    (h : MidAt w0 w wr X D base G ms mb pid ino n v v' lv S N T B1 L) (hu : o ∈ univ D pid) (ho : InB D ino o) (hwb : base ≤ w.heap.size)
    (hA : GoerAt w2 base G X ms mb v2 (S ++ T ++ news (S ++ T) o) (B1 ++ [n]) (N ++ T ++ news (S ++ T) o)) (hm : Moved wr w2 G ms mb v' v2) : MidAt w0 w w2 X D base G ms mb pid ino n v v2 lv S N (T ++ news (S ++ T) o) B1 L := by
  rw [List.append_assoc, List.append_assoc] at hA
  have hst := h.st.add hu
  rw [List.append_assoc, List.append_assoc] at hst
  refine ⟨hA, h.env.moved h.at_ hm, h.mv.trans hm, hst, by rw [← List.append_assoc]; exact h.pend.more, h.q.kept hm.t (fun k hk => ?_), fun k hk e => ?_, h.root, h.down, fun p hp => ?_, h.len⟩
  · have h1 := (h.q.lt k hk).1
    have l1 := h.at_.l1
    have l2 := h.at_.l2
    have l3 := h.at_.l3
    have h2 := h.apart k hk
    simp only [List.mem_cons, Option.mem_toList, not_or]
    exact ⟨by omega, by omega, by omega, h2⟩
  · rcases hm.o with h1 | ⟨q, h1, h2⟩
    · exact h.apart k hk (by rw [← h1]; exact e)
    · rw [h1] at e
      have := (h.q.lt k hk).2
      simp at e; omega
  · rcases List.mem_append.1 hp with hp | hp
    · exact h.new p hp
    · rw [(mem_news.1 hp).1]; exact ho

theorem MidAt.done {w0 w wr w2 : World} {X : Nat} {D : DumpV} {base G ms mb : Nat} {pid ino n : Int} {v v' lv lv' : Value} {S N T : List Ob} {B1 L M : List Int}
    (h : MidAt w0 w wr X D base G ms mb pid ino n v v' lv S N T B1 L) (h1 : ((1, n) : Ob) ∈ S ++ T) (h2 : ∀ id ∈ boundOf D n, ((6, id) : Ob) ∈ S ++ T) (hk : kids D n = M) (hl : M.length ≤ 20)
    (hg : wr.grownBy w2 lv.ownBlock) (hq : QRow w2 w.heap.size 3 1 lv' (L.length + M.length) (intCells L ++ intCells M)) (ho : lv'.ownBlock = lv.ownBlock ∨ ∃ k, lv'.ownBlock = some k ∧ wr.heap.size ≤ k) (hwb : base ≤ w.heap.size) (hM : ∀ m ∈ M, I64 m) :
    EnterAt w0 w w2 X D base G ms mb pid ino v v' lv' S N T (B1 ++ [n]) (L ++ M) := by
  have hlt : ∀ k, lv.ownBlock = some k → w.heap.size ≤ k := fun k hk => (h.q.lt k hk).1
  have ht : Turned lv.ownBlock.toList wr w2 := (Turned.refl _ wr).grown hg (fun q hq => .inl (by simp [hq]))
  have l1 := h.at_.l1
  have l2 := h.at_.l2
  have l3 := h.at_.l3
  have hA : GoerAt w2 base G X ms mb v' (S ++ T) (B1 ++ [n]) (N ++ T) := ⟨ht.keep h.at_.g (by simp; intro e; have := hlt _ e; omega), h.at_.q.kept ht (fun k hk => by simp; intro e; exact h.apart k e hk), h.at_.s.kept ht (by simp; intro e; have := hlt _ e; omega),
    h.at_.b.kept ht (by simp; intro e; have := hlt _ e; omega), h.at_.l1, h.at_.l2, h.at_.l3, Nat.le_trans h.at_.l4 ht.size, h.at_.n1⟩
  refine ⟨hA, ⟨h.env.ix, h.env.rd, h.env.t.step ht (fun i hi => .inr ?_), h.env.g1, h.env.g2, h.env.g3⟩, ⟨?_, ?_⟩, h.st, fun m hm => ?_, by rw [List.length_append]; simpa [intCells] using hq, fun k hk e => ?_, ?_, fun m hm => ?_, h.new, ?_⟩
  · simp at hi
    have := hlt i hi
    have := h.env.g1
    omega
  · exact h.mv.t.step ht (fun i hi => .inr (by simp at hi; exact hlt i hi))
  · exact h.mv.o
  · rcases List.mem_append.1 hm with hm | hm
    · refine ⟨(h.pend m hm).1, (h.pend m hm).2.1, fun k hk' => ?_⟩
      rcases (h.pend m hm).2.2 k hk' with e | e
      · exact .inl (List.mem_append_left _ e)
      · rcases List.mem_cons.1 e with rfl | e
        · exact .inl (by simp)
        · exact .inr (List.mem_append_left _ e)
    · simp at hm
      subst hm
      exact ⟨h1, h2, fun k hk' => .inr (List.mem_append_right _ (by rw [← hk]; exact hk'))⟩
  · rcases ho with h5 | ⟨q, h5, h6⟩
    · exact h.apart k (by rw [← h5]; exact hk) e
    · rw [h5] at hk
      have := (h.at_.q.lt k e).2
      simp at hk; omega
  · rcases h.root with e | e
    · exact .inl (List.mem_append_left _ e)
    · rcases List.mem_cons.1 e with rfl | e
      · exact .inl (by simp)
      · exact .inr (List.mem_append_left _ e)
  · rcases List.mem_append.1 hm with hm | hm
    · exact h.down m (by simp [hm])
    · exact ⟨.step (h.down n (by simp)).1 (by rw [hk]; exact hm), .inr (kids_ids (n := n) (by rw [hk]; exact hm)), hM m hm⟩
  · have := h.len
    simp; omega

set_option maxRecDepth 100000 in
set_option maxHeartbeats 4000000 in
theorem enter_any {w0 w : World} {X : Nat} {D : DumpV} {base G ms mb : Nat} {pid ino : Int} {v : Value} {S N : List Ob} {B : List Int} (hsm : Small D) (h : GoerAt w base G X ms mb v S B N) (hE : Env w0 w X D base G ms mb) (hS : St D pid S B N) (hP : Pend D S B [])
    (hino : ino = pid ∨ ino ∈ D.ids) (hw : I64 ino) :
    Calls Try.prog 82 #[.pointer (some ⟨G, 0, none⟩), .int .i64 ino] w fun e w' => e = .returned (.tuple #[]) ∧ ∃ v' T B', GoerAt w' base G X ms mb v' (S ++ T) B' (N ++ T) ∧ Env w0 w' X D base G ms mb ∧ Moved w w' G ms mb v v' ∧
      St D pid (S ++ T) B' (N ++ T) ∧ Pend D (S ++ T) B' [] ∧ ino ∈ B' ∧ ∀ o ∈ T, InB D ino o := by
  have H0 : Hid (∀ wr lv, Turned [] w wr → QRow wr w.heap.size 3 1 lv 1 [.int .i64 ino] → v.ownBlock ≠ lv.ownBlock ∨ lv.ownBlock = none → EnterAt w0 w wr X D base G ms mb pid ino v v lv S N [] B [ino]) := Lib.hid (by
    intro wr lv ht hq ha
    refine ⟨by simpa using h.kept ht, hE.kept ht, ht.moved, by simpa using hS, ?_, hq, ?_, .inr (by simp), ?_, by simp, by simp⟩
    · intro n hn
      have := hP n hn
      exact ⟨by simpa using this.1, by simpa using this.2.1, fun m hm => (this.2.2 m hm).elim .inl (fun e => by simp at e)⟩
    · intro k hk
      rcases ha with ha | ha
      · rw [← hk]; exact ha
      · rw [ha] at hk; cases hk
    · intro n hn
      simp at hn; subst hn
      exact ⟨.refl, hino, hw⟩)
  have HQv := Lib.hid h.q
  have hgs := h.l4
  have hgb := h.l1
  clear h hE hS hP hino hw
  go_enter Try.func82, Try.ntmps82
  go_wp2; go_step3; go_wp2; go_step3; go_wp2
  have hq0 : QRow (w.alloc (.cells #[.int .i64 ino] 3)) w.heap.size 3 1 (.slice (some ⟨w.heap.size, 0, none⟩) 1 1) 1 [.int .i64 ino] :=
    ⟨rfl, .inr ⟨_, 0, 1, _, rfl, Nat.le_refl _, heap_alloc_new _ _, Nat.le_refl _, by unfold maxLen; omega, by simp, fun j u hj => by
      cases j with
      | zero => simpa using hj
      | succ j => simp at hj⟩⟩
  have HE0 := Lib.hid (H0.out (w.alloc (.cells #[.int .i64 ino] 3)) _ ((Turned.refl _ _).alloc _) hq0 (.inl (fun e => by have := (HQv.out.lt _ e).2; simp at this)))
  generalize World.alloc w _ = W1 at HE0
  clear hq0 H0 HQv
  go_loopg [4] ((D.ids.length + 1 - B.length) * 21 + 1) (fun gk lv wr => ∃ v' T B' L, EnterAt w0 w wr X D base G ms mb pid ino v v' lv S N T B' L ∧ gk = (D.ids.length + 1 - B'.length) * 21 + L.length)
  case atStart => exact ⟨v, [], B, [ino], HE0.out, rfl⟩
  case round =>
    obtain ⟨v1, T, B1, L, hA, hgk⟩ := hrel
    have HK := Lib.hid hgk
    clear hgk HE0
    cases L with
    | nil =>
      have HA := Lib.hid hA
      obtain ⟨ao, co, rfl⟩ : ∃ ao co, u4 = Value.slice ao 0 co := by
        rcases hA.q.2 with ⟨hlv, _⟩ | ⟨g, off, cap, cur, hlv, _⟩
        · exact ⟨_, _, hlv⟩
        · exact ⟨_, _, hlv⟩
      clear hA
      go_wp2
      try rw [Exit.noGoto_normal]
      go_end0
      obtain ⟨a1, a2, a3, a4, a5, a6, a7, a8, a9, a10, a11⟩ := HA.out
      exact ⟨rfl, v1, T, B1, a1, a2, a3, a4, a5, a8.elim id (fun h => by simp at h), a10⟩
    | cons n L =>
      obtain ⟨g, off, cap, hlv, hc1, hc2, hb, hcell⟩ := hA.q.cell (by simp)
      obtain ⟨c, rfl⟩ : ∃ c, cap = c + 1 := ⟨cap - 1, by simp at hc1; omega⟩
      obtain rfl := hlv
      rw [List.length_cons] at hA hc1
      have HA := Lib.hid hA
      have e0 : wr.cell? ⟨g, off, none⟩ = some (.int .i64 n) := hcell 0 _ rfl
      have g2 : wr.cell? ⟨G, 2, none⟩ = some (.map (some mb)) := block_cell hA.at_.g rfl
      have HNW := Lib.hid (hA.down n (by simp)).2.2
      unfold maxLen at hc2
      clear hcell hA
      by_cases hn : n ∈ B1
      · have hlk : (Instr.lookup 110 (.map (some mb)) (.int .i64 n) false).run Try.prog wr = .ok (.bool true) wr := by
          have := HA.out.at_.b.look (x := n) Try.underlying110 (z := .bool false) (by exact Try.zeroValue4 _) HNW.out
          rw [setOf_in hn] at this
          exact this
        have HN := Lib.hid hn
        clear hn
        have ht1 : QRow wr w.heap.size 3 1 (.slice (some ⟨g, off + 1, none⟩) L.length c) L.length (intCells L) := HA.out.q.tail
        have ht0 : c = 0 → QRow wr w.heap.size 3 1 (.slice (some ⟨g, off, none⟩) L.length 0) L.length (intCells L) := fun e => by subst e; exact HA.out.q.tail0
        have HQ1 := Lib.hid ht1
        have HQ0 := Lib.hid ht0
        clear ht1 ht0
        by_cases hc0 : c = 0
        · subst hc0
          obtain rfl : L = [] := List.eq_nil_of_length_eq_zero (by omega)
          have HQ2 := Lib.hid (HQ0.out rfl)
          clear HQ0 HQ1
          go_wp2
          go_roundg (gk - 1)
          case measure => have := HK.out; simp at this; omega
          case rel => exact ⟨v1, T, B1, [], HA.out.skip HN.out HQ2.out rfl, by have := HK.out; simp at this; omega⟩
        · go_wp2
          go_roundg (gk - 1)
          case measure => have := HK.out; simp at this; omega
          case rel => exact ⟨v1, T, B1, L, HA.out.skip HN.out HQ1.out rfl, by have := HK.out; simp at this; omega⟩
      · have hlk : (Instr.lookup 110 (.map (some mb)) (.int .i64 n) false).run Try.prog wr = .ok (.bool false) wr := by
          have := HA.out.at_.b.look (x := n) Try.underlying110 (z := .bool false) (by exact Try.zeroValue4 _) HNW.out
          rw [setOf_out hn] at this
          exact this
        have HN := Lib.hid hn
        have HND := Lib.hid (HA.out.down n (by simp))
        have ht1 : QRow wr w.heap.size 3 1 (.slice (some ⟨g, off + 1, none⟩) L.length c) L.length (intCells L) := HA.out.q.tail
        have ht0 : c = 0 → QRow wr w.heap.size 3 1 (.slice (some ⟨g, off, none⟩) L.length 0) L.length (intCells L) := fun e => by subst e; exact HA.out.q.tail0
        have HQ := Lib.hid ht1
        have HQ0 := Lib.hid ht0
        obtain ⟨m1, m2, m3, m4, m5, mbd, mhd, hix, ⟨bb, bn, hgb'⟩, -⟩ := HA.out.env.ix
        obtain ⟨au, cu, hbl, hcu1, hcu2, hbc⟩ := hgb'.read HNW.out
        have HIX := Lib.hid hix
        have HBL := Lib.hid hbl
        have HBC := Lib.hid hbc
        obtain ⟨len, hlen⟩ : ∃ len, len = (boundOf D n).length := ⟨_, rfl⟩
        rw [← hlen] at hcu1
        have HLEN := Lib.hid hlen
        unfold maxLen at hcu2
        clear hn ht1 ht0 hix hgb' hbl hbc
        by_cases hc0 : c = 0
        · subst hc0
          obtain rfl : L = [] := List.eq_nil_of_length_eq_zero (by omega)
          have HQ2 := Lib.hid (HQ0.out rfl)
          clear HQ0 HQ
          have HQ := HQ2
          go_wp2_with (first
            | (at_mapUpdate; refine wpList_update_is KInt (x := n) (v := .bool true) rfl _ _ _ rfl HA.out.at_.b Try.underlying110 (by have := HA.out.st.blen; have := hsm.ids; unfold maxLen; omega) HNW.out rfl rfl rfl ?_; intro w2 hm2 hg2; have HM := Lib.hid (HA.out.mid HN.out HQ.out rfl hgs hm2 hg2); clear hm2 hg2)
            | (go_at_call 54; refine (add_any HM.out.at_ (kind := 1) (id := n) rfl HNW.out (Nat.le_trans (HM.out.st.slen hsm) (by omega)) (Nat.le_trans (HM.out.st.nlen hsm) (by omega))).mono ?_; rintro e w3 ⟨rfl, v2, hA3, hm3⟩; have HM3 := Lib.hid (HM.out.add (mem_univ (.inl rfl) HND.out.2.1) (down_in HND.out.1) hgs hA3 hm3); have g0 : w3.cell? ⟨G, 0, none⟩ = some (.pointer (some ⟨X, 0, none⟩)) := block_cell hA3.g rfl; have x17 : w3.cell? ⟨X, 17, none⟩ = some (.map (some mbd)) := block_cell (HIX.out.kept HM3.out.env.t (by simp) (by simp) (by simp) (by simp) (by simp) (by simp)).idx rfl; have hlk2 := HBL.out w3 HM3.out.env.t; clear hA3 hm3 HM))
          have HIN1 := Lib.hid (show ((1, n) : Ob) ∈ S ++ (T ++ news (S ++ T) (1, n)) by rw [← List.append_assoc]; exact in_news _ _)
          clear g0 x17 hlk2 hlk e0 g2
          obtain ⟨wo, rfl⟩ : ∃ wo : World, wo = wr := ⟨_, rfl⟩
          go_loopw [44] (fun i w5 => ∃ j : Nat, j ≤ len ∧ i = .int .i64 j ∧ ∃ v3 T3, MidAt w0 w w5 X D base G ms mb pid ino n v v3 (.slice (some ⟨g, off, none⟩) 0 0) S N T3 B1 ([] : List Int) ∧ ((1, n) : Ob) ∈ S ++ T3 ∧ ∀ id ∈ (boundOf D n).take j, ((6, id) : Ob) ∈ S ++ T3) (fun i _ => len - (intOf i).toNat)
          case atStart => exact ⟨0, by omega, rfl, v2, _, HM3.out, HIN1.out, by simp⟩
          case round =>
            obtain ⟨j, hj, rfl, v3, T3, hM5, hin5, hb5⟩ := hrel
            have HM5 := Lib.hid hM5
            have HI5 := Lib.hid hin5
            have HB5 := Lib.hid hb5
            clear hM5 hin5 hb5 HM3 HIN1
            by_cases hlt : j < len
            · obtain ⟨id, hid⟩ : ∃ id, (boundOf D n)[j]? = some id := ⟨(boundOf D n)[j]'(by omega), by simp⟩
              obtain ⟨q, o, rfl, hcw⟩ := HBC.out j id hid
              have e1 := hcw wr HM5.out.env.t
              have hmem := List.mem_of_getElem? hid
              have HMEM := Lib.hid hmem
              have HIDW := Lib.hid (ids_wf HM5.out.env.rd id (bound_ids _ _ _ hmem))
              have HID := Lib.hid hid
              clear hid hcw hmem
              go_wp2_with (go_at_call 54; refine (add_any HM5.out.at_ (kind := 6) (id := id) rfl HIDW.out (Nat.le_trans (HM5.out.st.slen hsm) (by omega)) (Nat.le_trans (HM5.out.st.nlen hsm) (by omega))).mono ?_; rintro e w6 ⟨rfl, v4, hA6, hm6⟩; have HM6 := Lib.hid (HM5.out.add (mem_univ (.inr (.inr (.inl rfl))) (.inr (bound_ids _ _ _ HMEM.out))) (down_bound HND.out.1 HMEM.out) hgs hA6 hm6); clear hA6 hm6)
              go_roundw
              case rel =>
                refine ⟨j + 1, by omega, by go_num, v4, _, HM6.out, by rw [← List.append_assoc]; exact List.mem_append_left _ HI5.out, fun x hx => ?_⟩
                rw [← List.append_assoc]
                rw [List.take_add_one, HID.out] at hx
                rcases List.mem_append.1 hx with hx | hx
                · exact List.mem_append_left _ (HB5.out x hx)
                · simp at hx; subst hx; exact in_news _ _
              case measure => simp [intOf]; omega
            · obtain rfl : j = len := by omega
              have HB6 := Lib.hid (show ∀ id ∈ boundOf D n, ((6, id) : Ob) ∈ S ++ T3 from fun id hid => HB5.out id (by rw [HLEN.out, List.take_length]; exact hid))
              have hIX := HIX.out.kept HM5.out.env.t (by simp) (by simp) (by simp) (by simp) (by simp) (by simp)
              have g0 : wr.cell? ⟨G, 0, none⟩ = some (.pointer (some ⟨X, 0, none⟩)) := block_cell HM5.out.at_.g rfl
              have x16 : wr.cell? ⟨X, 16, none⟩ = some (.map (some m5)) := block_cell hIX.idx rfl
              have x6 : wr.cell? ⟨X, 6, none⟩ = some (.slice D.inodes.a D.inodes.len D.inodes.cap) := block_cell hIX.idx rfl
              have hlk3 := hIX.p5.look_ok (x := n) Try.underlying100 (z := .int .i64 0) (by exact Try.zeroValue3 wr) HNW.out
              have HBN := HM5.out.st.blen
              rw [List.length_append, List.length_singleton] at HBN
              have hgr0 : wr.grownBy wr (Value.ownBlock (.slice (some ⟨g, off, none⟩) 0 0)) := World.grownBy.refl _ _
              have HGR := Lib.hid hgr0
              clear hIX hgr0 HB5
              cases hix : ixOf D.inodeIds n with
              | none =>
                have hk0 : kids D n = [] := by simp [kids, atIno, hix]
                have HK0 := Lib.hid hk0
                rw [show ixFrom D.inodeIds 0 n = none by simp [ixFrom, hix]] at hlk3
                have hlk4 : (Instr.lookup 100 (.map (some m5)) (.int .i64 n) true).run Try.prog wr = .ok (.tuple #[.int .i64 0, .bool false]) wr := hlk3
                clear hix hk0 hlk3
                go_wp2
                go_roundg ((D.ids.length + 1 - (B1.length + 1)) * 21 + ([] : List Int).length)
                case measure => have := HK.out; simp at this; omega
                case rel => exact ⟨v3, T3, B1 ++ [n], ([] : List Int), by have := HM5.out.done HI5.out HB6.out HK0.out (by simp) HGR.out (by simpa [intCells] using HM5.out.q) (.inl rfl) hgs (by simp); simpa using this, by simp⟩
              | some p =>
                rw [show ixFrom D.inodeIds 0 n = some (.int .i64 p) by simp [ixFrom, hix]] at hlk3
                have hlk4 : (Instr.lookup 100 (.map (some m5)) (.int .i64 n) true).run Try.prog wr = .ok (.tuple #[.int .i64 p, .bool true]) wr := hlk3
                obtain ⟨x, hx⟩ : ∃ x, D.inodes.xs[p]? = some x := by
                  have := (ixOf_some.1 hix).1
                  unfold DumpV.inodeIds at this
                  rw [List.getElem?_map] at this
                  obtain ⟨x, hx, _⟩ := Option.map_eq_some_iff.1 this
                  exact ⟨x, hx⟩
                have hkd : kids D n = if x.kind = 2 then x.inos.xs else [] := by simp [kids, atIno, hix, hx]
                have HKD := Lib.hid hkd
                have HX := Lib.hid hx
                have hrd := (HM5.out.env.rd.inodes.stays stays_inode HM5.out.env.t)
                obtain ⟨bi, oi, hab, e0, e1, e2, e3, e4, e5, e6, e7, e8, -, -, hri⟩ := inode_cells (hrd.at_ p x hx)
                have hlc := hrd.lc
                have hcm := hrd.cm
                have hxl := hrd.n
                unfold maxLen at hcm
                have hpl : p < D.inodes.len := by rw [← hxl]; exact (List.getElem?_eq_some_iff.1 hx).1
                rw [hab] at x6
                simp only [Sl.v] at e7 e8
                have HRI := Lib.hid hri
                clear hix hlk3 hx hkd hrd hri hxl
                by_cases hk2 : x.kind = 2
                · have hkk : (x.kind == 2) = true := by simp [hk2]
                  obtain ⟨i0, hi, hz0, hz1, hz2⟩ := info_parts Try.info3
                  have HK2 := Lib.hid (show kids D n = x.inos.xs by rw [HKD.out, if_pos hk2])
                  have h20 := hsm.inos x (List.mem_of_getElem? HX.out)
                  have hids := hsm.ids
                  have hLl := HM5.out.len
                  have hLn : (([] : List Int) : List Int).length ≤ 200020 := by omega
                  clear hLl
                  have HXL := Lib.hid HRI.out.n
                  go_wp2_with (at_builtin; refine wpList_append_que (by rfl) (.tmp 80) (.tmp 92) _ rfl w.heap.size 3 i0 _ 1 8 Try.underlying61 hi hz0 hz1 hz2 rfl (by omega) _ _ _ rfl HM5.out.q x.inos.a x.inos.len x.inos.cap (intCells x.inos.xs) rfl (by simp [intCells, HXL.out]) HRI.out.nil (cellsAt_ints HRI.out) (ints_oneCell _ _) (by unfold maxLen; omega) (by omega) (Nat.le_trans HM5.out.mv.t.size (Nat.le_refl _)) ?_; intro lv' w7 hq7 hg7 ho7; have HQ7 := Lib.hid hq7; have HG7 := Lib.hid hg7; have HO7 := Lib.hid ho7; clear hq7 hg7 ho7)
                  go_roundg ((D.ids.length + 1 - (B1.length + 1)) * 21 + (([] : List Int) ++ x.inos.xs).length)
                  case measure => have h1 := HK.out; have h2 := HXL.out; simp at h1 ⊢; omega
                  case rel => exact ⟨v3, T3, B1 ++ [n], ([] : List Int) ++ x.inos.xs, HM5.out.done HI5.out HB6.out HK2.out (by rw [HXL.out]; exact h20) HG7.out (by rw [HXL.out]; exact HQ7.out) HO7.out hgs (fun m hm => by obtain ⟨i, hi⟩ := List.getElem?_of_mem hm; exact int_wf (HRI.out.at_ i m hi)), by simp⟩
                · have hkk : (x.kind == 2) = false := by simp [hk2]
                  have HK0 := Lib.hid (show kids D n = [] by rw [HKD.out, if_neg hk2])
                  go_wp2
                  go_roundg ((D.ids.length + 1 - (B1.length + 1)) * 21 + ([] : List Int).length)
                  case measure => have := HK.out; simp at this; omega
                  case rel => exact ⟨v3, T3, B1 ++ [n], ([] : List Int), by have := HM5.out.done HI5.out HB6.out HK0.out (by simp) HGR.out (by simpa [intCells] using HM5.out.q) (.inl rfl) hgs (by simp); simpa using this, by simp⟩
        · clear HQ0
          go_wp2_with (first
            | (at_mapUpdate; refine wpList_update_is KInt (x := n) (v := .bool true) rfl _ _ _ rfl HA.out.at_.b Try.underlying110 (by have := HA.out.st.blen; have := hsm.ids; unfold maxLen; omega) HNW.out rfl rfl rfl ?_; intro w2 hm2 hg2; have HM := Lib.hid (HA.out.mid HN.out HQ.out rfl hgs hm2 hg2); clear hm2 hg2)
            | (go_at_call 54; refine (add_any HM.out.at_ (kind := 1) (id := n) rfl HNW.out (Nat.le_trans (HM.out.st.slen hsm) (by omega)) (Nat.le_trans (HM.out.st.nlen hsm) (by omega))).mono ?_; rintro e w3 ⟨rfl, v2, hA3, hm3⟩; have HM3 := Lib.hid (HM.out.add (mem_univ (.inl rfl) HND.out.2.1) (down_in HND.out.1) hgs hA3 hm3); have g0 : w3.cell? ⟨G, 0, none⟩ = some (.pointer (some ⟨X, 0, none⟩)) := block_cell hA3.g rfl; have x17 : w3.cell? ⟨X, 17, none⟩ = some (.map (some mbd)) := block_cell (HIX.out.kept HM3.out.env.t (by simp) (by simp) (by simp) (by simp) (by simp) (by simp)).idx rfl; have hlk2 := HBL.out w3 HM3.out.env.t; clear hA3 hm3 HM))
          have HIN1 := Lib.hid (show ((1, n) : Ob) ∈ S ++ (T ++ news (S ++ T) (1, n)) by rw [← List.append_assoc]; exact in_news _ _)
          clear g0 x17 hlk2 hlk e0 g2
          obtain ⟨wo, rfl⟩ : ∃ wo : World, wo = wr := ⟨_, rfl⟩
          go_loopw [44] (fun i w5 => ∃ j : Nat, j ≤ len ∧ i = .int .i64 j ∧ ∃ v3 T3, MidAt w0 w w5 X D base G ms mb pid ino n v v3 (.slice (some ⟨g, off + 1, none⟩) L.length c) S N T3 B1 L ∧ ((1, n) : Ob) ∈ S ++ T3 ∧ ∀ id ∈ (boundOf D n).take j, ((6, id) : Ob) ∈ S ++ T3) (fun i _ => len - (intOf i).toNat)
          case atStart => exact ⟨0, by omega, rfl, v2, _, HM3.out, HIN1.out, by simp⟩
          case round =>
            obtain ⟨j, hj, rfl, v3, T3, hM5, hin5, hb5⟩ := hrel
            have HM5 := Lib.hid hM5
            have HI5 := Lib.hid hin5
            have HB5 := Lib.hid hb5
            clear hM5 hin5 hb5 HM3 HIN1
            by_cases hlt : j < len
            · obtain ⟨id, hid⟩ : ∃ id, (boundOf D n)[j]? = some id := ⟨(boundOf D n)[j]'(by omega), by simp⟩
              obtain ⟨q, o, rfl, hcw⟩ := HBC.out j id hid
              have e1 := hcw wr HM5.out.env.t
              have hmem := List.mem_of_getElem? hid
              have HMEM := Lib.hid hmem
              have HIDW := Lib.hid (ids_wf HM5.out.env.rd id (bound_ids _ _ _ hmem))
              have HID := Lib.hid hid
              clear hid hcw hmem
              go_wp2_with (go_at_call 54; refine (add_any HM5.out.at_ (kind := 6) (id := id) rfl HIDW.out (Nat.le_trans (HM5.out.st.slen hsm) (by omega)) (Nat.le_trans (HM5.out.st.nlen hsm) (by omega))).mono ?_; rintro e w6 ⟨rfl, v4, hA6, hm6⟩; have HM6 := Lib.hid (HM5.out.add (mem_univ (.inr (.inr (.inl rfl))) (.inr (bound_ids _ _ _ HMEM.out))) (down_bound HND.out.1 HMEM.out) hgs hA6 hm6); clear hA6 hm6)
              go_roundw
              case rel =>
                refine ⟨j + 1, by omega, by go_num, v4, _, HM6.out, by rw [← List.append_assoc]; exact List.mem_append_left _ HI5.out, fun x hx => ?_⟩
                rw [← List.append_assoc]
                rw [List.take_add_one, HID.out] at hx
                rcases List.mem_append.1 hx with hx | hx
                · exact List.mem_append_left _ (HB5.out x hx)
                · simp at hx; subst hx; exact in_news _ _
              case measure => simp [intOf]; omega
            · obtain rfl : j = len := by omega
              have HB6 := Lib.hid (show ∀ id ∈ boundOf D n, ((6, id) : Ob) ∈ S ++ T3 from fun id hid => HB5.out id (by rw [HLEN.out, List.take_length]; exact hid))
              have hIX := HIX.out.kept HM5.out.env.t (by simp) (by simp) (by simp) (by simp) (by simp) (by simp)
              have g0 : wr.cell? ⟨G, 0, none⟩ = some (.pointer (some ⟨X, 0, none⟩)) := block_cell HM5.out.at_.g rfl
              have x16 : wr.cell? ⟨X, 16, none⟩ = some (.map (some m5)) := block_cell hIX.idx rfl
              have x6 : wr.cell? ⟨X, 6, none⟩ = some (.slice D.inodes.a D.inodes.len D.inodes.cap) := block_cell hIX.idx rfl
              have hlk3 := hIX.p5.look_ok (x := n) Try.underlying100 (z := .int .i64 0) (by exact Try.zeroValue3 wr) HNW.out
              have HBN := HM5.out.st.blen
              rw [List.length_append, List.length_singleton] at HBN
              have hgr0 : wr.grownBy wr (Value.ownBlock (.slice (some ⟨g, off + 1, none⟩) L.length c)) := World.grownBy.refl _ _
              have HGR := Lib.hid hgr0
              clear hIX hgr0 HB5
              cases hix : ixOf D.inodeIds n with
              | none =>
                have hk0 : kids D n = [] := by simp [kids, atIno, hix]
                have HK0 := Lib.hid hk0
                rw [show ixFrom D.inodeIds 0 n = none by simp [ixFrom, hix]] at hlk3
                have hlk4 : (Instr.lookup 100 (.map (some m5)) (.int .i64 n) true).run Try.prog wr = .ok (.tuple #[.int .i64 0, .bool false]) wr := hlk3
                clear hix hk0 hlk3
                go_wp2
                go_roundg ((D.ids.length + 1 - (B1.length + 1)) * 21 + L.length)
                case measure => have := HK.out; simp at this; omega
                case rel => exact ⟨v3, T3, B1 ++ [n], L, by have := HM5.out.done HI5.out HB6.out HK0.out (by simp) HGR.out (by simpa [intCells] using HM5.out.q) (.inl rfl) hgs (by simp); simpa using this, by simp⟩
              | some p =>
                rw [show ixFrom D.inodeIds 0 n = some (.int .i64 p) by simp [ixFrom, hix]] at hlk3
                have hlk4 : (Instr.lookup 100 (.map (some m5)) (.int .i64 n) true).run Try.prog wr = .ok (.tuple #[.int .i64 p, .bool true]) wr := hlk3
                obtain ⟨x, hx⟩ : ∃ x, D.inodes.xs[p]? = some x := by
                  have := (ixOf_some.1 hix).1
                  unfold DumpV.inodeIds at this
                  rw [List.getElem?_map] at this
                  obtain ⟨x, hx, _⟩ := Option.map_eq_some_iff.1 this
                  exact ⟨x, hx⟩
                have hkd : kids D n = if x.kind = 2 then x.inos.xs else [] := by simp [kids, atIno, hix, hx]
                have HKD := Lib.hid hkd
                have HX := Lib.hid hx
                have hrd := (HM5.out.env.rd.inodes.stays stays_inode HM5.out.env.t)
                obtain ⟨bi, oi, hab, e0, e1, e2, e3, e4, e5, e6, e7, e8, -, -, hri⟩ := inode_cells (hrd.at_ p x hx)
                have hlc := hrd.lc
                have hcm := hrd.cm
                have hxl := hrd.n
                unfold maxLen at hcm
                have hpl : p < D.inodes.len := by rw [← hxl]; exact (List.getElem?_eq_some_iff.1 hx).1
                rw [hab] at x6
                simp only [Sl.v] at e7 e8
                have HRI := Lib.hid hri
                clear hix hlk3 hx hkd hrd hri hxl
                by_cases hk2 : x.kind = 2
                · have hkk : (x.kind == 2) = true := by simp [hk2]
                  obtain ⟨i0, hi, hz0, hz1, hz2⟩ := info_parts Try.info3
                  have HK2 := Lib.hid (show kids D n = x.inos.xs by rw [HKD.out, if_pos hk2])
                  have h20 := hsm.inos x (List.mem_of_getElem? HX.out)
                  have hids := hsm.ids
                  have hLl := HM5.out.len
                  have hLn : (L : List Int).length ≤ 200020 := by omega
                  clear hLl
                  have HXL := Lib.hid HRI.out.n
                  go_wp2_with (at_builtin; refine wpList_append_que (by rfl) (.tmp 80) (.tmp 92) _ rfl w.heap.size 3 i0 _ 1 8 Try.underlying61 hi hz0 hz1 hz2 rfl (by omega) _ _ _ rfl HM5.out.q x.inos.a x.inos.len x.inos.cap (intCells x.inos.xs) rfl (by simp [intCells, HXL.out]) HRI.out.nil (cellsAt_ints HRI.out) (ints_oneCell _ _) (by unfold maxLen; omega) (by omega) (Nat.le_trans HM5.out.mv.t.size (Nat.le_refl _)) ?_; intro lv' w7 hq7 hg7 ho7; have HQ7 := Lib.hid hq7; have HG7 := Lib.hid hg7; have HO7 := Lib.hid ho7; clear hq7 hg7 ho7)
                  go_roundg ((D.ids.length + 1 - (B1.length + 1)) * 21 + (L ++ x.inos.xs).length)
                  case measure => have h1 := HK.out; have h2 := HXL.out; simp at h1 ⊢; omega
                  case rel => exact ⟨v3, T3, B1 ++ [n], L ++ x.inos.xs, HM5.out.done HI5.out HB6.out HK2.out (by rw [HXL.out]; exact h20) HG7.out (by rw [HXL.out]; exact HQ7.out) HO7.out hgs (fun m hm => by obtain ⟨i, hi⟩ := List.getElem?_of_mem hm; exact int_wf (HRI.out.at_ i m hi)), by simp⟩
                · have hkk : (x.kind == 2) = false := by simp [hk2]
                  have HK0 := Lib.hid (show kids D n = [] by rw [HKD.out, if_neg hk2])
                  go_wp2
                  go_roundg ((D.ids.length + 1 - (B1.length + 1)) * 21 + L.length)
                  case measure => have := HK.out; simp at this; omega
                  case rel => exact ⟨v3, T3, B1 ++ [n], L, by have := HM5.out.done HI5.out HB6.out HK0.out (by simp) HGR.out (by simpa [intCells] using HM5.out.q) (.inl rfl) hgs (by simp); simpa using this, by simp⟩
end Go.Proofs.Yteaglbfodeineaa
