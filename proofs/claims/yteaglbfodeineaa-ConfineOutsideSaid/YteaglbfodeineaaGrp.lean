/-
  A map from numbers to lists of numbers that the call itself makes: m[k] = append(m[k], x).
-/
import Derived.Test.YteaglbfodeineaaIxa
namespace Go.Proofs.Yteaglbfodeineaa
open Go.RowKit

abbrev nilSl : Value := .slice none 0 0

structure GrpOf (w : World) (base n : Nat) (f : Int → Option Value) (g : Int → List Int) : Prop where
  row : ∀ x v, f x = some v → w.ownsRow base 3 1 v (g x).length ((g x).map (Value.int .i64))
  none_ : ∀ x, f x = none → g x = []
  len : ∀ x, (g x).length ≤ n
  wf : ∀ x, ∀ y ∈ g x, I64 y
  apart : ∀ x y u v, x ≠ y → f x = some u → f y = some v → u.ownBlock = none ∨ u.ownBlock ≠ v.ownBlock

def Groups (w : World) (base b n : Nat) (g : Int → List Int) : Prop := ∃ f, IsMapAt KInt w b n f ∧ b < base ∧ base ≤ w.heap.size ∧ GrpOf w base n f g

/-- The index in memory: the dump, where things stand first, what is bound, what is held. -/
structure IxAt (w : World) (X m1 m2 m3 m4 m5 mb mh : Nat) (D : DumpV) : Prop where
  idx : w.heap[X]? = some (.cells (D.cells ++ [Value.map (some m1), Value.map (some m2), Value.map (some m3), Value.map (some m4), Value.map (some m5), Value.map (some mb), Value.map (some mh)] : List Value).toArray 103 (0, 0))
  p1 : IsMapAt KInt w m1 D.procs.len (ixFrom D.procIds 0)
  p2 : IsMapAt KInt w m2 D.files.len (ixFrom D.fileIds 0)
  p3 : IsMapAt KInt w m3 D.pipes.len (ixFrom D.pipeIds 0)
  p4 : IsMapAt KInt w m4 D.socks.len (ixFrom D.sockIds 0)
  p5 : IsMapAt KInt w m5 D.inodes.len (ixFrom D.inodeIds 0)

theorem IxAt.kept {w w' : World} {X m1 m2 m3 m4 m5 mb mh : Nat} {D : DumpV} {S : List Nat} (h : IxAt w X m1 m2 m3 m4 m5 mb mh D) (ht : Turned S w w') (h0 : X ∉ S) (h1 : m1 ∉ S) (h2 : m2 ∉ S) (h3 : m3 ∉ S) (h4 : m4 ∉ S) (h5 : m5 ∉ S) :
    IxAt w' X m1 m2 m3 m4 m5 mb mh D := ⟨ht.keep h.idx h0, h.p1.kept ht h1, h.p2.kept ht h2, h.p3.kept ht h3, h.p4.kept ht h4, h.p5.kept ht h5⟩

/-- What is bound to an inode, by the first k sockets: each number by the first that bears it. -/
def boundUpto (D : DumpV) : Nat → Int → List Int
  | 0, _ => []
  | k + 1, ino => boundUpto D k ino ++ (match D.socks.xs[k]? with | some s => if s.bound ≠ 0 ∧ ixOf D.sockIds s.id = some k ∧ s.bound = ino then [s.id] else [] | none => [])
/-- What a process holds, by the first k descriptors. -/
def heldUpto (D : DumpV) : Nat → Int → List Int
  | 0, _ => []
  | k + 1, pid => heldUpto D k pid ++ (match D.held.xs[k]? with | some h => if h.pid = pid then [h.slot.file] else [] | none => [])

/-- One more at x. -/
def gput (g : Int → List Int) (x y : Int) : Int → List Int := fun z => if z = x then g z ++ [y] else g z

theorem Groups.made {w : World} {base b : Nat} (h : IsMapAt KInt w b 0 (fun _ => none)) (hb : b < base) (hs : base ≤ w.heap.size) : Groups w base b 0 (fun _ => []) :=
  ⟨_, h, hb, hs, fun x v h => by simp at h, fun _ _ => rfl, fun _ => by simp, fun x y hy => by simp at hy, fun x y u v _ h => by simp at h⟩

theorem Groups.mono {w : World} {base b n m : Nat} {g : Int → List Int} (h : Groups w base b n g) (hm : n ≤ m) : Groups w base b m g := by
  obtain ⟨f, h1, h2, h3, h4⟩ := h
  exact ⟨f, h1.mono hm, h2, h3, h4.row, h4.none_, fun x => Nat.le_trans (h4.len x) hm, h4.wf, h4.apart⟩

theorem bound_next {D : DumpV} {k : Nat} {s : SockV} (hs : D.socks.xs[k]? = some s) (h1 : s.bound ≠ 0) (h2 : ixOf D.sockIds s.id = some k) : boundUpto D (k + 1) = gput (boundUpto D k) s.bound s.id := by
  funext z
  simp only [boundUpto, hs, gput]
  by_cases hz : z = s.bound
  · subst hz; simp [h1, h2]
  · simp [hz, Ne.symm hz]
theorem bound_same {D : DumpV} {k : Nat} {s : SockV} (hs : D.socks.xs[k]? = some s) (h : ¬ (s.bound ≠ 0 ∧ ixOf D.sockIds s.id = some k)) : boundUpto D (k + 1) = boundUpto D k := by
  funext z
  simp only [boundUpto, hs]
  rw [if_neg (fun e => h ⟨e.1, e.2.1⟩), List.append_nil]
theorem held_next {D : DumpV} {k : Nat} {s : HeldV} (hs : D.held.xs[k]? = some s) : heldUpto D (k + 1) = gput (heldUpto D k) s.pid s.slot.file := by
  funext z
  simp only [heldUpto, hs, gput]
  by_cases hz : z = s.pid
  · subst hz; simp
  · simp [hz, Ne.symm hz]

/-- What turns no old block leaves it. -/
theorem Groups.kept {w w' : World} {base b n : Nat} {g : Int → List Int} (h : Groups w base b n g) (ht : Turned [] w w') : Groups w' base b n g := by
  obtain ⟨f, h1, h2, h3, h4⟩ := h
  exact ⟨f, h1.kept ht (by simp), h2, Nat.le_trans h3 ht.size, fun x v hx => ht.owns (h4.row x v hx) (fun k _ => by simp), h4.none_, h4.len, h4.wf, h4.apart⟩

def GBack (w : World) (base b n : Nat) (g : Int → List Int) (x : Int) (v : Value) : Prop :=
  ∀ w1 v' y, w.grownBy w1 v.ownBlock → w1.ownsRow base 3 1 v' ((g x).length + 1) ((g x ++ [y]).map (Value.int .i64)) → (v'.ownBlock = v.ownBlock ∨ ∃ k, v'.ownBlock = some k ∧ w.heap.size ≤ k) → I64 y →
    ∃ w2, (Instr.mapUpdate 101 (.map (some b)) (.int .i64 x) v').run Try.prog w1 = .ok () w2 ∧ Groups w2 base b (n + 1) (gput g x y) ∧ w1.grownBy w2 (some b)

theorem group_step {w w1 : World} {o : Obj} {base b n gg cap len : Nat} {g : Int → List Int} {x y : Int} {v : Value} (hback : GBack w base b n g x v) (hgrow : ((w.alloc o).drew).grownBy w1 v.ownBlock) (hl : (g x).length = len)
    (hown : w1.ownsRow base 3 1 (.slice (some ⟨gg, 0, none⟩) (len + 1) cap) (len + 1) ((g x).map (Value.int .i64) ++ [.int .i64 y])) (hat : v.ownBlock = some gg ∨ gg = w.heap.size + 1) (hy : I64 y) :
    ∃ w2, (Instr.mapUpdate 101 (.map (some b)) (.int .i64 x) (.slice (some ⟨gg, 0, none⟩) (len + 1) cap)).run Try.prog w1 = .ok () w2 ∧ Groups w2 base b (n + 1) (gput g x y) ∧ w1.grownBy w2 (some b) := by
  subst hl
  have hg : (w.alloc o).grownBy w1 v.ownBlock := ⟨hgrow.os, hgrow.tape, hgrow.output, hgrow.size, hgrow.block⟩
  refine hback w1 _ y ((World.grownBy_alloc _ _ _).trans hg) (by rw [List.map_append]; exact hown) ?_ hy
  rcases hat with h | rfl
  · exact .inl (by rw [h]; rfl)
  · exact .inr ⟨w.heap.size + 1, rfl, Nat.le_succ _⟩

/-- The list at x: its value, what it owns, and the way back. -/
theorem Groups.look {w : World} {base b n : Nat} {g : Int → List Int} (h : Groups w base b n g) {x : Int} (hx : I64 x) (hn : n < maxLen) :
    ∃ v, (∀ w', Turned [] w w' → (Instr.lookup 101 (.map (some b)) (.int .i64 x) false).run Try.prog w' = .ok v w') ∧ w.ownsRow base 3 1 v (g x).length ((g x).map (Value.int .i64)) ∧ (g x).length ≤ n ∧ GBack w base b n g x v := by
  obtain ⟨f, h1, h2, h3, h4⟩ := h
  have hrow : w.ownsRow base 3 1 ((f x).getD nilSl) (g x).length ((g x).map (Value.int .i64)) := by
    cases hf : f x with
    | none => rw [h4.none_ x hf]; exact World.ownsRow_nil _ _ _ _
    | some v => exact h4.row x v hf
  refine ⟨(f x).getD nilSl, fun w' hm => (h1.kept hm (by simp)).look (x := x) Try.underlying101 (z := nilSl) (by have := Try.zeroValue61; first | exact this w' | exact this) hx, hrow, h4.len x, fun w1 v' y hg hr hloc hy => ?_⟩
  have hb : some b ≠ ((f x).getD nilSl).ownBlock := fun e => by
    have := (hrow.lt b e.symm).1
    omega
  have hm1 := h1.grown hg hb
  obtain ⟨w2, r1, r2, r3⟩ := hm1.update (x := x) Try.underlying101 hn hx v'
  have hrows : ∀ z v, z ≠ x → f z = some v → v.ownBlock = none ∨ v.ownBlock ≠ ((f x).getD nilSl).ownBlock := fun z v hz hv => by
    cases hf : f x with
    | none => cases v.ownBlock <;> simp [Value.ownBlock]
    | some u => exact h4.apart z x v u hz hv hf
  have hblk : ∀ v len (xs : List Value), w1.ownsRow base 3 1 v len xs → v.ownBlock = none ∨ v.ownBlock ≠ some b := fun v len xs ho => by
    cases hv : v.ownBlock with
    | none => exact .inl rfl
    | some k => exact .inr (fun e => by have := (ho.lt k hv).1; simp at e; omega)
  refine ⟨w2, r1, ⟨_, r2, h2, Nat.le_trans h3 (Nat.le_trans hg.size r3.size), fun z v hz => ?_, fun z hz => ?_, fun z => ?_, fun z k hk => ?_, fun z z' u u' hne hz hz' => ?_⟩, r3⟩
  · by_cases he : z = x
    · subst he
      simp only [upd, if_true] at hz
      cases hz
      simp only [gput, if_true, List.length_append, List.length_singleton]
      exact hr.kept r3 (hblk _ _ _ hr)
    · simp only [upd, if_neg he] at hz
      simp only [gput, if_neg he]
      have := (h4.row z v hz).kept hg (hrows z v he hz)
      exact this.kept r3 (hblk _ _ _ this)
  · by_cases he : z = x
    · subst he
      simp [upd] at hz
    · simp only [upd, if_neg he] at hz
      simp only [gput, if_neg he]
      exact h4.none_ z hz
  · have := h4.len z
    unfold gput
    split <;> simp <;> omega
  · unfold gput at hk
    split at hk
    · rcases List.mem_append.1 hk with hk | hk
      · exact h4.wf _ _ hk
      · simp at hk; subst hk; exact hy
    · exact h4.wf _ _ hk
  · by_cases he : z = x
    · subst he
      simp only [upd, if_true, if_neg (Ne.symm hne)] at hz hz'
      cases hz
      rcases hloc with hl | ⟨k, hk, hk'⟩
      · rw [hl]
        rcases hrows z' u' (Ne.symm hne) hz' with h | h
        · rw [h]; cases ((f z).getD nilSl).ownBlock <;> simp
        · exact .inr (Ne.symm h)
      · rw [hk]
        refine .inr (fun e => ?_)
        have := ((h4.row z' u' hz').lt k e.symm).2
        omega
    · by_cases he' : z' = x
      · subst he'
        simp only [upd, if_true, if_neg hne] at hz hz'
        cases hz'
        rcases hloc with hl | ⟨k, hk, hk'⟩
        · rw [hl]; exact hrows z u hne hz
        · rw [hk]
          refine .inr (fun e => ?_)
          have := ((h4.row z u hz).lt k e).2
          omega
      · simp only [upd, if_neg he, if_neg he'] at hz hz'
        exact h4.apart z z' u u' hne hz hz'

end Go.Proofs.Yteaglbfodeineaa
