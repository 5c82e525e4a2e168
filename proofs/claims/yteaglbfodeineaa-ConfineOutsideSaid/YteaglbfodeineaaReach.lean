/-
  What can be come to: in plain words, with no program in sight.
-/
import Derived.Test.YteaglbfodeineaaIxb
import Derived.Test.YteaglbfodeineaaGoer
namespace Go.Proofs.Yteaglbfodeineaa
open Go.RowKit

def atIno (D : DumpV) (n : Int) : Option InodeV := (ixOf D.inodeIds n).bind fun i => D.inodes.xs[i]?
def kids (D : DumpV) (n : Int) : List Int := match atIno D n with | some x => if x.kind = 2 then x.inos.xs else [] | none => []

/-- From inode a down to inode n. -/
inductive Dn (D : DumpV) (a : Int) : Int → Prop
  | refl : Dn D a a
  | step {n m : Int} : Dn D a n → m ∈ kids D n → Dn D a m

def boundOf (D : DumpV) : Int → List Int := boundUpto D D.socks.len
def heldOf (D : DumpV) : Int → List Int := heldUpto D D.held.len

/-- What entering an inode comes to. -/
def InB (D : DumpV) (a : Int) (o : Ob) : Prop := ∃ n, Dn D a n ∧ (o = (1, n) ∨ ∃ id ∈ boundOf D n, o = (6, id))

/-- All numbers of a dump that a thing may bear. -/
def DumpV.ids (D : DumpV) : List Int := D.procs.xs.map ProcV.cwd ++ D.files.xs.map FileV.obj ++ D.inodes.xs.flatMap (fun x => x.inos.xs) ++ D.socks.xs.flatMap (fun s => s.id :: s.peer :: s.waits.xs)
def univ (D : DumpV) (pid : Int) : List Ob := [1, 5, 6, 7].flatMap fun k : Int => (pid :: D.ids).map fun n => (k, n)

theorem mem_univ {D : DumpV} {pid : Int} {k n : Int} (hk : k = 1 ∨ k = 5 ∨ k = 6 ∨ k = 7) (hn : n = pid ∨ n ∈ D.ids) : (k, n) ∈ univ D pid := by
  unfold univ
  rw [List.mem_flatMap]
  exact ⟨k, by simpa using hk, List.mem_map.2 ⟨n, by simpa using hn, rfl⟩⟩

theorem univ_length (D : DumpV) (pid : Int) : (univ D pid).length = 4 * (D.ids.length + 1) := by
  simp [univ]; omega

structure Small (D : DumpV) : Prop where
  ids : D.ids.length ≤ 10000
  inos : ∀ x ∈ D.inodes.xs, x.inos.len ≤ 20
  socks : D.socks.len ≤ 1000000
  held : D.held.len ≤ 1000000

theorem nodup_sub_length {α : Type} : ∀ {l m : List α}, l.Nodup → (∀ x ∈ l, x ∈ m) → l.length ≤ m.length
  | [], _, _, _ => by simp
  | x :: l, m, hn, hs => by
    classical
    obtain ⟨h1, h2⟩ := List.nodup_cons.1 hn
    have hx := hs x (by simp)
    have := nodup_sub_length (m := m.erase x) h2 (fun y hy => (List.mem_erase_of_ne (fun e => h1 (by rw [← e]; exact hy))).2 (hs y (by simp [hy])))
    rw [List.length_erase_of_mem hx] at this
    have := List.length_pos_of_mem hx
    simp; omega

/-- What has been seen, entered, and is still to go on from. -/
structure St (D : DumpV) (pid : Int) (S : List Ob) (B : List Int) (N : List Ob) : Prop where
  sub : ∀ o ∈ S, o ∈ univ D pid
  nd : S.Nodup
  bsub : ∀ n ∈ B, n = pid ∨ n ∈ D.ids
  bnd : B.Nodup
  nl : N.length ≤ S.length

theorem St.slen {D : DumpV} {pid : Int} {S : List Ob} {B : List Int} {N : List Ob} (h : St D pid S B N) (hD : Small D) : S.length ≤ 100000 := by
  have h1 := nodup_sub_length h.nd h.sub
  rw [univ_length] at h1
  have := hD.ids
  omega
theorem St.nlen {D : DumpV} {pid : Int} {S : List Ob} {B : List Int} {N : List Ob} (h : St D pid S B N) (hD : Small D) : N.length ≤ 100000 := Nat.le_trans h.nl (h.slen hD)
theorem St.blen {D : DumpV} {pid : Int} {S : List Ob} {B : List Int} {N : List Ob} (h : St D pid S B N) : B.length ≤ D.ids.length + 1 := by
  have := nodup_sub_length (m := pid :: D.ids) h.bnd (fun x hx => by simpa using h.bsub x hx)
  simpa using this

theorem mem_news {S : List Ob} {o p : Ob} : p ∈ news S o ↔ p = o ∧ o ∉ S := by
  unfold news
  split
  · rename_i h; simp [h]
  · rename_i h; simp [h]
theorem in_news (S : List Ob) (o : Ob) : o ∈ S ++ news S o := by
  by_cases h : o ∈ S
  · exact List.mem_append_left _ h
  · exact List.mem_append_right _ (mem_news.2 ⟨rfl, h⟩)

theorem St.add {D : DumpV} {pid : Int} {S : List Ob} {B : List Int} {N : List Ob} (h : St D pid S B N) {o : Ob} (ho : o ∈ univ D pid) : St D pid (S ++ news S o) B (N ++ news S o) := by
  refine ⟨fun p hp => ?_, ?_, h.bsub, h.bnd, by have := h.nl; simp; omega⟩
  · rcases List.mem_append.1 hp with hp | hp
    · exact h.sub p hp
    · rw [(mem_news.1 hp).1]; exact ho
  · refine List.nodup_append.2 ⟨h.nd, ?_, fun a ha b hb => ?_⟩
    · unfold news; split <;> simp
    · obtain ⟨rfl, hb'⟩ := mem_news.1 hb
      exact fun e => hb' (by rw [← e]; exact ha)

theorem St.enter {D : DumpV} {pid : Int} {S : List Ob} {B : List Int} {N : List Ob} (h : St D pid S B N) {n : Int} (hn : n = pid ∨ n ∈ D.ids) (hb : n ∉ B) : St D pid S (B ++ [n]) N := by
  refine ⟨h.sub, h.nd, fun m hm => ?_, ?_, h.nl⟩
  · rcases List.mem_append.1 hm with hm | hm
    · exact h.bsub m hm
    · simp at hm; rw [hm]; exact hn
  · refine List.nodup_append.2 ⟨h.bnd, by simp, fun a ha b hb' => ?_⟩
    simp at hb'; subst hb'
    exact fun e => hb (by rw [← e]; exact ha)

/-- What has been entered is seen, with what is bound to it; what lies below it has been entered, or stands in L. -/
def Pend (D : DumpV) (S : List Ob) (B L : List Int) : Prop := ∀ n ∈ B, (1, n) ∈ S ∧ (∀ id ∈ boundOf D n, ((6, id) : Ob) ∈ S) ∧ ∀ m ∈ kids D n, m ∈ B ∨ m ∈ L

theorem Pend.more {D : DumpV} {S T : List Ob} {B L : List Int} (h : Pend D S B L) : Pend D (S ++ T) B L := fun n hn =>
  ⟨List.mem_append_left _ (h n hn).1, fun id hid => List.mem_append_left _ ((h n hn).2.1 id hid), (h n hn).2.2⟩

/-- Where nothing is pending, all that entering comes to has been seen. -/
theorem Pend.all {D : DumpV} {S : List Ob} {B : List Int} (h : Pend D S B []) {a : Int} (ha : a ∈ B) {o : Ob} (ho : InB D a o) : o ∈ S := by
  obtain ⟨n, hn, hc⟩ := ho
  have hb : n ∈ B := by
    clear hc
    induction hn with
    | refl => exact ha
    | step _ hm ih => exact ((h _ ih).2.2 _ hm).elim id (fun h => by simp at h)
  rcases hc with rfl | ⟨id, hid, rfl⟩
  · exact (h n hb).1
  · exact (h n hb).2.1 id hid

/-- The index in memory, with the lists by number. -/
def IndexR (w : World) (X : Nat) (D : DumpV) : Prop := ∃ m1 m2 m3 m4 m5 mb mh, IxAt w X m1 m2 m3 m4 m5 mb mh D ∧ (∃ base n, Groups w base mb n (boundOf D)) ∧ (∃ base n, Groups w base mh n (heldOf D))

theorem IndexR.kept {w w' : World} {X : Nat} {D : DumpV} (h : IndexR w X D) (ht : Turned [] w w') : IndexR w' X D := by
  obtain ⟨m1, m2, m3, m4, m5, mb, mh, h1, ⟨b1, n1, h2⟩, ⟨b2, n2, h3⟩⟩ := h
  exact ⟨m1, m2, m3, m4, m5, mb, mh, h1.kept ht (by simp) (by simp) (by simp) (by simp) (by simp) (by simp), ⟨b1, n1, h2.kept ht⟩, ⟨b2, n2, h3.kept ht⟩⟩

/-- Around the goer: the dump and the index lie below it. -/
structure Env (w0 w : World) (X : Nat) (D : DumpV) (base G ms mb : Nat) : Prop where
  ix : IndexR w0 X D
  rd : RDump w0 D
  t : Turned [] w0 w
  g1 : w0.heap.size ≤ G
  g2 : w0.heap.size ≤ ms
  g3 : w0.heap.size ≤ mb

theorem Env.kept {w0 w w' : World} {X : Nat} {D : DumpV} {base G ms mb : Nat} (h : Env w0 w X D base G ms mb) (ht : Turned [] w w') : Env w0 w' X D base G ms mb := ⟨h.ix, h.rd, h.t.trans ht, h.g1, h.g2, h.g3⟩
theorem Env.moved {w0 w w' : World} {X : Nat} {D : DumpV} {base G ms mb : Nat} {v v' : Value} {S N : List Ob} {B : List Int} (h : Env w0 w X D base G ms mb) (hg : GoerAt w base G X ms mb v S B N) (hm : Moved w w' G ms mb v v') : Env w0 w' X D base G ms mb := by
  refine ⟨h.ix, h.rd, h.t.step hm.t (fun i hi => .inr ?_), h.g1, h.g2, h.g3⟩
  have := h.g1
  have := h.g2
  have := h.g3
  have := hg.l1
  simp at hi
  rcases hi with rfl | rfl | rfl | hi
  · omega
  · omega
  · omega
  · have := (hg.q.lt i hi).1; omega

/-- A dump's numbers are numbers of 64 bits. -/
theorem int_wf {w : World} {a : Option Addr} {i : Nat} {x : Int} (h : ElemAt 1 (RInt .i64) w a i x) : I64 x := by
  obtain ⟨b, o, cs, _, hR, _⟩ := at_cell h
  exact hR.2

theorem ids_wf {w : World} {D : DumpV} (h : RDump w D) : ∀ n ∈ D.ids, I64 n := by
  intro n hn
  unfold DumpV.ids at hn
  simp only [List.mem_append, List.mem_map, List.mem_flatMap, List.mem_cons] at hn
  rcases hn with ((⟨x, hx, rfl⟩ | ⟨x, hx, rfl⟩) | ⟨x, hx, hn⟩) | ⟨x, hx, hn⟩
  · obtain ⟨i, hi⟩ := List.getElem?_of_mem hx
    obtain ⟨b, o, cs, _, hR, _⟩ := at_cell (h.procs.at_ i x hi)
    exact hR.2.2
  · obtain ⟨i, hi⟩ := List.getElem?_of_mem hx
    obtain ⟨b, o, cs, _, hR, _⟩ := at_cell (h.files.at_ i x hi)
    exact hR.2.2.2
  · obtain ⟨i, hi⟩ := List.getElem?_of_mem hx
    obtain ⟨b, o, cs, _, hR, _⟩ := at_cell (h.inodes.at_ i x hi)
    obtain ⟨j, hj⟩ := List.getElem?_of_mem hn
    exact int_wf (hR.2.2.2.at_ j n hj)
  · obtain ⟨i, hi⟩ := List.getElem?_of_mem hx
    obtain ⟨b, o, cs, _, hR, _⟩ := at_cell (h.socks.at_ i x hi)
    rcases hn with rfl | rfl | hn
    · exact hR.2.1.1
    · exact hR.2.1.2.1
    · obtain ⟨j, hj⟩ := List.getElem?_of_mem hn
      exact int_wf (hR.2.2.1.at_ j n hj)

theorem bound_ids {D : DumpV} : ∀ (k : Nat) (n id : Int), id ∈ boundUpto D k n → id ∈ D.ids
  | 0, _, _, h => by simp [boundUpto] at h
  | k + 1, n, id, h => by
    unfold boundUpto at h
    rcases List.mem_append.1 h with h | h
    · exact bound_ids k n id h
    · split at h
      · rename_i s hs
        split at h
        · simp at h
          subst h
          unfold DumpV.ids
          simp only [List.mem_append, List.mem_flatMap, List.mem_cons]
          exact .inr ⟨s, List.mem_of_getElem? hs, .inl rfl⟩
        · simp at h
      · simp at h

theorem kids_ids {D : DumpV} {n m : Int} (h : m ∈ kids D n) : m ∈ D.ids := by
  unfold kids at h
  split at h
  · rename_i x hx
    split at h
    · unfold atIno at hx
      obtain ⟨i, _, hi⟩ := Option.bind_eq_some_iff.1 hx
      unfold DumpV.ids
      simp only [List.mem_append, List.mem_flatMap]
      exact .inl (.inr ⟨x, List.mem_of_getElem? hi, h⟩)
    · simp at h
  · simp at h

theorem bound_len {D : DumpV} : ∀ (k : Nat) (n : Int), (boundUpto D k n).length ≤ k
  | 0, _ => by simp [boundUpto]
  | k + 1, n => by
    have := bound_len (D := D) k n
    unfold boundUpto
    rw [List.length_append]
    split
    · split <;> simp <;> omega
    · simp; omega

/-- What a map of lists tells of a number, read. -/
theorem Groups.read {w : World} {base b n : Nat} {g : Int → List Int} (h : Groups w base b n g) {x : Int} (hx : I64 x) :
    ∃ a c, (∀ w', Turned [] w w' → (Instr.lookup 101 (.map (some b)) (.int .i64 x) false).run Try.prog w' = .ok (.slice a (g x).length c) w') ∧ (g x).length ≤ c ∧ c ≤ maxLen ∧
      ∀ j y, (g x)[j]? = some y → ∃ q o, a = some ⟨q, o, none⟩ ∧ ∀ w', Turned [] w w' → w'.cell? ⟨q, o + j, none⟩ = some (.int .i64 y) := by
  obtain ⟨f, h1, h2, h3, h4⟩ := h
  have hrow : w.ownsRow base 3 1 ((f x).getD nilSl) (g x).length ((g x).map (Value.int .i64)) := by
    cases hf : f x with
    | none => rw [h4.none_ x hf]; exact World.ownsRow_nil _ _ _ _
    | some v => exact h4.row x v hf
  have hlk : ∀ w', Turned [] w w' → (Instr.lookup 101 (.map (some b)) (.int .i64 x) false).run Try.prog w' = .ok ((f x).getD nilSl) w' := fun w' hm => (h1.kept hm (by simp)).look (x := x) Try.underlying101 (z := nilSl) (by have := Try.zeroValue61; first | exact this w' | exact this) hx
  have hcell := (QRow.of_owns hrow).2
  rcases hcell with ⟨e, h0⟩ | ⟨q, o, c, cur, e, _, hh, hc1, hc2, _, hc3⟩
  · rw [e] at hlk
    refine ⟨none, 0, by rw [h0]; exact hlk, by omega, by omega, fun j y hj => ?_⟩
    have := (List.getElem?_eq_some_iff.1 hj).1
    omega
  · rw [e] at hlk
    refine ⟨_, c, hlk, hc1, hc2, fun j y hj => ⟨q, o, rfl, fun w' ht => ?_⟩⟩
    have := hc3 j (.int .i64 y) (by rw [List.getElem?_map, hj]; rfl)
    exact ht.cell (by simp [World.cell?, hh, this]) (by simp)

theorem down_in {D : DumpV} {a n : Int} (h : Dn D a n) : InB D a (1, n) := ⟨n, h, .inl rfl⟩
theorem down_bound {D : DumpV} {a n id : Int} (h : Dn D a n) (hid : id ∈ boundOf D n) : InB D a (6, id) := ⟨n, h, .inr ⟨id, hid, rfl⟩⟩

end Go.Proofs.Yteaglbfodeineaa
