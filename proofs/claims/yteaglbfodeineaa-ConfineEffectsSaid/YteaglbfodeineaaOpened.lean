/-
  What an open file is of: the walk of (*goer).opened.
-/
import Derived.Test.YteaglbfodeineaaEnter
namespace Go.Proofs.Yteaglbfodeineaa
open Go.RowKit

/-- The goer between two of its steps. -/
structure Go1 (w0 w : World) (X : Nat) (D : DumpV) (base G ms mb : Nat) (pid : Int) (v : Value) (S : List Ob) (B : List Int) (N : List Ob) : Prop where
  at_ : GoerAt w base G X ms mb v S B N
  env : Env w0 w X D base G ms mb
  st : St D pid S B N
  pend : Pend D S B []

theorem Go1.kept {w0 w w' : World} {X : Nat} {D : DumpV} {base G ms mb : Nat} {pid : Int} {v : Value} {S N : List Ob} {B : List Int} (h : Go1 w0 w X D base G ms mb pid v S B N) (ht : Turned [] w w') : Go1 w0 w' X D base G ms mb pid v S B N :=
  ⟨h.at_.kept ht, h.env.kept ht, h.st, h.pend⟩

/-- What a step has done: T is new. -/
def Did (w0 w w' : World) (X : Nat) (D : DumpV) (base G ms mb : Nat) (pid : Int) (v : Value) (S N : List Ob) (P : Ob → Prop) : Prop :=
  ∃ v' T B', Go1 w0 w' X D base G ms mb pid v' (S ++ T) B' (N ++ T) ∧ Moved w w' G ms mb v v' ∧ (∀ o, P o → o ∈ S ++ T) ∧ ∀ o ∈ T, P o

theorem Did.nothing {w0 w w' : World} {X : Nat} {D : DumpV} {base G ms mb : Nat} {pid : Int} {v : Value} {S N : List Ob} {B : List Int} {P : Ob → Prop} (h : Go1 w0 w X D base G ms mb pid v S B N) (ht : Turned [] w w') (hP : ∀ o, ¬ P o) : Did w0 w w' X D base G ms mb pid v S N P :=
  ⟨v, [], B, by simpa using h.kept ht, ht.moved, fun o ho => absurd ho (hP o), by simp⟩

theorem add_go {w0 w : World} {X : Nat} {D : DumpV} {base G ms mb : Nat} {pid : Int} {v : Value} {S N : List Ob} {B : List Int} (hsm : Small D) (h : Go1 w0 w X D base G ms mb pid v S B N) {kind id : Int} (hk : kind = 1 ∨ kind = 5 ∨ kind = 6 ∨ kind = 7) (hu : id = pid ∨ id ∈ D.ids) (hi : I64 id) :
    Calls Try.prog 54 #[.pointer (some ⟨G, 0, none⟩), .int .i64 kind, .int .i64 id] w fun e w' => e = .returned (.tuple #[]) ∧ Did w0 w w' X D base G ms mb pid v S N (fun o => o = (kind, id)) := by
  have hk' : I64 kind := by rcases hk with rfl | rfl | rfl | rfl <;> rfl
  refine (add_any h.at_ hk' hi (Nat.le_trans (h.st.slen hsm) (by omega)) (Nat.le_trans (h.st.nlen hsm) (by omega))).mono ?_
  rintro e w' ⟨rfl, v', hA, hm⟩
  exact ⟨rfl, v', news S (kind, id), B, ⟨hA, h.env.moved h.at_ hm, h.st.add (mem_univ hk hu), h.pend.more⟩, hm, fun o ho => by rw [ho]; exact in_news _ _, fun o ho => (mem_news.1 ho).1⟩

theorem enter_go {w0 w : World} {X : Nat} {D : DumpV} {base G ms mb : Nat} {pid : Int} {v : Value} {S N : List Ob} {B : List Int} (hsm : Small D) (h : Go1 w0 w X D base G ms mb pid v S B N) {ino : Int} (hu : ino = pid ∨ ino ∈ D.ids) (hi : I64 ino) :
    Calls Try.prog 82 #[.pointer (some ⟨G, 0, none⟩), .int .i64 ino] w fun e w' => e = .returned (.tuple #[]) ∧ Did w0 w w' X D base G ms mb pid v S N (InB D ino) := by
  refine (enter_any hsm h.at_ h.env h.st h.pend hu hi).mono ?_
  rintro e w' ⟨rfl, v', T, B', h1, h2, h3, h4, h5, h6, h7⟩
  exact ⟨rfl, v', T, B', ⟨h1, h2, h4, h5⟩, h3, fun o ho => h5.all h6 ho, h7⟩

theorem Did.pre {w0 w w1 w' : World} {X : Nat} {D : DumpV} {base G ms mb : Nat} {pid : Int} {v : Value} {S N : List Ob} {P : Ob → Prop} (ht : Turned [] w w1) (h : Did w0 w1 w' X D base G ms mb pid v S N P) : Did w0 w w' X D base G ms mb pid v S N P := by
  obtain ⟨v', T, B', h1, h2, h3, h4⟩ := h
  exact ⟨v', T, B', h1, ht.moved.trans h2, h3, h4⟩
theorem Did.iff {w0 w w' : World} {X : Nat} {D : DumpV} {base G ms mb : Nat} {pid : Int} {v : Value} {S N : List Ob} {P P' : Ob → Prop} (h : Did w0 w w' X D base G ms mb pid v S N P) (hP : ∀ o, P' o ↔ P o) : Did w0 w w' X D base G ms mb pid v S N P' := by
  obtain ⟨v', T, B', h1, h2, h3, h4⟩ := h
  exact ⟨v', T, B', h1, h2, fun o ho => h3 o ((hP o).1 ho), fun o ho => (hP o).2 (h4 o ho)⟩

/-- An open file, by its number. -/
def atFile (D : DumpV) (id : Int) : Option FileV := (ixOf D.fileIds id).bind fun i => D.files.xs[i]?
/-- What an open file leads to. -/
def OpT (D : DumpV) (id : Int) (o : Ob) : Prop := ∃ f, atFile D id = some f ∧ (((f.kind = 1 ∨ f.kind = 2) ∧ InB D f.obj o) ∨ ((f.kind = 5 ∨ f.kind = 6 ∨ f.kind = 7) ∧ o = (f.kind, f.obj)))

theorem file_ids {D : DumpV} {f : FileV} (h : f ∈ D.files.xs) : f.obj ∈ D.ids := by
  unfold DumpV.ids
  simp only [List.mem_append, List.mem_map]
  exact .inl (.inl (.inr ⟨f, h, rfl⟩))

set_option maxRecDepth 100000 in
set_option maxHeartbeats 4000000 in
theorem opened_go {w0 w : World} {X : Nat} {D : DumpV} {base G ms mb : Nat} {pid : Int} {v : Value} {S N : List Ob} {B : List Int} (hsm : Small D) (h : Go1 w0 w X D base G ms mb pid v S B N) {id : Int} (hi : I64 id) :
    Calls Try.prog 73 #[.pointer (some ⟨G, 0, none⟩), .int .i64 id] w fun e w' => e = .returned (.tuple #[]) ∧ Did w0 w w' X D base G ms mb pid v S N (OpT D id) := by
  obtain ⟨m1, m2, m3, m4, m5, mbd, mhd, hix0, -⟩ := h.env.ix
  have hIX := hix0.kept h.env.t (by simp) (by simp) (by simp) (by simp) (by simp) (by simp)
  have g0 : w.cell? ⟨G, 0, none⟩ = some (.pointer (some ⟨X, 0, none⟩)) := block_cell h.at_.g rfl
  have x13 : w.cell? ⟨X, 13, none⟩ = some (.map (some m2)) := block_cell hIX.idx rfl
  have x3 : w.cell? ⟨X, 3, none⟩ = some (.slice D.files.a D.files.len D.files.cap) := block_cell hIX.idx rfl
  have hlk3 := hIX.p2.look_ok (x := id) Try.underlying100 (z := .int .i64 0) (by exact Try.zeroValue3 w) hi
  have HG := Lib.hid h
  clear hIX hix0 h hi
  cases hix : ixOf D.fileIds id with
  | none =>
    rw [show ixFrom D.fileIds 0 id = none by simp [ixFrom, hix]] at hlk3
    have hlk4 : (Instr.lookup 100 (.map (some m2)) (.int .i64 id) true).run Try.prog w = .ok (.tuple #[.int .i64 0, .bool false]) w := hlk3
    have HNO := Lib.hid (show ∀ o, ¬ OpT D id o from fun o ho => by obtain ⟨f, hf, _⟩ := ho; simp [atFile, hix] at hf)
    clear hix hlk3
    go_enter Try.func73, Try.ntmps73
    go_wp2
    first | go_end0 | refine bodyPost_ret (results_none rfl _ _ _) rfl ?_
    exact ⟨rfl, .nothing HG.out (Turned.refl _ _) HNO.out⟩
  | some p =>
    rw [show ixFrom D.fileIds 0 id = some (.int .i64 p) by simp [ixFrom, hix]] at hlk3
    have hlk4 : (Instr.lookup 100 (.map (some m2)) (.int .i64 id) true).run Try.prog w = .ok (.tuple #[.int .i64 p, .bool true]) w := hlk3
    obtain ⟨f, hf⟩ : ∃ x, D.files.xs[p]? = some x := by
      have := (ixOf_some.1 hix).1
      unfold DumpV.fileIds at this
      rw [List.getElem?_map] at this
      obtain ⟨x, hx, _⟩ := Option.map_eq_some_iff.1 this
      exact ⟨x, hx⟩
    have HAT := Lib.hid (show atFile D id = some f by simp [atFile, hix, hf])
    have hrd := HG.out.env.rd.files.stays stays_file HG.out.env.t
    obtain ⟨bi, oi, hab, e0, e1, e2, e3, e4, e5, -, -, how⟩ := file_cells (hrd.at_ p f hf)
    have HOW := Lib.hid how
    have HFI := Lib.hid (file_ids (List.mem_of_getElem? hf))
    have hlc := hrd.lc
    have hcm := hrd.cm
    unfold maxLen at hcm
    have hpl : p < D.files.len := by rw [← hrd.n]; exact (List.getElem?_eq_some_iff.1 hf).1
    rw [hab] at x3
    clear hix hlk3 hf hrd how
    have hop : ∀ o, OpT D id o ↔ (((f.kind = 1 ∨ f.kind = 2) ∧ InB D f.obj o) ∨ ((f.kind = 5 ∨ f.kind = 6 ∨ f.kind = 7) ∧ o = (f.kind, f.obj))) := fun o =>
      ⟨fun ⟨f', h1, h2⟩ => by rw [HAT.out] at h1; cases h1; exact h2, fun h2 => ⟨f, HAT.out, h2⟩⟩
    obtain ⟨kd, hkd⟩ : ∃ kd, kd = f.kind := ⟨_, rfl⟩
    rw [← hkd] at e1
    simp only [← hkd] at hop
    have HOP := Lib.hid hop
    clear hop hkd
    by_cases h12 : kd = 1 ∨ kd = 2
    · have HD : Hid (∀ o, OpT D id o ↔ InB D f.obj o) := Lib.hid fun o => by
        rw [HOP.out]
        constructor
        · rintro (h | h)
          · exact h.2
          · omega
        · exact fun h => .inl ⟨h12, h⟩
      clear HOP
      rcases h12 with rfl | rfl
      all_goals
        go_enter Try.func73, Try.ntmps73
        go_wp2_with (go_at_call 82; refine (enter_go hsm (HG.out.kept ((Turned.refl [] w).alloc _)) (.inr HFI.out) HOW.out).mono ?_; rintro e w' ⟨rfl, hd⟩; have HR := Lib.hid ((Did.pre ((Turned.refl [] w).alloc _) hd).iff HD.out); clear hd)
        go_end0
        exact ⟨rfl, HR.out⟩
    · by_cases h57 : kd = 5 ∨ kd = 6 ∨ kd = 7
      · have HD : Hid (∀ o, OpT D id o ↔ o = (kd, f.obj)) := Lib.hid fun o => by
          rw [HOP.out]
          constructor
          · rintro (h | h)
            · exact absurd h.1 h12
            · exact h.2
          · exact fun h => .inr ⟨h57, h⟩
        have HK := Lib.hid (show kd = 1 ∨ kd = 5 ∨ kd = 6 ∨ kd = 7 from .inr h57)
        clear HOP h12
        rcases h57 with rfl | rfl | rfl
        all_goals
          go_enter Try.func73, Try.ntmps73
          go_wp2_with (go_at_call 54; refine (add_go hsm (HG.out.kept ((Turned.refl [] w).alloc _)) HK.out (.inr HFI.out) HOW.out).mono ?_; rintro e w' ⟨rfl, hd⟩; have HR := Lib.hid ((Did.pre ((Turned.refl [] w).alloc _) hd).iff HD.out); clear hd)
          go_end0
          exact ⟨rfl, HR.out⟩
      · have HNO := Lib.hid (show ∀ o, ¬ OpT D id o from fun o ho => by rw [HOP.out] at ho; rcases ho with h | h; exact h12 h.1; exact h57 h.1)
        have b1 : (kd == 1) = false := by simp; omega
        have b2 : (kd == 2) = false := by simp; omega
        have b5 : (kd == 5) = false := by simp; omega
        have b6 : (kd == 6) = false := by simp; omega
        have b7 : (kd == 7) = false := by simp; omega
        clear HOP h12 h57
        go_enter Try.func73, Try.ntmps73
        go_wp2
        go_end0
        exact ⟨rfl, .nothing HG.out ((Turned.refl [] w).alloc _) HNO.out⟩
end Go.Proofs.Yteaglbfodeineaa
