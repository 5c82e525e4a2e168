/-
  What is come to from one thing: the walk of (*goer).from at a process.
-/
import Derived.Test.YteaglbfodeineaaOpened
namespace Go.Proofs.Yteaglbfodeineaa
open Go.RowKit

def atProc (D : DumpV) (id : Int) : Option ProcV := (ixOf D.procIds id).bind fun i => D.procs.xs[i]?
def atSock (D : DumpV) (id : Int) : Option SockV := (ixOf D.sockIds id).bind fun i => D.socks.xs[i]?

/-- One step of what can be come to. -/
def MoreT (D : DumpV) (o p : Ob) : Prop :=
  (o.1 = 7 ∧ ((∃ x, atProc D o.2 = some x ∧ x.cwd ≠ 0 ∧ p = (1, x.cwd)) ∨ ∃ id ∈ heldOf D o.2, OpT D id p)) ∨
  (o.1 = 6 ∧ ∃ s, atSock D o.2 = some s ∧ ((s.peer ≠ 0 ∧ p = (6, s.peer)) ∨ (∃ id ∈ s.waits.xs, p = (6, id)) ∨ ∃ q ∈ s.parts.xs, ∃ x ∈ q.l.xs, OpT D x.file p))

theorem Did.after {w0 w w1 w2 : World} {X : Nat} {D : DumpV} {base G ms mb : Nat} {pid : Int} {v v1 : Value} {S N T1 : List Ob} {P P2 P3 : Ob → Prop}
    (hm : Moved w w1 G ms mb v v1) (hc : ∀ o, P o → o ∈ S ++ T1) (hs : ∀ o ∈ T1, P o) (hd : Did w0 w1 w2 X D base G ms mb pid v1 (S ++ T1) (N ++ T1) P2) (hP : ∀ o, P3 o ↔ P o ∨ P2 o) : Did w0 w w2 X D base G ms mb pid v S N P3 := by
  obtain ⟨v', T, B', h1, h2, h3, h4⟩ := hd
  refine ⟨v', T1 ++ T, B', by simpa using h1, hm.trans h2, fun o ho => ?_, fun o ho => ?_⟩
  · rcases (hP o).1 ho with h | h
    · rw [← List.append_assoc]; exact List.mem_append_left _ (hc o h)
    · rw [← List.append_assoc]; exact h3 o h
  · rcases List.mem_append.1 ho with h | h
    · exact (hP o).2 (.inl (hs o h))
    · exact (hP o).2 (.inr (h4 o h))

theorem Did.start {w0 w w' : World} {X : Nat} {D : DumpV} {base G ms mb : Nat} {pid : Int} {v : Value} {S N : List Ob} {B : List Int} (h : Go1 w0 w X D base G ms mb pid v S B N) (ht : Turned [] w w') : Did w0 w w' X D base G ms mb pid v S N (fun _ => False) :=
  .nothing h ht (fun _ h => h)

theorem Did.old {w0 w w' : World} {X : Nat} {D : DumpV} {base G ms mb : Nat} {pid : Int} {v : Value} {S N : List Ob} {P : Ob → Prop} (h : Did w0 w w' X D base G ms mb pid v S N P) : Turned [] w0 w' := by
  obtain ⟨v', T, B', h1, _⟩ := h; exact h1.env.t
theorem Did.ptr {w0 w w' : World} {X : Nat} {D : DumpV} {base G ms mb : Nat} {pid : Int} {v : Value} {S N : List Ob} {P : Ob → Prop} (h : Did w0 w w' X D base G ms mb pid v S N P) : w'.cell? ⟨G, 0, none⟩ = some (.pointer (some ⟨X, 0, none⟩)) := by
  obtain ⟨v', T, B', h1, _⟩ := h; exact block_cell h1.at_.g rfl
theorem Did.post {w0 w w' w'' : World} {X : Nat} {D : DumpV} {base G ms mb : Nat} {pid : Int} {v : Value} {S N : List Ob} {P : Ob → Prop} (h : Did w0 w w' X D base G ms mb pid v S N P) (ht : Turned [] w' w'') : Did w0 w w'' X D base G ms mb pid v S N P := by
  obtain ⟨v', T, B', h1, h2, h3, h4⟩ := h
  exact ⟨v', T, B', h1.kept ht, h2.trans ht.moved, h3, h4⟩

/-- A cell of a block that is none of the goer's is left alone. -/
theorem Did.cell {w0 w w' : World} {X : Nat} {D : DumpV} {base G ms mb : Nat} {pid : Int} {v : Value} {S N : List Ob} {P : Ob → Prop} (h : Did w0 w w' X D base G ms mb pid v S N P) {b o : Nat} {u : Value} (hc : w.cell? ⟨b, o, none⟩ = some u)
    (h1 : base ≤ b) (hG : G < base) (hms : ms < base) (hmb : mb < base) (hv : v.ownBlock ≠ some b) : w'.cell? ⟨b, o, none⟩ = some u := by
  obtain ⟨v', T, B', _, h2, _, _⟩ := h
  refine h2.t.cell hc ?_
  simp only [List.mem_cons, Option.mem_toList, not_or]
  exact ⟨by omega, by omega, by omega, hv⟩

theorem held_ids {D : DumpV} {w : World} (h : RDump w D) : ∀ (k : Nat) (n id : Int), id ∈ heldUpto D k n → I64 id
  | 0, _, _, hm => by simp [heldUpto] at hm
  | k + 1, n, id, hm => by
    unfold heldUpto at hm
    rcases List.mem_append.1 hm with hm | hm
    · exact held_ids h k n id hm
    · split at hm
      · rename_i x hx
        split at hm
        · simp at hm
          subst hm
          obtain ⟨b, o, cs, _, hR, _⟩ := at_cell (h.held.at_ k x hx)
          exact hR.2.2.1
        · simp at hm
      · simp at hm

theorem proc_ids {D : DumpV} {x : ProcV} (h : x ∈ D.procs.xs) : x.cwd ∈ D.ids := by
  unfold DumpV.ids
  simp only [List.mem_append, List.mem_map]
  exact .inl (.inl (.inl ⟨x, h, rfl⟩))

set_option maxRecDepth 100000 in
set_option maxHeartbeats 8000000 in
theorem from_proc {w0 w : World} {X : Nat} {D : DumpV} {base G ms mb : Nat} {pid : Int} {v : Value} {S N : List Ob} {B : List Int} (hsm : Small D) (h : Go1 w0 w X D base G ms mb pid v S B N) {id : Int} (hi : I64 id) :
    Calls Try.prog 55 #[.pointer (some ⟨G, 0, none⟩), .agg #[.int .i64 7, .int .i64 id]] w fun e w' => e = .returned (.tuple #[]) ∧ Did w0 w w' X D base G ms mb pid v S N (MoreT D (7, id)) := by
  have HG := Lib.hid h
  have HI := Lib.hid hi
  clear h hi
  go_enter Try.func55, Try.ntmps55
  go_wp2
  generalize hW : World.alloc w _ = W
  have HTW := Lib.hid (show Turned [] w W by rw [← hW]; exact (Turned.refl _ _).alloc _)
  have q0 : W.cell? ⟨w.heap.size, 0, none⟩ = some (.int .i64 7) := by rw [← hW]; exact World.cell?_alloc_mark _ _ _ _ _
  have q1 : W.cell? ⟨w.heap.size, 1, none⟩ = some (.int .i64 id) := by rw [← hW]; exact World.cell?_alloc_mark _ _ _ _ _
  clear hW
  have HGW := Lib.hid (HG.out.kept HTW.out)
  have hb1 := HG.out.at_.l4
  have hv : v.ownBlock ≠ some w.heap.size := fun e => by have := (HG.out.at_.q.lt _ e).2; omega
  obtain ⟨m1, m2, m3, m4, m5, mbd, mhd, hix0, -, ⟨hbb, hbn, hgh⟩⟩ := HG.out.env.ix
  have HIX0 := Lib.hid hix0
  obtain ⟨au, cu, hbl, hcu1, hcu2, hbc⟩ := hgh.read HI.out
  have HBL := Lib.hid hbl
  have HBC := Lib.hid hbc
  obtain ⟨len, hlen⟩ : ∃ len, len = (heldOf D id).length := ⟨_, rfl⟩
  rw [← hlen] at hcu1
  have HLEN := Lib.hid hlen
  unfold maxLen at hcu2
  clear hix0 hgh hbl hbc
  have hIX := HIX0.out.kept HGW.out.env.t (by simp) (by simp) (by simp) (by simp) (by simp) (by simp)
  have g0 : W.cell? ⟨G, 0, none⟩ = some (.pointer (some ⟨X, 0, none⟩)) := block_cell HGW.out.at_.g rfl
  have x12 : W.cell? ⟨X, 12, none⟩ = some (.map (some m1)) := block_cell hIX.idx rfl
  have x0 : W.cell? ⟨X, 0, none⟩ = some (.slice D.procs.a D.procs.len D.procs.cap) := block_cell hIX.idx rfl
  have hlk3 : ∀ nq, (Instr.lookup 100 (.map (some m1)) (.int .i64 id) true).run Try.prog (W.drewN nq) = .ok (.tuple #[(ixFrom D.procIds 0 id).getD (.int .i64 0), .bool (ixFrom D.procIds 0 id).isSome]) (W.drewN nq) := fun nq =>
    (hIX.p1.kept ((Turned.refl [] W).drewN nq) (by simp)).look_ok (x := id) Try.underlying100 (z := .int .i64 0) (by exact Try.zeroValue3 _) HI.out
  clear hIX
  have hb2 := HG.out.at_.l1
  have hb3 := HG.out.at_.l2
  have hb4 := HG.out.at_.l3
  have HQ1 := Lib.hid q1
  cases hix : ixOf D.procIds id with
  | none =>
    have hpp : (ixFrom D.procIds 0 id) = none := by simp [ixFrom, hix]
    simp only [hpp, Option.getD_none, Option.isSome_none] at hlk3
    have HPN := Lib.hid (show atProc D id = none by simp [atProc, hix])
    have HMT : Hid (∀ o, MoreT D (7, id) o ↔ False ∨ ∃ x ∈ heldOf D id, OpT D x o) := Lib.hid fun o => by simp [MoreT, HPN.out]
    clear hix hpp
    go_wp2
    go_quiet (fail)
    obtain ⟨V, hV⟩ : ∃ V, V = W.drewN nq := ⟨_, rfl⟩
    rw [← hV]
    have HD0 := Lib.hid (show Did w0 W V X D base G ms mb pid v S N (fun _ => False) from .start HGW.out (by rw [hV]; exact (Turned.refl _ _).drewN _))
    clear hV hlk3 g0 x12 x0 q1 q0
    have HDo := HD0.out.old
    have hIXv := HIX0.out.kept HDo (by simp) (by simp) (by simp) (by simp) (by simp) (by simp)
    have g0v : V.cell? ⟨G, 0, none⟩ = some (.pointer (some ⟨X, 0, none⟩)) := HD0.out.ptr
    have x18 : V.cell? ⟨X, 18, none⟩ = some (.map (some mhd)) := block_cell hIXv.idx rfl
    have q1v : V.cell? ⟨w.heap.size, 1, none⟩ = some (.int .i64 id) := HD0.out.cell HQ1.out hb1 hb2 hb3 hb4 hv
    have hlkv : ∀ nq, (Instr.lookup 101 (.map (some mhd)) (.int .i64 id) false).run Try.prog (V.drewN nq) = .ok (.slice au len cu) (V.drewN nq) := fun nq => by
      rw [HLEN.out]; exact HBL.out _ (HDo.drewN nq)
    clear hIXv HDo
    go_wp2
    go_quiet (fail)
    go_wp2
    clear g0v x18 q1v hlkv
    go_loopw [75] (fun i wr => ∃ j : Nat, j ≤ len ∧ i = .int .i64 j ∧ Did w0 W wr X D base G ms mb pid v S N (fun o => False ∨ ∃ x ∈ (heldOf D id).take j, OpT D x o)) (fun i _ => len - (intOf i).toNat)
    case atStart => exact ⟨0, by omega, rfl, (HD0.out.post ((Turned.refl _ _).drewN _)).iff (fun o => by simp)⟩
    case round =>
      obtain ⟨j, hj, rfl, hd⟩ := hrel
      have HD1 := Lib.hid hd
      clear hd HD0
      by_cases hlt : j < len
      · obtain ⟨y, hy⟩ : ∃ y, (heldOf D id)[j]? = some y := ⟨(heldOf D id)[j]'(by omega), by simp⟩
        obtain ⟨q, o, rfl, hcw⟩ := HBC.out j y hy
        have e1 := hcw wr HD1.out.old
        have HY := Lib.hid hy
        have HYW := Lib.hid (held_ids HG.out.env.rd _ _ _ (List.mem_of_getElem? hy))
        obtain ⟨v1, T1, B1, hg1, hm1, hc1, hs1⟩ := HD1.out
        have HG1 := Lib.hid hg1
        have HM1 := Lib.hid hm1
        have HC1 := Lib.hid hc1
        have HS1 := Lib.hid hs1
        clear hy hcw hg1 hm1 hc1 hs1
        go_wp2_with (go_at_call 73; refine (opened_go hsm HG1.out HYW.out).mono ?_; rintro e w6 ⟨rfl, hd6⟩; have HD6 := Lib.hid hd6; clear hd6)
        go_roundw
        case rel =>
          refine ⟨j + 1, by omega, by go_num, Did.after HM1.out HC1.out HS1.out HD6.out (fun o => ?_)⟩
          rw [List.take_add_one, HY.out]
          simp only [Option.toList_some, List.mem_append, List.mem_singleton, or_assoc]
          refine or_congr_right ?_
          constructor
          · rintro ⟨x, hx | rfl, hx2⟩
            · exact .inl ⟨x, hx, hx2⟩
            · exact .inr hx2
          · rintro (⟨x, hx, hx2⟩ | hx2)
            · exact ⟨x, .inl hx, hx2⟩
            · exact ⟨y, .inr rfl, hx2⟩
        case measure => simp [intOf]; omega
      · obtain rfl : j = len := by omega
        go_wp2
        first | go_end0 | refine bodyPost_ret (results_none rfl _ _ _) rfl ?_
        refine ⟨rfl, (Did.pre HTW.out HD1.out).iff (fun o => ?_)⟩
        rw [HLEN.out, List.take_length]
        exact HMT.out o
  | some p =>
    have hpp : (ixFrom D.procIds 0 id) = some (.int .i64 p) := by simp [ixFrom, hix]
    simp only [hpp, Option.getD_some, Option.isSome_some] at hlk3
    obtain ⟨x, hx⟩ : ∃ x, D.procs.xs[p]? = some x := by
      have := (ixOf_some.1 hix).1
      unfold DumpV.procIds at this
      rw [List.getElem?_map] at this
      obtain ⟨x, hx, _⟩ := Option.map_eq_some_iff.1 this
      exact ⟨x, hx⟩
    have HPN := Lib.hid (show atProc D id = some x by simp [atProc, hix, hx])
    have hrd := HG.out.env.rd.procs.stays stays_proc HGW.out.env.t
    obtain ⟨bi, oi, hab, e0, e1, e2, e3, e4, e5, e6, -, how⟩ := proc_cells (hrd.at_ p x hx)
    have HOW := Lib.hid how
    have HFI := Lib.hid (proc_ids (List.mem_of_getElem? hx))
    have hlc := hrd.lc
    have hcm := hrd.cm
    unfold maxLen at hcm
    have hpl : p < D.procs.len := by rw [← hrd.n]; exact (List.getElem?_eq_some_iff.1 hx).1
    rw [hab] at x0
    clear hix hpp hx hrd how
    by_cases hc0 : x.cwd = 0
    · have hcc : (x.cwd != 0) = false := by simp [hc0]
      have HMT : Hid (∀ o, MoreT D (7, id) o ↔ False ∨ ∃ x ∈ heldOf D id, OpT D x o) := Lib.hid fun o => by simp [MoreT, HPN.out, hc0]
      clear hc0
      go_wp2
      go_quiet (fail)
      go_wp2
      obtain ⟨V, hV⟩ : ∃ V, V = W.drewN nq := ⟨_, rfl⟩
      rw [← hV]
      have HD0 := Lib.hid (show Did w0 W V X D base G ms mb pid v S N (fun _ => False) from .start HGW.out (by rw [hV]; exact (Turned.refl _ _).drewN _))
      clear hV hlk3 g0 x12 x0 q1 q0 e0 e1 e2 e3 e4 e5 e6
      have HDo := HD0.out.old
      have hIXv := HIX0.out.kept HDo (by simp) (by simp) (by simp) (by simp) (by simp) (by simp)
      have g0v : V.cell? ⟨G, 0, none⟩ = some (.pointer (some ⟨X, 0, none⟩)) := HD0.out.ptr
      have x18 : V.cell? ⟨X, 18, none⟩ = some (.map (some mhd)) := block_cell hIXv.idx rfl
      have q1v : V.cell? ⟨w.heap.size, 1, none⟩ = some (.int .i64 id) := HD0.out.cell HQ1.out hb1 hb2 hb3 hb4 hv
      have hlkv : ∀ nq, (Instr.lookup 101 (.map (some mhd)) (.int .i64 id) false).run Try.prog (V.drewN nq) = .ok (.slice au len cu) (V.drewN nq) := fun nq => by
        rw [HLEN.out]; exact HBL.out _ (HDo.drewN nq)
      clear hIXv HDo
      go_wp2
      go_quiet (fail)
      go_wp2
      clear g0v x18 q1v hlkv
      go_loopw [75] (fun i wr => ∃ j : Nat, j ≤ len ∧ i = .int .i64 j ∧ Did w0 W wr X D base G ms mb pid v S N (fun o => False ∨ ∃ x ∈ (heldOf D id).take j, OpT D x o)) (fun i _ => len - (intOf i).toNat)
      case atStart => exact ⟨0, by omega, rfl, (HD0.out.post ((Turned.refl _ _).drewN _)).iff (fun o => by simp)⟩
      case round =>
        obtain ⟨j, hj, rfl, hd⟩ := hrel
        have HD1 := Lib.hid hd
        clear hd HD0
        by_cases hlt : j < len
        · obtain ⟨y, hy⟩ : ∃ y, (heldOf D id)[j]? = some y := ⟨(heldOf D id)[j]'(by omega), by simp⟩
          obtain ⟨q, o, rfl, hcw⟩ := HBC.out j y hy
          have e1 := hcw wr HD1.out.old
          have HY := Lib.hid hy
          have HYW := Lib.hid (held_ids HG.out.env.rd _ _ _ (List.mem_of_getElem? hy))
          obtain ⟨v1, T1, B1, hg1, hm1, hc1, hs1⟩ := HD1.out
          have HG1 := Lib.hid hg1
          have HM1 := Lib.hid hm1
          have HC1 := Lib.hid hc1
          have HS1 := Lib.hid hs1
          clear hy hcw hg1 hm1 hc1 hs1
          go_wp2_with (go_at_call 73; refine (opened_go hsm HG1.out HYW.out).mono ?_; rintro e w6 ⟨rfl, hd6⟩; have HD6 := Lib.hid hd6; clear hd6)
          go_roundw
          case rel =>
            refine ⟨j + 1, by omega, by go_num, Did.after HM1.out HC1.out HS1.out HD6.out (fun o => ?_)⟩
            rw [List.take_add_one, HY.out]
            simp only [Option.toList_some, List.mem_append, List.mem_singleton, or_assoc]
            refine or_congr_right ?_
            constructor
            · rintro ⟨x, hx | rfl, hx2⟩
              · exact .inl ⟨x, hx, hx2⟩
              · exact .inr hx2
            · rintro (⟨x, hx, hx2⟩ | hx2)
              · exact ⟨x, .inl hx, hx2⟩
              · exact ⟨y, .inr rfl, hx2⟩
          case measure => simp [intOf]; omega
        · obtain rfl : j = len := by omega
          go_wp2
          first | go_end0 | refine bodyPost_ret (results_none rfl _ _ _) rfl ?_
          refine ⟨rfl, (Did.pre HTW.out HD1.out).iff (fun o => ?_)⟩
          rw [HLEN.out, List.take_length]
          exact HMT.out o
    · have hcc : (x.cwd != 0) = true := by simp [hc0]
      have HMT : Hid (∀ o, MoreT D (7, id) o ↔ o = (1, x.cwd) ∨ ∃ x ∈ heldOf D id, OpT D x o) := Lib.hid fun o => by simp [MoreT, HPN.out, hc0]
      clear hc0
      go_wp2
      go_quiet (fail)
      go_wp2_with (go_at_call 54; refine (add_go hsm (HGW.out.kept ((Turned.refl [] W).drewN _)) (.inl rfl) (.inr HFI.out) HOW.out).mono ?_; rintro e V ⟨rfl, hd⟩; have HD0 := Lib.hid (Did.pre ((Turned.refl [] W).drewN _) hd); clear hd hlk3 g0 x12 x0 q1 q0 e0 e1 e2 e3 e4 e5 e6)
      have HDo := HD0.out.old
      have hIXv := HIX0.out.kept HDo (by simp) (by simp) (by simp) (by simp) (by simp) (by simp)
      have g0v : V.cell? ⟨G, 0, none⟩ = some (.pointer (some ⟨X, 0, none⟩)) := HD0.out.ptr
      have x18 : V.cell? ⟨X, 18, none⟩ = some (.map (some mhd)) := block_cell hIXv.idx rfl
      have q1v : V.cell? ⟨w.heap.size, 1, none⟩ = some (.int .i64 id) := HD0.out.cell HQ1.out hb1 hb2 hb3 hb4 hv
      have hlkv : ∀ nq, (Instr.lookup 101 (.map (some mhd)) (.int .i64 id) false).run Try.prog (V.drewN nq) = .ok (.slice au len cu) (V.drewN nq) := fun nq => by
        rw [HLEN.out]; exact HBL.out _ (HDo.drewN nq)
      clear hIXv HDo
      go_wp2
      go_quiet (fail)
      go_wp2
      clear g0v x18 q1v hlkv
      go_loopw [75] (fun i wr => ∃ j : Nat, j ≤ len ∧ i = .int .i64 j ∧ Did w0 W wr X D base G ms mb pid v S N (fun o => o = (1, x.cwd) ∨ ∃ x ∈ (heldOf D id).take j, OpT D x o)) (fun i _ => len - (intOf i).toNat)
      case atStart => exact ⟨0, by omega, rfl, (HD0.out.post ((Turned.refl _ _).drewN _)).iff (fun o => by simp)⟩
      case round =>
        obtain ⟨j, hj, rfl, hd⟩ := hrel
        have HD1 := Lib.hid hd
        clear hd HD0
        by_cases hlt : j < len
        · obtain ⟨y, hy⟩ : ∃ y, (heldOf D id)[j]? = some y := ⟨(heldOf D id)[j]'(by omega), by simp⟩
          obtain ⟨q, o, rfl, hcw⟩ := HBC.out j y hy
          have e1 := hcw wr HD1.out.old
          have HY := Lib.hid hy
          have HYW := Lib.hid (held_ids HG.out.env.rd _ _ _ (List.mem_of_getElem? hy))
          obtain ⟨v1, T1, B1, hg1, hm1, hc1, hs1⟩ := HD1.out
          have HG1 := Lib.hid hg1
          have HM1 := Lib.hid hm1
          have HC1 := Lib.hid hc1
          have HS1 := Lib.hid hs1
          clear hy hcw hg1 hm1 hc1 hs1
          go_wp2_with (go_at_call 73; refine (opened_go hsm HG1.out HYW.out).mono ?_; rintro e w6 ⟨rfl, hd6⟩; have HD6 := Lib.hid hd6; clear hd6)
          go_roundw
          case rel =>
            refine ⟨j + 1, by omega, by go_num, Did.after HM1.out HC1.out HS1.out HD6.out (fun o => ?_)⟩
            rw [List.take_add_one, HY.out]
            simp only [Option.toList_some, List.mem_append, List.mem_singleton, or_assoc]
            refine or_congr_right ?_
            constructor
            · rintro ⟨x, hx | rfl, hx2⟩
              · exact .inl ⟨x, hx, hx2⟩
              · exact .inr hx2
            · rintro (⟨x, hx, hx2⟩ | hx2)
              · exact ⟨x, .inl hx, hx2⟩
              · exact ⟨y, .inr rfl, hx2⟩
          case measure => simp [intOf]; omega
        · obtain rfl : j = len := by omega
          go_wp2
          first | go_end0 | refine bodyPost_ret (results_none rfl _ _ _) rfl ?_
          refine ⟨rfl, (Did.pre HTW.out HD1.out).iff (fun o => ?_)⟩
          rw [HLEN.out, List.take_length]
          exact HMT.out o
end Go.Proofs.Yteaglbfodeineaa
