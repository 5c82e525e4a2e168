/-
  What is come to from one thing: the walk of (*goer).from at a socket, and at any other thing.
-/
import Derived.Test.YteaglbfodeineaaFrom
namespace Go.Proofs.Yteaglbfodeineaa
open Go.RowKit

theorem take_or {α : Type} {A : Prop} {l : List α} {y : α} {Q : α → Prop} : (A ∨ ∃ x ∈ l ++ (some y).toList, Q x) ↔ (A ∨ ∃ x ∈ l, Q x) ∨ Q y := by
  simp only [Option.toList_some, List.mem_append, List.mem_singleton, or_assoc]
  refine or_congr_right ?_
  constructor
  · rintro ⟨x, hx | rfl, hx2⟩
    · exact .inl ⟨x, hx, hx2⟩
    · exact .inr hx2
  · rintro (⟨x, hx, hx2⟩ | hx2)
    · exact ⟨x, .inl hx, hx2⟩
    · exact ⟨y, .inr rfl, hx2⟩

theorem sock_ids {D : DumpV} {s : SockV} {x : Int} (h : s ∈ D.socks.xs) (hx : x = s.peer ∨ x ∈ s.waits.xs) : x ∈ D.ids := by
  unfold DumpV.ids
  simp only [List.mem_append, List.mem_flatMap, List.mem_cons]
  exact .inr ⟨s, h, .inr (by simpa using hx)⟩

set_option maxRecDepth 100000 in
set_option maxHeartbeats 8000000 in
theorem from_sock {w0 w : World} {X : Nat} {D : DumpV} {base G ms mb : Nat} {pid : Int} {v : Value} {S N : List Ob} {B : List Int} (hsm : Small D) (h : Go1 w0 w X D base G ms mb pid v S B N) {id : Int} (hi : I64 id) :
    Calls Try.prog 55 #[.pointer (some ⟨G, 0, none⟩), .agg #[.int .i64 6, .int .i64 id]] w fun e w' => e = .returned (.tuple #[]) ∧ Did w0 w w' X D base G ms mb pid v S N (MoreT D (6, id)) := by
  have HG := Lib.hid h
  have HI := Lib.hid hi
  clear h hi
  go_enter Try.func55, Try.ntmps55
  go_wp2
  generalize hW : World.alloc w _ = W
  have HTW := Lib.hid (show Turned [] w W by rw [← hW]; exact (Turned.refl _ _).alloc _)
  have q0 : W.cell? ⟨w.heap.size, 0, none⟩ = some (.int .i64 6) := by rw [← hW]; exact World.cell?_alloc_mark _ _ _ _ _
  have q1 : W.cell? ⟨w.heap.size, 1, none⟩ = some (.int .i64 id) := by rw [← hW]; exact World.cell?_alloc_mark _ _ _ _ _
  have hsz : w.heap.size < W.heap.size := by rw [← hW]; simp
  clear hW
  have HGW := Lib.hid (HG.out.kept HTW.out)
  have hb1 := HG.out.at_.l4
  have hb2 := HG.out.at_.l1
  have hb3 := HG.out.at_.l2
  have hb4 := HG.out.at_.l3
  have hbs : base ≤ W.heap.size := by omega
  have hvs : v.ownBlock ≠ some W.heap.size := fun e => by have := (HG.out.at_.q.lt _ e).2; omega
  obtain ⟨m1, m2, m3, m4, m5, mbd, mhd, hix0, -, -⟩ := HG.out.env.ix
  have HIX0 := Lib.hid hix0
  clear hix0
  have hIX := HIX0.out.kept HGW.out.env.t (by simp) (by simp) (by simp) (by simp) (by simp) (by simp)
  have g0 : W.cell? ⟨G, 0, none⟩ = some (.pointer (some ⟨X, 0, none⟩)) := block_cell HGW.out.at_.g rfl
  have x15 : W.cell? ⟨X, 15, none⟩ = some (.map (some m4)) := block_cell hIX.idx rfl
  have x5 : W.cell? ⟨X, 5, none⟩ = some (.slice D.socks.a D.socks.len D.socks.cap) := block_cell hIX.idx rfl
  have hlk3 : ∀ nq, (Instr.lookup 100 (.map (some m4)) (.int .i64 id) true).run Try.prog (W.drewN nq) = .ok (.tuple #[(ixFrom D.sockIds 0 id).getD (.int .i64 0), .bool (ixFrom D.sockIds 0 id).isSome]) (W.drewN nq) := fun nq =>
    (hIX.p4.kept ((Turned.refl [] W).drewN nq) (by simp)).look_ok (x := id) Try.underlying100 (z := .int .i64 0) (by exact Try.zeroValue3 _) HI.out
  clear hIX
  cases hix : ixOf D.sockIds id with
  | none =>
    have hpp : (ixFrom D.sockIds 0 id) = none := by simp [ixFrom, hix]
    simp only [hpp, Option.getD_none, Option.isSome_none] at hlk3
    have HPN := Lib.hid (show atSock D id = none by simp [atSock, hix])
    clear hix hpp
    go_wp2
    go_quiet (fail)
    go_wp2
    first | go_end0 | refine bodyPost_ret (results_none rfl _ _ _) rfl ?_
    exact ⟨rfl, .nothing HG.out (HTW.out.drewN _) (fun o ho => by simp [MoreT, HPN.out] at ho)⟩
  | some p =>
    have hpp : (ixFrom D.sockIds 0 id) = some (.int .i64 p) := by simp [ixFrom, hix]
    simp only [hpp, Option.getD_some, Option.isSome_some] at hlk3
    obtain ⟨s, hx⟩ : ∃ x, D.socks.xs[p]? = some x := by
      have := (ixOf_some.1 hix).1
      unfold DumpV.sockIds at this
      rw [List.getElem?_map] at this
      obtain ⟨x, hx, _⟩ := Option.map_eq_some_iff.1 this
      exact ⟨x, hx⟩
    have HPN := Lib.hid (show atSock D id = some s by simp [atSock, hix, hx])
    obtain ⟨_, _, _, _, _, _, _, _, _, _, _, _, -, hws, hps⟩ := sock_cells (HG.out.env.rd.socks.at_ p s hx)
    have HWS := Lib.hid hws
    have HPS := Lib.hid hps
    have hrd := HG.out.env.rd.socks.stays stays_sock HGW.out.env.t
    obtain ⟨bi, oi, hab, e0, e1, e2, e3, e4, e5, e6, e7, e8, ⟨-, how, -⟩, -, -⟩ := sock_cells (hrd.at_ p s hx)
    have HOW := Lib.hid how
    have HSX := Lib.hid hx
    have HPI := Lib.hid (sock_ids (List.mem_of_getElem? hx) (.inl rfl))
    simp only [Sl.v] at e5 e8
    have hlc := hrd.lc
    have hcm := hrd.cm
    unfold maxLen at hcm
    have hpl : p < D.socks.len := by rw [← hrd.n]; exact (List.getElem?_eq_some_iff.1 hx).1
    rw [hab] at x5
    have hl1 := HWS.out.lc
    have hc1 := HWS.out.cm
    have hn1 := HWS.out.n
    have hl2 := HPS.out.lc
    have hc2 := HPS.out.cm
    have hn2 := HPS.out.n
    unfold maxLen at hc1 hc2
    clear hix hpp hx hrd how hws hps
    go_wp2
    go_quiet (fail)
    obtain ⟨W2, hW2⟩ : ∃ W2, W2 = W.drewN nq := ⟨_, rfl⟩
    rw [← hW2]
    have HT2 := Lib.hid (show Turned [] W W2 by rw [hW2]; exact (Turned.refl _ _).drewN _)
    have hsz2 : W2.heap.size = W.heap.size := by rw [hW2]; rfl
    have GG := Lib.hid g0
    have XX := Lib.hid x5
    have EE := Lib.hid (And.intro e0 (And.intro e1 (And.intro e2 (And.intro e3 (And.intro e4 (And.intro e5 (And.intro e6 (And.intro e7 e8))))))))
    clear hW2 g0 x5 e0 e1 e2 e3 e4 e5 e6 e7 e8 hlk3 x15 q0 q1
    have g0 := HT2.out.cell GG.out (by simp)
    have x5 := HT2.out.cell XX.out (by simp)
    obtain ⟨e0, e1, e2, e3, e4, e5, e6, e7, e8⟩ := EE.out
    replace e0 := HT2.out.cell e0 (by simp)
    replace e1 := HT2.out.cell e1 (by simp)
    replace e2 := HT2.out.cell e2 (by simp)
    replace e3 := HT2.out.cell e3 (by simp)
    replace e4 := HT2.out.cell e4 (by simp)
    replace e5 := HT2.out.cell e5 (by simp)
    replace e6 := HT2.out.cell e6 (by simp)
    replace e7 := HT2.out.cell e7 (by simp)
    replace e8 := HT2.out.cell e8 (by simp)
    have hop : ∀ o, MoreT D (6, id) o ↔ ((s.peer ≠ 0 ∧ o = (6, s.peer)) ∨ (∃ id ∈ s.waits.xs, o = (6, id)) ∨ ∃ q ∈ s.parts.xs, ∃ x ∈ q.l.xs, OpT D x.file o) := fun o => by simp [MoreT, HPN.out]
    have HOP := Lib.hid hop
    clear hop
    by_cases hp0 : s.peer = 0
    · have hpp : (s.peer != 0) = false := by simp [hp0]
      have HMT : Hid (∀ o, MoreT D (6, id) o ↔ (False ∨ ∃ x ∈ s.waits.xs, o = (6, x)) ∨ ∃ q ∈ s.parts.xs, ∃ x ∈ q.l.xs, OpT D x.file o) := Lib.hid fun o => by rw [HOP.out]; simp [hp0]
      clear hp0 HOP
      go_wp2
      generalize hV : World.alloc W2 _ = V
      have htv : Turned [] W2 V := by rw [← hV]; exact (Turned.refl _ _).alloc _
      have HS5 : Hid (V.cell? ⟨W.heap.size, 5, none⟩ = some (.slice s.waits.a s.waits.len s.waits.cap)) := Lib.hid (by rw [← hV, ← hsz2]; exact World.cell?_alloc_mark _ _ _ _ _)
      have HS8 : Hid (V.cell? ⟨W.heap.size, 8, none⟩ = some (.slice s.parts.a s.parts.len s.parts.cap)) := Lib.hid (by rw [← hV, ← hsz2]; exact World.cell?_alloc_mark _ _ _ _ _)
      have HTV := Lib.hid ((HTW.out.trans HT2.out).trans htv)
      have HD0 := Lib.hid (show Did w0 V V X D base G ms mb pid v S N (fun _ => False) from .start (HG.out.kept HTV.out) (Turned.refl _ _))
      clear hV htv g0 x5 e0 e1 e2 e3 e4 e5 e6 e7 e8
      go_loopw [121] (fun i wr => ∃ j : Nat, j ≤ s.waits.len ∧ i = .int .i64 j ∧ Did w0 V wr X D base G ms mb pid v S N (fun o => False ∨ ∃ x ∈ s.waits.xs.take j, o = (6, x))) (fun i _ => s.waits.len - (intOf i).toNat)
      case atStart => exact ⟨0, by omega, rfl, HD0.out.iff (fun o => by simp)⟩
      case round =>
        obtain ⟨j, hj, rfl, hd⟩ := hrel
        have HD1 := Lib.hid hd
        clear hd HD0
        by_cases hlt : j < s.waits.len
        · obtain ⟨y, hy⟩ : ∃ y, s.waits.xs[j]? = some y := ⟨s.waits.xs[j]'(by omega), by simp⟩
          have hat := (HWS.out.at_ j y hy).stays (stays_int _) HD1.out.old
          have HYW := Lib.hid (int_wf hat)
          obtain ⟨q, o, hab2, e1⟩ := int_cells hat
          rw [hab2]
          have HY := Lib.hid hy
          have HYI := Lib.hid (sock_ids (List.mem_of_getElem? HSX.out) (.inr (List.mem_of_getElem? hy)))
          obtain ⟨v1, T1, B1, hg1, hm1, hc1, hs1⟩ := HD1.out
          have HG1 := Lib.hid hg1
          have HM1 := Lib.hid hm1
          have HC1 := Lib.hid hc1
          have HS1 := Lib.hid hs1
          clear hy hat hg1 hm1 hc1 hs1
          go_wp2_with (go_at_call 54; refine (add_go hsm HG1.out (.inr (.inr (.inl rfl))) (.inr HYI.out) HYW.out).mono ?_; rintro e w6 ⟨rfl, hd6⟩; have HD6 := Lib.hid hd6; clear hd6)
          go_roundw
          case rel => exact ⟨j + 1, by omega, by go_num, Did.after HM1.out HC1.out HS1.out HD6.out (fun o => by
            rw [List.take_add_one, HY.out]
            exact take_or)⟩
          case measure => simp [intOf]; omega
        · obtain rfl : j = s.waits.len := by omega
          have HD2 : Hid (Did w0 V wr X D base G ms mb pid v S N (fun o => False ∨ ∃ x ∈ s.waits.xs, o = (6, x))) := Lib.hid (HD1.out.iff (fun o => by rw [← HWS.out.n, List.take_length]))
          have q8 : wr.cell? ⟨W.heap.size, 8, none⟩ = some (.slice s.parts.a s.parts.len s.parts.cap) := HD2.out.cell HS8.out hbs hb2 hb3 hb4 hvs
          clear HD1
          obtain ⟨wo, rfl⟩ : ∃ wo : World, wo = wr := ⟨_, rfl⟩
          go_wp2
          clear q8
          go_loopw [132] (fun i wr => ∃ k : Nat, k ≤ s.parts.len ∧ i = .int .i64 k ∧ Did w0 V wr X D base G ms mb pid v S N (fun o => (False ∨ ∃ x ∈ s.waits.xs, o = (6, x)) ∨ ∃ q ∈ s.parts.xs.take k, ∃ x ∈ q.l.xs, OpT D x.file o)) (fun i _ => s.parts.len - (intOf i).toNat)
          case atStart => exact ⟨0, by omega, rfl, HD2.out.iff (fun o => by simp)⟩
          case round =>
            obtain ⟨k, hk, rfl, hd⟩ := hrel
            have HD3 := Lib.hid hd
            clear hd HD2
            by_cases hlk : k < s.parts.len
            · obtain ⟨y, hy⟩ : ∃ y, s.parts.xs[k]? = some y := ⟨s.parts.xs[k]'(by omega), by simp⟩
              have HPL : Hid (RSl 5 RPassed w0 y.l) := Lib.hid (by
                obtain ⟨_, _, _, _, _, _, h⟩ := part_cells (HPS.out.at_ k y hy)
                exact h)
              obtain ⟨q, o, hab3, e1, e2, -, -⟩ := part_cells ((HPS.out.at_ k y hy).stays stays_part HD3.out.old)
              rw [hab3]
              simp only [Sl.v] at e1 e2
              have HY := Lib.hid hy
              have hl3 := HPL.out.lc
              have hc3 := HPL.out.cm
              have hn3 := HPL.out.n
              unfold maxLen at hc3
              clear hy
              obtain ⟨wp, rfl⟩ : ∃ wp : World, wp = wr := ⟨_, rfl⟩
              go_wp2
              generalize hV3 : World.alloc wp _ = V3
              have HD4 := Lib.hid (HD3.out.post (show Turned [] wp V3 by rw [← hV3]; exact (Turned.refl _ _).alloc _))
              clear hV3 e1 e2
              go_loopw [139] (fun i wr => ∃ j : Nat, j ≤ y.l.len ∧ i = .int .i64 j ∧ Did w0 V wr X D base G ms mb pid v S N (fun o => ((False ∨ ∃ x ∈ s.waits.xs, o = (6, x)) ∨ ∃ q ∈ s.parts.xs.take k, ∃ x ∈ q.l.xs, OpT D x.file o) ∨ ∃ x ∈ y.l.xs.take j, OpT D x.file o)) (fun i _ => y.l.len - (intOf i).toNat)
              case atStart => exact ⟨0, by omega, rfl, HD4.out.iff (fun o => by simp)⟩
              case round =>
                obtain ⟨j, hj, rfl, hd⟩ := hrel
                have HD5 := Lib.hid hd
                clear hd HD3 HD4
                by_cases hlj : j < y.l.len
                · obtain ⟨z, hz⟩ : ∃ z, y.l.xs[j]? = some z := ⟨y.l.xs[j]'(by omega), by simp⟩
                  obtain ⟨q2, o2, hab4, f0, f1, f2, f3, f4, hfw, -⟩ := passed_cells ((HPL.out.at_ j z hz).stays stays_passed HD5.out.old)
                  rw [hab4]
                  simp only [Sl.v] at f3
                  have HZ := Lib.hid hz
                  have HZW := Lib.hid hfw
                  obtain ⟨v1, T1, B1, hg1, hm1, hc1, hs1⟩ := HD5.out
                  have HG1 := Lib.hid hg1
                  have HM1 := Lib.hid hm1
                  have HC1 := Lib.hid hc1
                  have HS1 := Lib.hid hs1
                  clear hz hfw hg1 hm1 hc1 hs1
                  go_wp2_with (go_at_call 73; refine (opened_go hsm (HG1.out.kept ((Turned.refl [] wr).alloc _)) HZW.out).mono ?_; rintro e w6 ⟨rfl, hd6⟩; have HD6 := Lib.hid (Did.pre ((Turned.refl [] wr).alloc _) hd6); clear hd6)
                  go_roundw
                  case rel => exact ⟨j + 1, by omega, by go_num, Did.after HM1.out HC1.out HS1.out HD6.out (fun o => by
                    rw [List.take_add_one, HZ.out]
                    exact take_or)⟩
                  case measure => simp [intOf]; omega
                · obtain rfl : j = y.l.len := by omega
                  go_wp2
                  go_roundw
                  case rel => exact ⟨k + 1, by omega, by go_num, HD5.out.iff (fun o => by
                    rw [← HPL.out.n, List.take_length, List.take_add_one, HY.out]
                    exact take_or)⟩
                  case measure => simp [intOf]; omega
            · obtain rfl : k = s.parts.len := by omega
              go_wp2
              first | go_end0 | refine bodyPost_ret (results_none rfl _ _ _) rfl ?_
              refine ⟨rfl, (Did.pre HTV.out HD3.out).iff (fun o => ?_)⟩
              rw [← HPS.out.n, List.take_length]
              exact HMT.out o
    · have hpp : (s.peer != 0) = true := by simp [hp0]
      have HMT : Hid (∀ o, MoreT D (6, id) o ↔ (o = (6, s.peer) ∨ ∃ x ∈ s.waits.xs, o = (6, x)) ∨ ∃ q ∈ s.parts.xs, ∃ x ∈ q.l.xs, OpT D x.file o) := Lib.hid fun o => by rw [HOP.out]; simp [hp0, or_assoc]
      clear hp0 HOP
      go_wp2_with fail
      generalize hV : World.alloc W2 _ = V
      have htv : Turned [] W2 V := by rw [← hV]; exact (Turned.refl _ _).alloc _
      have HS5 : Hid (V.cell? ⟨W.heap.size, 5, none⟩ = some (.slice s.waits.a s.waits.len s.waits.cap)) := Lib.hid (by rw [← hV, ← hsz2]; exact World.cell?_alloc_mark _ _ _ _ _)
      have HS8 : Hid (V.cell? ⟨W.heap.size, 8, none⟩ = some (.slice s.parts.a s.parts.len s.parts.cap)) := Lib.hid (by rw [← hV, ← hsz2]; exact World.cell?_alloc_mark _ _ _ _ _)
      have HTV := Lib.hid ((HTW.out.trans HT2.out).trans htv)
      clear hV htv
      refine (add_go hsm (HG.out.kept HTV.out) (.inr (.inr (.inl rfl))) (.inr HPI.out) HOW.out).mono ?_
      rintro e V1 ⟨rfl, hd⟩
      have HD0 := Lib.hid hd
      have q5 : V1.cell? ⟨W.heap.size, 5, none⟩ = some (.slice s.waits.a s.waits.len s.waits.cap) := hd.cell HS5.out hbs hb2 hb3 hb4 hvs
      clear hd g0 x5 e0 e1 e2 e3 e4 e5 e6 e7 e8
      go_wp2
      clear q5
      go_loopw [121] (fun i wr => ∃ j : Nat, j ≤ s.waits.len ∧ i = .int .i64 j ∧ Did w0 V wr X D base G ms mb pid v S N (fun o => o = (6, s.peer) ∨ ∃ x ∈ s.waits.xs.take j, o = (6, x))) (fun i _ => s.waits.len - (intOf i).toNat)
      case atStart => exact ⟨0, by omega, rfl, HD0.out.iff (fun o => by simp)⟩
      case round =>
        obtain ⟨j, hj, rfl, hd⟩ := hrel
        have HD1 := Lib.hid hd
        clear hd HD0
        by_cases hlt : j < s.waits.len
        · obtain ⟨y, hy⟩ : ∃ y, s.waits.xs[j]? = some y := ⟨s.waits.xs[j]'(by omega), by simp⟩
          have hat := (HWS.out.at_ j y hy).stays (stays_int _) HD1.out.old
          have HYW := Lib.hid (int_wf hat)
          obtain ⟨q, o, hab2, e1⟩ := int_cells hat
          rw [hab2]
          have HY := Lib.hid hy
          have HYI := Lib.hid (sock_ids (List.mem_of_getElem? HSX.out) (.inr (List.mem_of_getElem? hy)))
          obtain ⟨v1, T1, B1, hg1, hm1, hc1, hs1⟩ := HD1.out
          have HG1 := Lib.hid hg1
          have HM1 := Lib.hid hm1
          have HC1 := Lib.hid hc1
          have HS1 := Lib.hid hs1
          clear hy hat hg1 hm1 hc1 hs1
          go_wp2_with (go_at_call 54; refine (add_go hsm HG1.out (.inr (.inr (.inl rfl))) (.inr HYI.out) HYW.out).mono ?_; rintro e w6 ⟨rfl, hd6⟩; have HD6 := Lib.hid hd6; clear hd6)
          go_roundw
          case rel => exact ⟨j + 1, by omega, by go_num, Did.after HM1.out HC1.out HS1.out HD6.out (fun o => by
            rw [List.take_add_one, HY.out]
            exact take_or)⟩
          case measure => simp [intOf]; omega
        · obtain rfl : j = s.waits.len := by omega
          have HD2 : Hid (Did w0 V wr X D base G ms mb pid v S N (fun o => o = (6, s.peer) ∨ ∃ x ∈ s.waits.xs, o = (6, x))) := Lib.hid (HD1.out.iff (fun o => by rw [← HWS.out.n, List.take_length]))
          have q8 : wr.cell? ⟨W.heap.size, 8, none⟩ = some (.slice s.parts.a s.parts.len s.parts.cap) := HD2.out.cell HS8.out hbs hb2 hb3 hb4 hvs
          clear HD1
          obtain ⟨wo, rfl⟩ : ∃ wo : World, wo = wr := ⟨_, rfl⟩
          go_wp2
          clear q8
          go_loopw [132] (fun i wr => ∃ k : Nat, k ≤ s.parts.len ∧ i = .int .i64 k ∧ Did w0 V wr X D base G ms mb pid v S N (fun o => (o = (6, s.peer) ∨ ∃ x ∈ s.waits.xs, o = (6, x)) ∨ ∃ q ∈ s.parts.xs.take k, ∃ x ∈ q.l.xs, OpT D x.file o)) (fun i _ => s.parts.len - (intOf i).toNat)
          case atStart => exact ⟨0, by omega, rfl, HD2.out.iff (fun o => by simp)⟩
          case round =>
            obtain ⟨k, hk, rfl, hd⟩ := hrel
            have HD3 := Lib.hid hd
            clear hd HD2
            by_cases hlk : k < s.parts.len
            · obtain ⟨y, hy⟩ : ∃ y, s.parts.xs[k]? = some y := ⟨s.parts.xs[k]'(by omega), by simp⟩
              have HPL : Hid (RSl 5 RPassed w0 y.l) := Lib.hid (by
                obtain ⟨_, _, _, _, _, _, h⟩ := part_cells (HPS.out.at_ k y hy)
                exact h)
              obtain ⟨q, o, hab3, e1, e2, -, -⟩ := part_cells ((HPS.out.at_ k y hy).stays stays_part HD3.out.old)
              rw [hab3]
              simp only [Sl.v] at e1 e2
              have HY := Lib.hid hy
              have hl3 := HPL.out.lc
              have hc3 := HPL.out.cm
              have hn3 := HPL.out.n
              unfold maxLen at hc3
              clear hy
              obtain ⟨wp, rfl⟩ : ∃ wp : World, wp = wr := ⟨_, rfl⟩
              go_wp2
              generalize hV3 : World.alloc wp _ = V3
              have HD4 := Lib.hid (HD3.out.post (show Turned [] wp V3 by rw [← hV3]; exact (Turned.refl _ _).alloc _))
              clear hV3 e1 e2
              go_loopw [139] (fun i wr => ∃ j : Nat, j ≤ y.l.len ∧ i = .int .i64 j ∧ Did w0 V wr X D base G ms mb pid v S N (fun o => ((o = (6, s.peer) ∨ ∃ x ∈ s.waits.xs, o = (6, x)) ∨ ∃ q ∈ s.parts.xs.take k, ∃ x ∈ q.l.xs, OpT D x.file o) ∨ ∃ x ∈ y.l.xs.take j, OpT D x.file o)) (fun i _ => y.l.len - (intOf i).toNat)
              case atStart => exact ⟨0, by omega, rfl, HD4.out.iff (fun o => by simp)⟩
              case round =>
                obtain ⟨j, hj, rfl, hd⟩ := hrel
                have HD5 := Lib.hid hd
                clear hd HD3 HD4
                by_cases hlj : j < y.l.len
                · obtain ⟨z, hz⟩ : ∃ z, y.l.xs[j]? = some z := ⟨y.l.xs[j]'(by omega), by simp⟩
                  obtain ⟨q2, o2, hab4, f0, f1, f2, f3, f4, hfw, -⟩ := passed_cells ((HPL.out.at_ j z hz).stays stays_passed HD5.out.old)
                  rw [hab4]
                  simp only [Sl.v] at f3
                  have HZ := Lib.hid hz
                  have HZW := Lib.hid hfw
                  obtain ⟨v1, T1, B1, hg1, hm1, hc1, hs1⟩ := HD5.out
                  have HG1 := Lib.hid hg1
                  have HM1 := Lib.hid hm1
                  have HC1 := Lib.hid hc1
                  have HS1 := Lib.hid hs1
                  clear hz hfw hg1 hm1 hc1 hs1
                  go_wp2_with (go_at_call 73; refine (opened_go hsm (HG1.out.kept ((Turned.refl [] wr).alloc _)) HZW.out).mono ?_; rintro e w6 ⟨rfl, hd6⟩; have HD6 := Lib.hid (Did.pre ((Turned.refl [] wr).alloc _) hd6); clear hd6)
                  go_roundw
                  case rel => exact ⟨j + 1, by omega, by go_num, Did.after HM1.out HC1.out HS1.out HD6.out (fun o => by
                    rw [List.take_add_one, HZ.out]
                    exact take_or)⟩
                  case measure => simp [intOf]; omega
                · obtain rfl : j = y.l.len := by omega
                  go_wp2
                  go_roundw
                  case rel => exact ⟨k + 1, by omega, by go_num, HD5.out.iff (fun o => by
                    rw [← HPL.out.n, List.take_length, List.take_add_one, HY.out]
                    exact take_or)⟩
                  case measure => simp [intOf]; omega
            · obtain rfl : k = s.parts.len := by omega
              go_wp2
              first | go_end0 | refine bodyPost_ret (results_none rfl _ _ _) rfl ?_
              refine ⟨rfl, (Did.pre HTV.out HD3.out).iff (fun o => ?_)⟩
              rw [← HPS.out.n, List.take_length]
              exact HMT.out o
end Go.Proofs.Yteaglbfodeineaa
