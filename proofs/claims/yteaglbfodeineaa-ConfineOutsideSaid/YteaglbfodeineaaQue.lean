/-
  A slice that the call owns and that may begin behind its block's begin (a queue: l = l[1:]; l = append(l, ..)).
-/
import Derived.Test.YteaglbfodeineaaApp
import Derived.ArgAppend
namespace Go.Proofs.Yteaglbfodeineaa
open Go.RowKit

/-- v owns n elements, the cells xs, in a block from 'base' on, from some place of it on. -/
def QRow (w : World) (base : Nat) (e : TypeId) (size : Nat) (v : Value) (n : Nat) (xs : List Value) : Prop :=
  xs.length = n * size ∧ ((v = .slice none 0 0 ∧ n = 0) ∨
    ∃ g off cap cur, v = .slice (some ⟨g, off, none⟩) n cap ∧ base ≤ g ∧ w.heap[g]? = some (.cells cur e (0, 0)) ∧ n ≤ cap ∧ cap ≤ maxLen ∧ off + cap * size ≤ cur.size ∧ ∀ j u, xs[j]? = some u → cur[off + j]? = some u)

theorem QRow.nil (w : World) (base : Nat) (e : TypeId) (size : Nat) : QRow w base e size (.slice none 0 0) 0 [] := ⟨by simp, .inl ⟨rfl, rfl⟩⟩

theorem QRow.of_owns {w : World} {base : Nat} {e : TypeId} {size : Nat} {v : Value} {n : Nat} {xs : List Value} (h : w.ownsRow base e size v n xs) : QRow w base e size v n xs := by
  refine ⟨h.1, ?_⟩
  rcases h.2 with h2 | ⟨g, cap, cur, h1, h2, h3, h4, h5, h6, h7⟩
  · exact .inl h2
  · refine .inr ⟨g, 0, cap, cur, h1, h2, h3, h4, h5, by omega, fun j u hj => ?_⟩
    rw [← h7] at hj
    rw [Nat.zero_add, ← Array.getElem?_toList]
    rw [List.getElem?_take] at hj
    split at hj
    · exact hj
    · cases hj

theorem QRow.lt {w : World} {base : Nat} {e : TypeId} {size : Nat} {v : Value} {n : Nat} {xs : List Value} (h : QRow w base e size v n xs) : ∀ k, v.ownBlock = some k → base ≤ k ∧ k < w.heap.size := by
  intro k hk
  rcases h.2 with ⟨rfl, _⟩ | ⟨g, off, cap, cur, rfl, hb, hg, _⟩
  · simp [Value.ownBlock] at hk
  · simp [Value.ownBlock] at hk
    subst hk
    exact ⟨hb, lt_of_heap hg⟩

theorem QRow.kept {w w' : World} {base : Nat} {e : TypeId} {size : Nat} {v : Value} {n : Nat} {xs : List Value} {S : List Nat} (h : QRow w base e size v n xs) (ht : Turned S w w') (hn : ∀ k, v.ownBlock = some k → k ∉ S) : QRow w' base e size v n xs := by
  refine ⟨h.1, ?_⟩
  rcases h.2 with h2 | ⟨g, off, cap, cur, rfl, hb, hg, r⟩
  · exact .inl h2
  · exact .inr ⟨g, off, cap, cur, rfl, hb, ht.keep hg (hn g rfl), r⟩

/-- Its first element: a cell of the world. -/
theorem QRow.cell {w : World} {base : Nat} {e : TypeId} {size : Nat} {v : Value} {n : Nat} {xs : List Value} (h : QRow w base e size v n xs) (hn : 0 < n) :
    ∃ g off cap, v = .slice (some ⟨g, off, none⟩) n cap ∧ n ≤ cap ∧ cap ≤ maxLen ∧ base ≤ g ∧ ∀ j u, xs[j]? = some u → w.cell? ⟨g, off + j, none⟩ = some u := by
  rcases h.2 with ⟨rfl, rfl⟩ | ⟨g, off, cap, cur, rfl, hb, hg, h1, h2, h3, h4⟩
  · omega
  · exact ⟨g, off, cap, rfl, h1, h2, hb, fun j u hj => by simp [World.cell?, hg, h4 j u hj]⟩

/-- l[1:]. -/
theorem QRow.tail {w : World} {base : Nat} {e : TypeId} {size : Nat} {g off n cap : Nat} {xs : List Value} (h : QRow w base e size (.slice (some ⟨g, off, none⟩) (n + 1) (cap + 1)) (n + 1) xs) :
    QRow w base e size (.slice (some ⟨g, off + size, none⟩) n cap) n (xs.drop size) := by
  refine ⟨by rw [List.length_drop, h.1, Nat.add_mul]; omega, .inr ?_⟩
  rcases h.2 with ⟨h1, _⟩ | ⟨g', off', cap', cur, h0, hb, hg, h1, h2, h3, h4⟩
  · cases h1
  · simp only [Value.slice.injEq, Option.some.injEq, Addr.mk.injEq] at h0
    obtain ⟨⟨rfl, rfl, _⟩, _, rfl⟩ := h0
    refine ⟨g, off + size, cap, cur, rfl, hb, hg, by omega, by omega, by rw [Nat.add_mul] at h3; omega, fun j u hj => ?_⟩
    rw [List.getElem?_drop] at hj
    rw [Nat.add_assoc]
    exact h4 _ _ hj

theorem heap_setCells {b : Nat} : ∀ (news : List Value) (o : Nat) (w : World) (cur : Array Value) (e : TypeId), w.heap[b]? = some (.cells cur e (0, 0)) → o + news.length ≤ cur.size →
    ∃ cur' : Array Value, (w.setCells b o news).heap[b]? = some (.cells cur' e (0, 0)) ∧ cur'.size = cur.size ∧ (∀ j u, news[j]? = some u → cur'[o + j]? = some u) ∧ (∀ j, j < o ∨ o + news.length ≤ j → cur'[j]? = cur[j]?) ∧ w.grownBy (w.setCells b o news) (some b)
  | [], o, w, cur, e, h, _ => ⟨cur, h, rfl, fun j u hj => by simp at hj, fun _ _ => rfl, World.grownBy.refl _ _⟩
  | v :: r, o, w, cur, e, h, hl => by
    simp only [List.length_cons] at hl
    obtain ⟨cur', h1, h2, h3, h4, h5⟩ := heap_setCells r (o + 1) (w.setCell ⟨b, o, none⟩ v) (cur.setIfInBounds o v) e (heap_setCell_same h v) (by simp; omega)
    refine ⟨cur', h1, by rw [h2]; simp, fun j u hj => ?_, fun j hj => ?_, ?_⟩
    · cases j with
      | zero =>
        simp at hj; subst hj
        rw [h4 (o + 0) (.inl (by omega))]
        rw [Nat.add_zero, Array.getElem?_setIfInBounds, if_pos rfl, if_pos (by omega)]
      | succ j =>
        have := h3 j u (by simpa using hj)
        rwa [show o + (j + 1) = o + 1 + j by omega]
    · rw [h4 j (by simp only [List.length_cons] at hj; omega)]
      rw [Array.getElem?_setIfInBounds, if_neg (by simp only [List.length_cons] at hj; omega)]
    · have hg : w.grownBy (w.setCell ⟨b, o, none⟩ v) (some b) := ⟨rfl, rfl, rfl, by simp [World.setCell], fun k _ hk => Below.heap_setCell _ _ _ _ (fun e => hk (by rw [e]))⟩
      exact ⟨h5.os.trans hg.os, h5.tape.trans hg.tape, h5.output.trans hg.output, Nat.le_trans hg.size h5.size, fun k hk hne => (h5.block k (Nat.lt_of_lt_of_le hk hg.size) hne).trans (hg.block k hk hne)⟩

/-- append onto such a slice, of whatever source. -/
theorem run_append_que {P : Program} (w : World) (base : Nat) (t ty e : TypeId) (i : TypeInfo) (z : Value) (size bytes : Nat) (ht : P.underlying t = some (.slice e)) (hi : P.info? e = some i) (hz : i.zero = some z)
    (hsize : i.size = size) (hby : i.bytes = bytes) (hzs : z.cells.size = size) (hsz : 0 < size)
    (v : Value) (n : Nat) (xs : List Value) (hown : QRow w base e size v n xs)
    (a : Option Addr) (m c : Nat) (news : List Value) (hl : news.length = m * size) (hnil : a = none → m = 0 ∧ c = 0) (hnews : CellsAt w a news) (h1 : ∀ u ∈ news, u.oneCell' = true)
    (h63 : n + m ≤ maxLen) (hbytes : (n + m) * bytes ≤ 140737488355328) (hbase : base ≤ w.heap.size) :
    ∃ v' w', (Builtin.append_ #[t, t] ty #[v, .slice a m c]).run P w = .ok v' w' ∧ QRow w' base e size v' (n + m) (xs ++ news) ∧ w.grownBy w' v.ownBlock ∧ (v'.ownBlock = v.ownBlock ∨ ∃ k, v'.ownBlock = some k ∧ w.heap.size ≤ k) := by
  rcases hown.2 with ⟨rfl, rfl⟩ | ⟨g, off, cap, cur, rfl, hb, hg, hnc, hcm, hoc, hcell⟩
  · have hx : xs = [] := List.eq_nil_of_length_eq_zero (by simpa using hown.1)
    subst hx
    obtain ⟨v', w', r1, r2, r3, _, r5⟩ := run_append_any (P := P) w base t ty e i z size bytes ht hi hz hsize hby hzs hsz (.slice none 0 0) 0 [] (World.ownsRow_nil _ _ _ _) a m c news hl hnil hnews h1 h63 hbytes hbase
    exact ⟨v', w', r1, .of_owns r2, r3, r5.imp id fun h => ⟨_, h, Nat.le_refl _⟩⟩
  · have hcells : ∀ j u, xs[j]? = some u → w.cell? ⟨g, off + j, none⟩ = some u := fun j u hj => by simp [World.cell?, hg, hcell j u hj]
    cases a with
    | none =>
      obtain ⟨rfl, rfl⟩ := hnil rfl
      have hn : news = [] := List.eq_nil_of_length_eq_zero (by simpa using hl)
      subst hn
      refine ⟨.slice (some ⟨g, off, none⟩) n cap, w, ?_, by simpa using hown, World.grownBy.refl _ _, .inl rfl⟩
      simp [Builtin.append_, run_underlying ht, sizeOf, typeInfo, hi, Builtin.lenOf, Builtin.firstCells, loadCells, storeCells, hnc]
    | some ad =>
      have hnews' : ∀ j u, news[j]? = some u → w.cell? (ad.add j) = some u := fun j u hj => by
        obtain ⟨ad', h2, h3⟩ := hnews j u hj
        rw [Option.some.inj h2]; exact h3
      by_cases hroom : n + m ≤ cap
      · subst hsize
        have hfit : off + n * i.size + news.length ≤ cur.size := by
          have := Nat.mul_le_mul_right i.size hroom
          rw [Nat.add_mul] at this
          rw [hl]; omega
        have hrun := run_append_room_cells (P := P) w t ty e i ht hi g off n cap ad m c news hl hnews' h1 hroom
          (fun j hj => by simp [World.cell?, hg]; omega) (fun j hj => by simp [World.frozen?, hg])
        obtain ⟨cur', k1, k2, k3, k4, k5⟩ := heap_setCells news (off + n * i.size) w cur e hg hfit
        refine ⟨_, _, hrun, ⟨by rw [List.length_append, hown.1, hl, Nat.add_mul], .inr ⟨g, off, cap, cur', rfl, hb, k1, hroom, hcm, by omega, fun j u hj => ?_⟩⟩, k5, .inl rfl⟩
        by_cases hjl : j < xs.length
        · rw [List.getElem?_append_left hjl] at hj
          rw [k4 _ (.inl (by rw [← hown.1]; omega))]
          exact hcell j u hj
        · rw [List.getElem?_append_right (by omega)] at hj
          have := k3 _ _ hj
          rw [← hown.1] at this
          rwa [show off + xs.length + (j - xs.length) = off + j by omega] at this
      · obtain ⟨v', w', r1, r2, r3⟩ := run_append_arg_grows (P := P) w t ty e i z size bytes ht hi hz hsize hby hzs hsz ⟨g, off, none⟩ n cap xs hown.1 (fun j u hj => by
          have := hcells j u hj
          have e : (⟨g, off, none⟩ : Addr).add j = ⟨g, off + j, none⟩ := by unfold Addr.add; split <;> simp_all
          rw [e]; exact this) ad m c news hl hnews' (by omega) h63 hbytes
        refine ⟨v', w', r1, ?_, ⟨r3.os, r3.tape, r3.output, r3.size, fun k hk _ => r3.block k hk (by simp)⟩, ?_⟩
        · have q := QRow.of_owns r2
          refine ⟨q.1, q.2.imp id ?_⟩
          rintro ⟨g', o', c', cu', e1, e2, e3⟩
          exact ⟨g', o', c', cu', e1, by omega, e3⟩
        · rcases r2.2 with ⟨rfl, h0⟩ | ⟨g', c', cu', rfl, e2, _⟩
          · have hm0 : m = 0 := by omega
            omega
          · exact .inr ⟨g', rfl, e2⟩

/-- The same as a step of a region: the value that comes is written out. -/
theorem step_append_que {P : Program} {w : World} {ops : Array Oper} {o : Oper} {a : Act} {K : Act → World → Prop} {Q : Exit → Act → World → Prop} {E : Prop} (hgd : o.guard = none) (s x : Operand) (t : TypeId)
    (ho : o.op = .call { callee := .builtin .append, args := #[s, x], argTypes := #[t, t] })
    (base : Nat) (e : TypeId) (i : TypeInfo) (z : Value) (size bytes : Nat) (ht : P.underlying t = some (.slice e)) (hi : P.info? e = some i) (hz : i.zero = some z)
    (hsize : i.size = size) (hby : i.bytes = bytes) (hzs : z.cells.size = size) (hsz : 0 < size)
    (v : Value) (n : Nat) (xs : List Value) (hs : a.eval s = v) (hown : QRow w base e size v n xs)
    (ax : Option Addr) (m c : Nat) (news : List Value) (hx : a.eval x = .slice ax m c) (hl : news.length = m * size) (hnil : ax = none → m = 0 ∧ c = 0) (hnews : CellsAt w ax news) (h1 : ∀ u ∈ news, u.oneCell' = true)
    (hm : 0 < m) (h63 : n + m ≤ maxLen) (hbytes : (n + m) * bytes ≤ 140737488355328) (hbase : base ≤ w.heap.size) (H : Nat) (hH : w.heap.size = H)
    (h : ∀ g off cap w', QRow w' base e size (.slice (some ⟨g, off, none⟩) (n + m) cap) (n + m) (xs ++ news) → w.grownBy w' v.ownBlock → (v.ownBlock = some g ∨ H ≤ g) → g < w'.heap.size → K (a.put o.dst (.slice (some ⟨g, off, none⟩) (n + m) cap)) w') :
    if Region.wanted o (yielded ops a.tmps) = true then Oper.wp P o a w K Q else E := by
  have hw : Region.wanted o (yielded ops a.tmps) = true := by simp [Region.wanted, hgd]
  rw [if_pos hw]
  obtain ⟨v', w', hrun, r1, r2, r3⟩ := run_append_que (P := P) w base t o.type e i z size bytes ht hi hz hsize hby hzs hsz v n xs hown ax m c news hl hnil hnews h1 h63 hbytes hbase
  rcases r1.2 with ⟨rfl, h0⟩ | ⟨g, off, cap, cur, rfl, hb, hg, hrest⟩
  · omega
  · unfold Oper.wp
    simp [execOp, ho, resolve, invoke, builtin, hs, hx, hrun, Result.andThen]
    refine h g off cap w' r1 r2 ?_ (lt_of_heap hg)
    rcases r3 with h | ⟨k, hk, hk'⟩
    · exact .inl h.symm
    · simp only [Value.ownBlock, Option.some.injEq] at hk
      subst hk
      exact .inr (by omega)

/-- The same as a law at the operation. -/
theorem wpList_append_que {P : Program} {w : World} {ops : Array Oper} {rest : List Oper} {o : Oper} {a : Act} {Q : Exit → Act → World → Prop} (hw : Region.wanted o (yielded ops a.tmps) = true) (s x : Operand) (t : TypeId)
    (ho : o.op = .call { callee := .builtin .append, args := #[s, x], argTypes := #[t, t] })
    (base : Nat) (e : TypeId) (i : TypeInfo) (z : Value) (size bytes : Nat) (ht : P.underlying t = some (.slice e)) (hi : P.info? e = some i) (hz : i.zero = some z)
    (hsize : i.size = size) (hby : i.bytes = bytes) (hzs : z.cells.size = size) (hsz : 0 < size)
    (v : Value) (n : Nat) (xs : List Value) (hs : a.eval s = v) (hown : QRow w base e size v n xs)
    (ax : Option Addr) (m c : Nat) (news : List Value) (hx : a.eval x = .slice ax m c) (hl : news.length = m * size) (hnil : ax = none → m = 0 ∧ c = 0) (hnews : CellsAt w ax news) (h1 : ∀ u ∈ news, u.oneCell' = true)
    (h63 : n + m ≤ maxLen) (hbytes : (n + m) * bytes ≤ 140737488355328) (hbase : base ≤ w.heap.size)
    (h : ∀ v' w', QRow w' base e size v' (n + m) (xs ++ news) → w.grownBy w' v.ownBlock → (v'.ownBlock = v.ownBlock ∨ ∃ k, v'.ownBlock = some k ∧ w.heap.size ≤ k) → wpList P ops Q rest (a.put o.dst v') w') :
    wpList P ops Q (o :: rest) a w := by
  obtain ⟨v', w', hr, h2, h3, h4⟩ := run_append_que (P := P) w base t o.type e i z size bytes ht hi hz hsize hby hzs hsz v n xs hown ax m c news hl hnil hnews h1 h63 hbytes hbase
  refine wpList_step (fun K hK => ?_)
  rw [if_pos hw]
  unfold Oper.wp execOp
  simp only [ho, resolve, invoke, builtin, Sem.run_bind, Sem.run_pure, Result.andThen_ok, List.map_toArray, List.map_cons, List.map_nil, hs, hx, hr]
  exact hK _ _ (h v' w' h2 h3 h4)

end Go.Proofs.Yteaglbfodeineaa
