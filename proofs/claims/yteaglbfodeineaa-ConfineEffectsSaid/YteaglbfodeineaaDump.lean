/-
  A dump that came in: what its cells hold, in words.
-/
import Derived.Test.YteaglbfodeineaaChecked
import Derived.Test.YteaglbfodeineaaRead
namespace Go.Proofs.Yteaglbfodeineaa
open Go.RowKit Go.ChangeShapes Go.WideShapes Go.Deep

structure ProcV where
  (pid parent : Int)
  lives : Bool
  code : Int
  (pd cap : Bool)
  cwd : Int
structure PassedV where
  (file rights : Int)
  all : Bool
  l : Sl Int
  fcntls : Int
structure HeldV where
  (pid fd : Int)
  slot : PassedV
structure FileV where
  (id kind obj off flags refs : Int)
structure PipeV where
  id : Int
  (reads writes : Bool)
  b : ByteArray
structure PartV where
  b : Sl Int
  l : Sl PassedV
structure SockV where
  (id state peer bound most : Int)
  waits : Sl Int
  (shutR shutW : Bool)
  parts : Sl PartV
structure InodeV where
  (ino kind links holds parent : Int)
  text : ByteArray
  blocks : Int
  names : Sl ByteArray
  inos : Sl Int

structure DumpV where
  procs : Sl ProcV
  held : Sl HeldV
  parks : Sl Unit
  files : Sl FileV
  pipes : Sl PipeV
  socks : Sl SockV
  inodes : Sl InodeV
  (n0 n1 n2 n3 n4 : Int)

def I64 (n : Int) : Prop := (Lit.int .i64 n).wf = true

def RProc : World → List Value → ProcV → Prop := fun _ cs p =>
  cs = [.int .i64 p.pid, .int .i64 p.parent, .bool p.lives, .int .i64 p.code, .bool p.pd, .bool p.cap, .int .i64 p.cwd] ∧ I64 p.pid ∧ I64 p.cwd
def PassedV.cells (p : PassedV) : List Value := [.int .i64 p.file, .int .u32 p.rights, .bool p.all, p.l.v, .int .i64 p.fcntls]
def RPassed : World → List Value → PassedV → Prop := fun w cs p => cs = p.cells ∧ I64 p.file ∧ RSl 1 (RInt .i64) w p.l
def RHeld : World → List Value → HeldV → Prop := fun w cs h =>
  cs = .int .i64 h.pid :: .int .i64 h.fd :: h.slot.cells ∧ I64 h.pid ∧ I64 h.slot.file ∧ RSl 1 (RInt .i64) w h.slot.l
def RFile : World → List Value → FileV → Prop := fun _ cs f =>
  cs = [.int .i64 f.id, .int .i64 f.kind, .int .i64 f.obj, .int .i64 f.off, .int .i64 f.flags, .int .i64 f.refs] ∧ I64 f.id ∧ I64 f.kind ∧ I64 f.obj
def RPipe : World → List Value → PipeV → Prop := fun _ cs p =>
  cs = [.int .i64 p.id, .bool p.reads, .bool p.writes, .string p.b] ∧ I64 p.id ∧ p.b.size ≤ maxLen
def RPart : World → List Value → PartV → Prop := fun w cs p => cs = [p.b.v, p.l.v] ∧ RSl 1 (RInt .u8) w p.b ∧ RSl 5 RPassed w p.l
def RSock : World → List Value → SockV → Prop := fun w cs s =>
  cs = [.int .i64 s.id, .int .i64 s.state, .int .i64 s.peer, .int .i64 s.bound, .int .i64 s.most, s.waits.v, .bool s.shutR, .bool s.shutW, s.parts.v] ∧
  (I64 s.id ∧ I64 s.peer ∧ I64 s.bound) ∧ RSl 1 (RInt .i64) w s.waits ∧ RSl 2 RPart w s.parts
def RInode : World → List Value → InodeV → Prop := fun w cs i =>
  cs = [.int .i64 i.ino, .int .i64 i.kind, .int .i64 i.links, .int .i64 i.holds, .int .i64 i.parent, .string i.text, .int .i64 i.blocks, i.names.v, i.inos.v] ∧
  I64 i.ino ∧ RSl 1 RStr w i.names ∧ RSl 1 (RInt .i64) w i.inos

structure RDump (w : World) (D : DumpV) : Prop where
  procs : RSl 7 RProc w D.procs
  held : RSl 7 RHeld w D.held
  files : RSl 6 RFile w D.files
  pipes : RSl 4 RPipe w D.pipes
  socks : RSl 9 RSock w D.socks
  inodes : RSl 9 RInode w D.inodes

def DumpV.cells (D : DumpV) : List Value :=
  [D.procs.v, D.held.v, D.parks.v, D.files.v, D.pipes.v, D.socks.v, D.inodes.v, .int .i64 D.n0, .int .i64 D.n1, .int .i64 D.n2, .int .i64 D.n3, .int .i64 D.n4]
def DumpV.v (D : DumpV) : Value := .agg D.cells.toArray

theorem stays_proc : Stays RProc := fun _ _ _ _ _ h => h
theorem stays_file : Stays RFile := fun _ _ _ _ _ h => h
theorem stays_pipe : Stays RPipe := fun _ _ _ _ _ h => h
theorem stays_passed : Stays RPassed := fun _ _ _ _ ht h => ⟨h.1, h.2.1, h.2.2.stays (stays_int _) ht⟩
theorem stays_held : Stays RHeld := fun _ _ _ _ ht h => ⟨h.1, h.2.1, h.2.2.1, h.2.2.2.stays (stays_int _) ht⟩
theorem stays_part : Stays RPart := fun _ _ _ _ ht h => ⟨h.1, h.2.1.stays (stays_int _) ht, h.2.2.stays stays_passed ht⟩
theorem stays_sock : Stays RSock := fun _ _ _ _ ht h => ⟨h.1, h.2.1, h.2.2.1.stays (stays_int _) ht, h.2.2.2.stays stays_part ht⟩
theorem stays_inode : Stays RInode := fun _ _ _ _ ht h => ⟨h.1, h.2.1, h.2.2.1.stays stays_str ht, h.2.2.2.stays (stays_int _) ht⟩

theorem RDump.stays {w w' : World} {D : DumpV} (h : RDump w D) (ht : Turned [] w w') : RDump w' D :=
  ⟨h.procs.stays stays_proc ht, h.held.stays stays_held ht, h.files.stays stays_file ht, h.pipes.stays stays_pipe ht, h.socks.stays stays_sock ht, h.inodes.stays stays_inode ht⟩

section
variable {H : Type} {enc : TypeId × Value → H} {w : World}

theorem Try.c3 : Try.prog.cellsOf 3 = 1 := by kernel_rfl
theorem Try.c4 : Try.prog.cellsOf 4 = 1 := by kernel_rfl
theorem Try.c5 : Try.prog.cellsOf 5 = 1 := by kernel_rfl
theorem Try.c9 : Try.prog.cellsOf 9 = 1 := by kernel_rfl
theorem Try.c26 : Try.prog.cellsOf 26 = 1 := by kernel_rfl
theorem Try.c60 : Try.prog.cellsOf 60 = 1 := by kernel_rfl
theorem Try.c61 : Try.prog.cellsOf 61 = 1 := by kernel_rfl
theorem Try.c63 : Try.prog.cellsOf 63 = 2 := by kernel_rfl
theorem Try.c65 : Try.prog.cellsOf 65 = 5 := by kernel_rfl
theorem Try.c67 : Try.prog.cellsOf 67 = 7 := by kernel_rfl
theorem Try.c75 : Try.prog.cellsOf 75 = 1 := by kernel_rfl
theorem Try.c77 : Try.prog.cellsOf 77 = 9 := by kernel_rfl
theorem Try.c78 : Try.prog.cellsOf 78 = 1 := by kernel_rfl
theorem Try.c80 : Try.prog.cellsOf 80 = 2 := by kernel_rfl
theorem Try.c82 : Try.prog.cellsOf 82 = 7 := by kernel_rfl
theorem Try.c84 : Try.prog.cellsOf 84 = 4 := by kernel_rfl
theorem Try.c85 : Try.prog.cellsOf 85 = 1 := by kernel_rfl
theorem Try.c87 : Try.prog.cellsOf 87 = 9 := by kernel_rfl
theorem Try.c120 : Try.prog.cellsOf 120 = 5 := by kernel_rfl
theorem Try.c124 : Try.prog.cellsOf 124 = 6 := by kernel_rfl

/-- A struct's field i, of type t and n cells from place o on, is some y of which R holds. -/
theorem field_down {α : Type} {T t : TypeId} {fs : Array Field} {R : World → List Value → α → Prop} (hs : Try.prog.underlying T = some (.struct fs)) (hR : Down enc Try.prog w t R)
    {fuel : Nat} {cs : List Value} {x : DataW H × List MemPlace} (h : DataW.trod enc Try.prog w 0 (fun _ => true) true fuel T cs = some x) (i : Nat) (f : Field) (hf : fs[i]? = some f) (o n : Nat)
    (ht : f.type = t) (ho : f.offset = o) (hn : Try.prog.cellsOf t = n) : ∃ y, R w ((cs.drop o).take n) y := by
  obtain ⟨xs, m, _, _, _, hxs, hg⟩ := DataW.trod_struct hs h
  subst ht; subst ho; subst hn
  have hi : i < fs.size := (Array.getElem?_eq_some_iff.1 hf).1
  have h1 := hg i f hf
  rw [List.getElem?_eq_getElem (show i < xs.length by omega)] at h1
  exact hR _ _ _ h1

theorem struct_len {T : TypeId} {fs : Array Field} (hs : Try.prog.underlying T = some (.struct fs)) {fuel : Nat} {cs : List Value} {x : DataW H × List MemPlace}
    (h : DataW.trod enc Try.prog w 0 (fun _ => true) true fuel T cs = some x) (n : Nat) (hn : Try.prog.cellsOf T = n) : cs.length = n := by
  obtain ⟨xs, m, _, _, hl, _⟩ := DataW.trod_struct hs h
  rw [hl, hn]

theorem down_i : Down enc Try.prog w 3 (RInt .i64) := down_int Try.underlying3
theorem down_b : Down enc Try.prog w 4 RBool := down_bool Try.underlying4
theorem down_is : Down enc Try.prog w 61 (RSlv 1 (RInt .i64)) := down_slice Try.underlying61 Try.c3 (by omega) down_i
theorem down_bs : Down enc Try.prog w 26 (RSlv 1 (RInt .u8)) := down_slice Try.underlying26 Try.c5 (by omega) (down_int Try.underlying5)
theorem down_ss : Down enc Try.prog w 85 (RSlv 1 RStr) := down_slice Try.underlying85 Try.c9 (by omega) (down_str Try.underlying9)

set_option maxRecDepth 100000 in
theorem down_proc : Down enc Try.prog w 82 RProc := fun fuel cs x h => by
  have hl := struct_len Try.underlying82 h 7 Try.c82
  obtain ⟨a0, h0, w0⟩ := field_down Try.underlying82 down_i h 0 _ rfl 0 1 rfl rfl Try.c3
  obtain ⟨a1, h1, w1⟩ := field_down Try.underlying82 down_i h 1 _ rfl 1 1 rfl rfl Try.c3
  obtain ⟨a2, h2⟩ := field_down Try.underlying82 down_b h 2 _ rfl 2 1 rfl rfl Try.c4
  obtain ⟨a3, h3, w3⟩ := field_down Try.underlying82 down_i h 3 _ rfl 3 1 rfl rfl Try.c3
  obtain ⟨a4, h4⟩ := field_down Try.underlying82 down_b h 4 _ rfl 4 1 rfl rfl Try.c4
  obtain ⟨a5, h5⟩ := field_down Try.underlying82 down_b h 5 _ rfl 5 1 rfl rfl Try.c4
  obtain ⟨a6, h6, w6⟩ := field_down Try.underlying82 down_i h 6 _ rfl 6 1 rfl rfl Try.c3
  match cs, hl with
  | [c0, c1, c2, c3, c4, c5, c6], _ =>
    simp [RBool] at h0 h1 h2 h3 h4 h5 h6
    exact ⟨⟨a0, a1, a2, a3, a4, a5, a6⟩, by rw [h0, h1, h2, h3, h4, h5, h6], w0, w6⟩

/-- A whitelist: whether all, and a slice. -/
def RList : World → List Value → Bool × Sl Int → Prop := fun w cs y => cs = [.bool y.1, y.2.v] ∧ RSl 1 (RInt .i64) w y.2

set_option maxRecDepth 100000 in
theorem down_list : Down enc Try.prog w 63 RList := fun fuel cs x h => by
  have hl := struct_len Try.underlying63 h 2 Try.c63
  obtain ⟨a0, h0⟩ := field_down Try.underlying63 down_b h 0 _ rfl 0 1 rfl rfl Try.c4
  obtain ⟨a1, h1, w1⟩ := field_down Try.underlying63 down_is h 1 _ rfl 1 1 rfl rfl Try.c61
  match cs, hl with
  | [c0, c1], _ =>
    simp [RBool] at h0 h1
    exact ⟨(a0, a1), by rw [h0, h1], w1⟩

theorem down_r : Down enc Try.prog w 60 (RInt .u32) := down_int Try.underlying60

set_option maxRecDepth 100000 in
theorem down_passed : Down enc Try.prog w 120 RPassed := fun fuel cs x h => by
  have hl := struct_len Try.underlying120 h 5 Try.c120
  obtain ⟨a0, h0, w0⟩ := field_down Try.underlying120 down_i h 0 _ rfl 0 1 rfl rfl Try.c3
  obtain ⟨a1, h1, _⟩ := field_down Try.underlying120 down_r h 1 _ rfl 1 1 rfl rfl Try.c60
  obtain ⟨a2, h2, w2⟩ := field_down Try.underlying120 down_list h 2 _ rfl 2 2 rfl rfl Try.c63
  obtain ⟨a3, h3, _⟩ := field_down Try.underlying120 down_i h 3 _ rfl 4 1 rfl rfl Try.c3
  match cs, hl with
  | [c0, c1, c2, c3, c4], _ =>
    simp at h0 h1 h2 h3
    exact ⟨⟨a0, a1, a2.1, a2.2, a3⟩, by rw [h0, h1, h2.1, h2.2, h3]; rfl, w0, w2⟩

set_option maxRecDepth 100000 in
theorem down_slot : Down enc Try.prog w 65 RPassed := fun fuel cs x h => by
  have hl := struct_len Try.underlying65 h 5 Try.c65
  obtain ⟨a0, h0, w0⟩ := field_down Try.underlying65 down_i h 0 _ rfl 0 1 rfl rfl Try.c3
  obtain ⟨a1, h1, _⟩ := field_down Try.underlying65 down_r h 1 _ rfl 1 1 rfl rfl Try.c60
  obtain ⟨a2, h2, w2⟩ := field_down Try.underlying65 down_list h 2 _ rfl 2 2 rfl rfl Try.c63
  obtain ⟨a3, h3, _⟩ := field_down Try.underlying65 down_i h 3 _ rfl 4 1 rfl rfl Try.c3
  match cs, hl with
  | [c0, c1, c2, c3, c4], _ =>
    simp at h0 h1 h2 h3
    exact ⟨⟨a0, a1, a2.1, a2.2, a3⟩, by rw [h0, h1, h2.1, h2.2, h3]; rfl, w0, w2⟩

set_option maxRecDepth 100000 in
theorem down_held : Down enc Try.prog w 67 RHeld := fun fuel cs x h => by
  have hl := struct_len Try.underlying67 h 7 Try.c67
  obtain ⟨a0, h0, w0⟩ := field_down Try.underlying67 down_i h 0 _ rfl 0 1 rfl rfl Try.c3
  obtain ⟨a1, h1, _⟩ := field_down Try.underlying67 down_i h 1 _ rfl 1 1 rfl rfl Try.c3
  obtain ⟨a2, h2, w2, w3⟩ := field_down Try.underlying67 down_slot h 2 _ rfl 2 5 rfl rfl Try.c65
  match cs, hl with
  | [c0, c1, c2, c3, c4, c5, c6], _ =>
    simp at h0 h1 h2
    exact ⟨⟨a0, a1, a2⟩, by rw [h0, h1, h2], w0, w2, w3⟩

set_option maxRecDepth 100000 in
theorem down_file : Down enc Try.prog w 124 RFile := fun fuel cs x h => by
  have hl := struct_len Try.underlying124 h 6 Try.c124
  obtain ⟨a0, h0, w0⟩ := field_down Try.underlying124 down_i h 0 _ rfl 0 1 rfl rfl Try.c3
  obtain ⟨a1, h1, w1⟩ := field_down Try.underlying124 down_i h 1 _ rfl 1 1 rfl rfl Try.c3
  obtain ⟨a2, h2, w2⟩ := field_down Try.underlying124 down_i h 2 _ rfl 2 1 rfl rfl Try.c3
  obtain ⟨a3, h3, _⟩ := field_down Try.underlying124 down_i h 3 _ rfl 3 1 rfl rfl Try.c3
  obtain ⟨a4, h4, _⟩ := field_down Try.underlying124 down_i h 4 _ rfl 4 1 rfl rfl Try.c3
  obtain ⟨a5, h5, _⟩ := field_down Try.underlying124 down_i h 5 _ rfl 5 1 rfl rfl Try.c3
  match cs, hl with
  | [c0, c1, c2, c3, c4, c5], _ =>
    simp at h0 h1 h2 h3 h4 h5
    exact ⟨⟨a0, a1, a2, a3, a4, a5⟩, by rw [h0, h1, h2, h3, h4, h5], w0, w1, w2⟩

set_option maxRecDepth 100000 in
theorem down_pipe : Down enc Try.prog w 84 RPipe := fun fuel cs x h => by
  have hl := struct_len Try.underlying84 h 4 Try.c84
  obtain ⟨a0, h0, w0⟩ := field_down Try.underlying84 down_i h 0 _ rfl 0 1 rfl rfl Try.c3
  obtain ⟨a1, h1⟩ := field_down Try.underlying84 down_b h 1 _ rfl 1 1 rfl rfl Try.c4
  obtain ⟨a2, h2⟩ := field_down Try.underlying84 down_b h 2 _ rfl 2 1 rfl rfl Try.c4
  obtain ⟨a3, h3, w3⟩ := field_down Try.underlying84 (down_str Try.underlying9) h 3 _ rfl 3 1 rfl rfl Try.c9
  match cs, hl with
  | [c0, c1, c2, c3], _ =>
    simp [RBool] at h0 h1 h2 h3
    exact ⟨⟨a0, a1, a2, a3⟩, by rw [h0, h1, h2, h3], w0, w3⟩

set_option maxRecDepth 100000 in
theorem down_part : Down enc Try.prog w 80 RPart := fun fuel cs x h => by
  have hl := struct_len Try.underlying80 h 2 Try.c80
  obtain ⟨a0, h0, w0⟩ := field_down Try.underlying80 down_bs h 0 _ rfl 0 1 rfl rfl Try.c26
  obtain ⟨a1, h1, w1⟩ := field_down Try.underlying80 (down_slice Try.underlying78 Try.c120 (by omega) down_passed) h 1 _ rfl 1 1 rfl rfl Try.c78
  match cs, hl with
  | [c0, c1], _ =>
    simp at h0 h1
    exact ⟨⟨a0, a1⟩, by rw [h0, h1], w0, w1⟩

set_option maxRecDepth 100000 in
theorem down_sock : Down enc Try.prog w 77 RSock := fun fuel cs x h => by
  have hl := struct_len Try.underlying77 h 9 Try.c77
  obtain ⟨a0, h0, w0⟩ := field_down Try.underlying77 down_i h 0 _ rfl 0 1 rfl rfl Try.c3
  obtain ⟨a1, h1, _⟩ := field_down Try.underlying77 down_i h 1 _ rfl 1 1 rfl rfl Try.c3
  obtain ⟨a2, h2, w2⟩ := field_down Try.underlying77 down_i h 2 _ rfl 2 1 rfl rfl Try.c3
  obtain ⟨a3, h3, w3⟩ := field_down Try.underlying77 down_i h 3 _ rfl 3 1 rfl rfl Try.c3
  obtain ⟨a4, h4, _⟩ := field_down Try.underlying77 down_i h 4 _ rfl 4 1 rfl rfl Try.c3
  obtain ⟨a5, h5, w5⟩ := field_down Try.underlying77 down_is h 5 _ rfl 5 1 rfl rfl Try.c61
  obtain ⟨a6, h6⟩ := field_down Try.underlying77 down_b h 6 _ rfl 6 1 rfl rfl Try.c4
  obtain ⟨a7, h7⟩ := field_down Try.underlying77 down_b h 7 _ rfl 7 1 rfl rfl Try.c4
  obtain ⟨a8, h8, w8⟩ := field_down Try.underlying77 (down_slice Try.underlying75 Try.c80 (by omega) down_part) h 8 _ rfl 8 1 rfl rfl Try.c75
  match cs, hl with
  | [c0, c1, c2, c3, c4, c5, c6, c7, c8], _ =>
    simp [RBool] at h0 h1 h2 h3 h4 h5 h6 h7 h8
    exact ⟨⟨a0, a1, a2, a3, a4, a5, a6, a7, a8⟩, by rw [h0, h1, h2, h3, h4, h5, h6, h7, h8], ⟨w0, w2, w3⟩, w5, w8⟩

set_option maxRecDepth 100000 in
theorem down_inode : Down enc Try.prog w 87 RInode := fun fuel cs x h => by
  have hl := struct_len Try.underlying87 h 9 Try.c87
  obtain ⟨a0, h0, w0⟩ := field_down Try.underlying87 down_i h 0 _ rfl 0 1 rfl rfl Try.c3
  obtain ⟨a1, h1, _⟩ := field_down Try.underlying87 down_i h 1 _ rfl 1 1 rfl rfl Try.c3
  obtain ⟨a2, h2, _⟩ := field_down Try.underlying87 down_i h 2 _ rfl 2 1 rfl rfl Try.c3
  obtain ⟨a3, h3, _⟩ := field_down Try.underlying87 down_i h 3 _ rfl 3 1 rfl rfl Try.c3
  obtain ⟨a4, h4, _⟩ := field_down Try.underlying87 down_i h 4 _ rfl 4 1 rfl rfl Try.c3
  obtain ⟨a5, h5, _⟩ := field_down Try.underlying87 (down_str Try.underlying9) h 5 _ rfl 5 1 rfl rfl Try.c9
  obtain ⟨a6, h6, _⟩ := field_down Try.underlying87 down_i h 6 _ rfl 6 1 rfl rfl Try.c3
  obtain ⟨a7, h7, w7⟩ := field_down Try.underlying87 down_ss h 7 _ rfl 7 1 rfl rfl Try.c85
  obtain ⟨a8, h8, w8⟩ := field_down Try.underlying87 down_is h 8 _ rfl 8 1 rfl rfl Try.c61
  match cs, hl with
  | [c0, c1, c2, c3, c4, c5, c6, c7, c8], _ =>
    simp at h0 h1 h2 h3 h4 h5 h6 h7 h8
    exact ⟨⟨a0, a1, a2, a3, a4, a5, a6, a7, a8⟩, by rw [h0, h1, h2, h3, h4, h5, h6, h7, h8], w0, w7, w8⟩

theorem Try.c174 : Try.prog.cellsOf 174 = 10 := by kernel_rfl
theorem Try.c39 : Try.prog.cellsOf 39 = 1 := by kernel_rfl
theorem Try.c40 : Try.prog.cellsOf 40 = 1 := by kernel_rfl
theorem Try.c41 : Try.prog.cellsOf 41 = 1 := by kernel_rfl
theorem Try.c42 : Try.prog.cellsOf 42 = 1 := by kernel_rfl
theorem Try.c43 : Try.prog.cellsOf 43 = 1 := by kernel_rfl
theorem Try.c44 : Try.prog.cellsOf 44 = 1 := by kernel_rfl
theorem Try.c45 : Try.prog.cellsOf 45 = 1 := by kernel_rfl
theorem Try.c46 : Try.prog.cellsOf 46 = 5 := by kernel_rfl
theorem Try.c48 : Try.prog.cellsOf 48 = 12 := by kernel_rfl

def RUnit : World → List Value → Unit → Prop := fun _ _ _ => True
theorem down_unit (t : TypeId) : Down enc Try.prog w t RUnit := fun _ _ _ _ => ⟨(), trivial⟩

def RFive : World → List Value → Int × Int × Int × Int × Int → Prop := fun _ cs y => cs = [.int .i64 y.1, .int .i64 y.2.1, .int .i64 y.2.2.1, .int .i64 y.2.2.2.1, .int .i64 y.2.2.2.2]

set_option maxRecDepth 100000 in
theorem down_five : Down enc Try.prog w 46 RFive := fun fuel cs x h => by
  obtain ⟨xs, n, _, _, hlen, hxs, hg⟩ := DataW.trod_array Try.underlying46 h
  rw [Try.c46] at hlen
  rw [Try.c3] at hg
  have key : ∀ i, i < 5 → ∃ y, RInt .i64 w ((cs.drop (i * 1)).take 1) y := fun i hi => by
    have h1 := hg i hi
    rw [List.getElem?_eq_getElem (show i < xs.length by omega)] at h1
    exact down_i _ _ _ h1
  obtain ⟨a0, h0, _⟩ := key 0 (by omega)
  obtain ⟨a1, h1, _⟩ := key 1 (by omega)
  obtain ⟨a2, h2, _⟩ := key 2 (by omega)
  obtain ⟨a3, h3, _⟩ := key 3 (by omega)
  obtain ⟨a4, h4, _⟩ := key 4 (by omega)
  match cs, hlen with
  | [c0, c1, c2, c3, c4], _ =>
    simp at h0 h1 h2 h3 h4
    exact ⟨(a0, a1, a2, a3, a4), by rw [h0, h1, h2, h3, h4]; rfl⟩

set_option maxRecDepth 100000 in
theorem down_dump : Down enc Try.prog w 48 (fun w cs D => cs = D.cells ∧ RDump w D) := fun fuel cs x h => by
  have hl := struct_len Try.underlying48 h 12 Try.c48
  obtain ⟨a0, h0, w0⟩ := field_down Try.underlying48 (down_slice Try.underlying39 Try.c82 (by omega) down_proc) h 0 _ rfl 0 1 rfl rfl Try.c39
  obtain ⟨a1, h1, w1⟩ := field_down Try.underlying48 (down_slice Try.underlying40 Try.c67 (by omega) down_held) h 1 _ rfl 1 1 rfl rfl Try.c40
  obtain ⟨a2, h2, w2⟩ := field_down Try.underlying48 (down_slice Try.underlying41 Try.c174 (by omega) (down_unit 174)) h 2 _ rfl 2 1 rfl rfl Try.c41
  obtain ⟨a3, h3, w3⟩ := field_down Try.underlying48 (down_slice Try.underlying42 Try.c124 (by omega) down_file) h 3 _ rfl 3 1 rfl rfl Try.c42
  obtain ⟨a4, h4, w4⟩ := field_down Try.underlying48 (down_slice Try.underlying43 Try.c84 (by omega) down_pipe) h 4 _ rfl 4 1 rfl rfl Try.c43
  obtain ⟨a5, h5, w5⟩ := field_down Try.underlying48 (down_slice Try.underlying44 Try.c77 (by omega) down_sock) h 5 _ rfl 5 1 rfl rfl Try.c44
  obtain ⟨a6, h6, w6⟩ := field_down Try.underlying48 (down_slice Try.underlying45 Try.c87 (by omega) down_inode) h 6 _ rfl 6 1 rfl rfl Try.c45
  obtain ⟨a7, h7⟩ := field_down Try.underlying48 down_five h 7 _ rfl 7 5 rfl rfl Try.c46
  match cs, hl with
  | [c0, c1, c2, c3, c4, c5, c6, d0, d1, d2, d3, d4], _ =>
    simp [RFive] at h0 h1 h2 h3 h4 h5 h6 h7
    exact ⟨⟨a0, a1, a2, a3, a4, a5, a6, a7.1, a7.2.1, a7.2.2.1, a7.2.2.2.1, a7.2.2.2.2⟩, by rw [h0, h1, h2, h3, h4, h5, h6, h7.1, h7.2.1, h7.2.2.1, h7.2.2.2.1, h7.2.2.2.2]; rfl, w0, w1, w3, w4, w5, w6⟩

set_option maxRecDepth 100000 in
/-- The struct argument. -/
theorem dump_arg {r : Reach} {b0 : Nat} {v : Value} {d : DataW H} {p : List MemPlace} (hv : Value.okWide Try.prog w r b0 48 v) (h : DataW.Trod enc Try.prog w 0 (fun _ => true) true 48 v d p) :
    ∃ D : DumpV, v = D.v ∧ RDump w D := by
  obtain ⟨cs, rfl, hsz⟩ := okWide_struct Try.underlying48 hv
  obtain ⟨fuel, hf⟩ := h
  obtain ⟨D, h1, h2⟩ := down_dump _ _ _ hf
  refine ⟨D, ?_, h2⟩
  have h1' : cs.toList = D.cells := h1
  unfold DumpV.v
  rw [← h1']

end

end Go.Proofs.Yteaglbfodeineaa
