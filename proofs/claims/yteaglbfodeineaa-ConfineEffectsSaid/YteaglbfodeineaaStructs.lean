/-
  '==' and '!=' on two structs of the program: things, pipes, processes.
-/
import Derived.Test.YteaglbfodeineaaChecked
import Derived.Test.YteaglbfodeineaaRead
import Derived.Laws.StructEq
namespace Go.Proofs.Yteaglbfodeineaa
open Go.RowKit

theorem equalIn_obj (w : World) (a b c d : Int) : (Op.equalIn 10000 70 (.agg #[.int .i64 a, .int .i64 b]) (.agg #[.int .i64 c, .int .i64 d])).run Try.prog w = .ok (a == c && b == d) w := by
  rw [run_equalIn_struct w 9999 70 _ _ (by kernel_rfl) (by kernel_rfl)]
  simp only [Program.fieldsOf, Try.underlying70]
  simp [Op.eqFields, part, isAgg, run_underlying Try.underlying3, run_equalIn_int _ _ 3 .i64 .i64 _ _ Try.underlying3]
  by_cases h1 : a = c <;> by_cases h2 : b = d <;> simp [h1, h2]

theorem eql_obj (w : World) (a b c d : Int) : (binOp .eql 70 (.agg #[.int .i64 a, .int .i64 b]) (.agg #[.int .i64 c, .int .i64 d])).run Try.prog w = .ok (.bool (a == c && b == d)) w := by
  rw [run_eql_struct, equalIn_obj]; rfl
theorem neq_obj (w : World) (a b c d : Int) : (binOp .neq 70 (.agg #[.int .i64 a, .int .i64 b]) (.agg #[.int .i64 c, .int .i64 d])).run Try.prog w = .ok (.bool (!(a == c && b == d))) w := by
  rw [run_neq_struct, equalIn_obj]; rfl

theorem equalIn_pipe (w : World) (a a' : Int) (b b' c c' : Bool) (s s' : ByteArray) :
    (Op.equalIn 10000 84 (.agg #[.int .i64 a, .bool b, .bool c, .string s]) (.agg #[.int .i64 a', .bool b', .bool c', .string s'])).run Try.prog w = .ok (a == a' && (b == b' && (c == c' && s == s'))) w := by
  rw [run_equalIn_struct w 9999 84 _ _ (by kernel_rfl) (by kernel_rfl)]
  simp only [Program.fieldsOf, Try.underlying84]
  simp [Op.eqFields, part, isAgg, run_underlying Try.underlying3, run_underlying Try.underlying4, run_underlying Try.underlying9, run_equalIn_int _ _ 3 .i64 .i64 _ _ Try.underlying3, run_equalIn_bool' _ _ 4 _ _ Try.underlying4, run_equalIn_string _ _ 9 _ _ Try.underlying9, beq_toListBytes]
  by_cases h1 : a = a' <;> by_cases h2 : b = b' <;> by_cases h3 : c = c' <;> by_cases h4 : s.toList = s'.toList <;> simp [h1, h2, h3, h4]

theorem eql_pipe (w : World) (a a' : Int) (b b' c c' : Bool) (s s' : ByteArray) :
    (binOp .eql 84 (.agg #[.int .i64 a, .bool b, .bool c, .string s]) (.agg #[.int .i64 a', .bool b', .bool c', .string s'])).run Try.prog w = .ok (.bool (a == a' && (b == b' && (c == c' && s == s')))) w := by
  rw [run_eql_struct, equalIn_pipe]; rfl
theorem neq_pipe (w : World) (a a' : Int) (b b' c c' : Bool) (s s' : ByteArray) :
    (binOp .neq 84 (.agg #[.int .i64 a, .bool b, .bool c, .string s]) (.agg #[.int .i64 a', .bool b', .bool c', .string s'])).run Try.prog w = .ok (.bool (!(a == a' && (b == b' && (c == c' && s == s'))))) w := by
  rw [run_neq_struct, equalIn_pipe]; rfl

theorem equalIn_proc (w : World) (a b d g a' b' d' g' : Int) (c e f c' e' f' : Bool) :
    (Op.equalIn 10000 82 (.agg #[.int .i64 a, .int .i64 b, .bool c, .int .i64 d, .bool e, .bool f, .int .i64 g]) (.agg #[.int .i64 a', .int .i64 b', .bool c', .int .i64 d', .bool e', .bool f', .int .i64 g'])).run Try.prog w =
      .ok (a == a' && (b == b' && (c == c' && (d == d' && (e == e' && (f == f' && g == g')))))) w := by
  rw [run_equalIn_struct w 9999 82 _ _ (by kernel_rfl) (by kernel_rfl)]
  simp only [Program.fieldsOf, Try.underlying82]
  simp [Op.eqFields, part, isAgg, run_underlying Try.underlying3, run_underlying Try.underlying4, run_equalIn_int _ _ 3 .i64 .i64 _ _ Try.underlying3, run_equalIn_bool' _ _ 4 _ _ Try.underlying4]
  by_cases h1 : a = a' <;> by_cases h2 : b = b' <;> by_cases h3 : c = c' <;> by_cases h4 : d = d' <;> by_cases h5 : e = e' <;> by_cases h6 : f = f' <;> by_cases h7 : g = g' <;> simp [h1, h2, h3, h4, h5, h6, h7]

theorem eql_proc (w : World) (a b d g a' b' d' g' : Int) (c e f c' e' f' : Bool) :
    (binOp .eql 82 (.agg #[.int .i64 a, .int .i64 b, .bool c, .int .i64 d, .bool e, .bool f, .int .i64 g]) (.agg #[.int .i64 a', .int .i64 b', .bool c', .int .i64 d', .bool e', .bool f', .int .i64 g'])).run Try.prog w =
      .ok (.bool (a == a' && (b == b' && (c == c' && (d == d' && (e == e' && (f == f' && g == g'))))))) w := by
  rw [run_eql_struct, equalIn_proc]; rfl
theorem neq_proc (w : World) (a b d g a' b' d' g' : Int) (c e f c' e' f' : Bool) :
    (binOp .neq 82 (.agg #[.int .i64 a, .int .i64 b, .bool c, .int .i64 d, .bool e, .bool f, .int .i64 g]) (.agg #[.int .i64 a', .int .i64 b', .bool c', .int .i64 d', .bool e', .bool f', .int .i64 g'])).run Try.prog w =
      .ok (.bool (!(a == a' && (b == b' && (c == c' && (d == d' && (e == e' && (f == f' && g == g')))))))) w := by
  rw [run_neq_struct, equalIn_proc]; rfl
end Go.Proofs.Yteaglbfodeineaa
