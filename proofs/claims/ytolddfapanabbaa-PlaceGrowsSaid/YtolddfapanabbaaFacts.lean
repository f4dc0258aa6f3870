/-
  Facts of this program's own tables: how points and rectangles are built and compared.
-/
import Derived.Test.YtolddfapanabbaaScalC
import Derived.Laws.StructEq
import Derived.Laws.Cover2
namespace Go.Proofs.Ytolddfapanabbaa
open Go.RowKit
set_option linter.unusedSimpArgs false
set_option linter.unusedVariables false

@[go_sem] theorem eq_spot (a b c d : Int) (w : World) : (Op.equalIn 10000 78 (.agg #[.int .i64 a, .int .i64 b]) (.agg #[.int .i64 c, .int .i64 d])).run Try.prog w = .ok (a == c && b == d) w := by
  have u3 := Try.underlying3
  have hS : Try.prog.underlying 78 = some (.struct (Try.prog.fieldsOf 78)) := by kernel_rfl
  rw [show (10000 : Nat) = 9999 + 1 from rfl, run_equalIn_agg w 9999 78 _ _ hS (by kernel_rfl)]
  simp only [Program.fieldsOf, Try.underlying78]
  go_simp
  by_cases h1 : a = c <;> by_cases h2 : b = d <;> simp [h1, h2]

theorem eql_spot (a b c d : Int) (w : World) : (binOp .eql 78 (.agg #[.int .i64 a, .int .i64 b]) (.agg #[.int .i64 c, .int .i64 d])).run Try.prog w = .ok (.bool (a == c && b == d)) w := by
  rw [run_eql_struct, eq_spot]
  rfl
theorem neq_spot (a b c d : Int) (w : World) : (binOp .neq 78 (.agg #[.int .i64 a, .int .i64 b]) (.agg #[.int .i64 c, .int .i64 d])).run Try.prog w = .ok (.bool (!(a == c && b == d))) w := by
  rw [run_neq_struct, eq_spot]
  rfl

@[go_sem] theorem build_spot (a b : Int) (w : World) : (Instr.build 78 #[(0, .int .i64 a), (1, .int .i64 b)]).run Try.prog w = .ok (.agg #[.int .i64 a, .int .i64 b]) w := run_build w 78 _ _ (by kernel_rfl)
@[go_sem] theorem build_rect (a b c d : Int) (w : World) : (Instr.build 59 #[(0, .int .i64 a), (1, .int .i64 b), (2, .int .i64 c), (3, .int .i64 d)]).run Try.prog w = .ok (.agg #[.int .i64 a, .int .i64 b, .int .i64 c, .int .i64 d]) w := run_build w 59 _ _ (by kernel_rfl)
end Go.Proofs.Ytolddfapanabbaa
