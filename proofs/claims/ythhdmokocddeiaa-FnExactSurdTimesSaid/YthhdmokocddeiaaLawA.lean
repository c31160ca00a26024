/- What a law's row asks of a struct of plain numbers that came in by value; the frame of a law. -/
import Derived.Test.YthhdmokocddeiaaKit
import Derived.Lib.SmallJoins
import Derived.ChangeOld
namespace Go.Proofs.Ythhdmokocddeiaa
open Go.ChangeShapes Go.WideShapes Go.ChangeAt Go.RowKit

theorem own : ownKnob Try.prog.godebug = none := by kernel_rfl
theorem laidOut : laidOutB Try.prog = true := by kernel_rfl

theorem bd {x : Int} (h : (Lit.int .i64 x).wf = true) : -9223372036854775808 ≤ x ∧ x ≤ 9223372036854775807 := by
  have := bounds_i64 h; exact this
end Go.Proofs.Ythhdmokocddeiaa
