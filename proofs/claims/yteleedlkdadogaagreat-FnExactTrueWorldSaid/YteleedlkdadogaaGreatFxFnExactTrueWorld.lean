/- Closed facts of the row of FnExactTrueWorld. -/
import Derived.WalkKit
import Derived.ProofKit
import Derived.JoinedOf
import Derived.Test.YteleedlkdadogaaGreatProg
import Derived.Test.YteleedlkdadogaaGreatRows
import Derived.KernelRfl
namespace Go.Proofs.YteleedlkdadogaaGreat.Facts
open Go.ChangeShapes Go.WideShapes Go.ChangeAt Go.RowKit
theorem fnExactTrueWorldPlain : (Rows.fnExactTrueWorldRow.plainKeys == Tryz.prog.plainKeys) = true := by kernel_rfl
theorem fnExactTrueWorldLifts : (Rows.fnExactTrueWorldRow.lifted == Tryz.prog.liftsFinal) = true := by kernel_rfl
theorem fnExactTrueWorldMake : (Tryz.prog.make == some Rows.fnExactTrueWorldRow.make) = true := by kernel_rfl
end Go.Proofs.YteleedlkdadogaaGreat.Facts
