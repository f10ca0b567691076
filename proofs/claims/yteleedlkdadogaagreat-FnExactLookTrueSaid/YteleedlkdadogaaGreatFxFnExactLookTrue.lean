/- Closed facts of the row of FnExactLookTrue. -/
import Derived.WalkKit
import Derived.ProofKit
import Derived.JoinedOf
import Derived.Test.YteleedlkdadogaaGreatProg
import Derived.Test.YteleedlkdadogaaGreatRows
import Derived.KernelRfl
namespace Go.Proofs.YteleedlkdadogaaGreat.Facts
open Go.ChangeShapes Go.WideShapes Go.ChangeAt Go.RowKit
theorem fnExactLookTruePlain : (Rows.fnExactLookTrueRow.plainKeys == Tryz.prog.plainKeys) = true := by kernel_rfl
theorem fnExactLookTrueLifts : (Rows.fnExactLookTrueRow.lifted == Tryz.prog.liftsFinal) = true := by kernel_rfl
theorem fnExactLookTrueMake : (Tryz.prog.make == some Rows.fnExactLookTrueRow.make) = true := by kernel_rfl
end Go.Proofs.YteleedlkdadogaaGreat.Facts
