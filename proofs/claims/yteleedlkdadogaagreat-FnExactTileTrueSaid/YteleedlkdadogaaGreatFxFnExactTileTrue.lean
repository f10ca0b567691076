/- Closed facts of the row of FnExactTileTrue. -/
import Derived.WalkKit
import Derived.ProofKit
import Derived.JoinedOf
import Derived.Test.YteleedlkdadogaaGreatProg
import Derived.Test.YteleedlkdadogaaGreatRows
import Derived.KernelRfl
namespace Go.Proofs.YteleedlkdadogaaGreat.Facts
open Go.ChangeShapes Go.WideShapes Go.ChangeAt Go.RowKit
theorem fnExactTileTruePlain : (Rows.fnExactTileTrueRow.plainKeys == Tryz.prog.plainKeys) = true := by kernel_rfl
theorem fnExactTileTrueLifts : (Rows.fnExactTileTrueRow.lifted == Tryz.prog.liftsFinal) = true := by kernel_rfl
theorem fnExactTileTrueMake : (Tryz.prog.make == some Rows.fnExactTileTrueRow.make) = true := by kernel_rfl
end Go.Proofs.YteleedlkdadogaaGreat.Facts
