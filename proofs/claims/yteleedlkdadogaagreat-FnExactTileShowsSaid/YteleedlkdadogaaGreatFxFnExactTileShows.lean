/- Closed facts of the row of FnExactTileShows. -/
import Derived.WalkKit
import Derived.ProofKit
import Derived.JoinedOf
import Derived.Test.YteleedlkdadogaaGreatProg
import Derived.Test.YteleedlkdadogaaGreatRows
import Derived.KernelRfl
namespace Go.Proofs.YteleedlkdadogaaGreat.Facts
open Go.ChangeShapes Go.WideShapes Go.ChangeAt Go.RowKit
theorem fnExactTileShowsPlain : (Rows.fnExactTileShowsRow.plainKeys == Tryz.prog.plainKeys) = true := by kernel_rfl
theorem fnExactTileShowsLifts : (Rows.fnExactTileShowsRow.lifted == Tryz.prog.liftsFinal) = true := by kernel_rfl
theorem fnExactTileShowsMake : (Tryz.prog.make == some Rows.fnExactTileShowsRow.make) = true := by kernel_rfl
end Go.Proofs.YteleedlkdadogaaGreat.Facts
