/- More closed facts of the row of FnExactTileShows. -/
import Derived.WalkKit
import Derived.ProofKit
import Derived.JoinedOf
import Derived.Test.YteleedlkdadogaaGreatProg
import Derived.Test.YteleedlkdadogaaGreatRows
import Derived.KernelRfl
namespace Go.Proofs.YteleedlkdadogaaGreat.Facts
open Go.ChangeShapes Go.WideShapes Go.ChangeAt Go.RowKit
theorem fnExactTileShowsInPlace : (Rows.fnExactTileShowsRow.inPlace == Tryz.prog.inPlace 4) = true := by kernel_rfl
theorem fnExactTileShowsUnfollowed : (Rows.fnExactTileShowsRow.unfollowed == Tryz.prog.unfollowed 4) = true := by kernel_rfl
theorem fnExactTileShowsRecurses : (Rows.fnExactTileShowsRow.recurses == Tryz.prog.recurses 4) = true := by kernel_rfl
theorem fnExactTileShowsNamed : (Rows.fnExactTileShowsRow.named == Tryz.prog.varsNamed 4) = true := by kernel_rfl
end Go.Proofs.YteleedlkdadogaaGreat.Facts
