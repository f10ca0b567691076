/- More closed facts of the row of FnExactTileTrue. -/
import Derived.WalkKit
import Derived.ProofKit
import Derived.JoinedOf
import Derived.Test.YteleedlkdadogaaGreatProg
import Derived.Test.YteleedlkdadogaaGreatRows
import Derived.KernelRfl
namespace Go.Proofs.YteleedlkdadogaaGreat.Facts
open Go.ChangeShapes Go.WideShapes Go.ChangeAt Go.RowKit
theorem fnExactTileTrueInPlace : (Rows.fnExactTileTrueRow.inPlace == Tryz.prog.inPlace 6) = true := by kernel_rfl
theorem fnExactTileTrueUnfollowed : (Rows.fnExactTileTrueRow.unfollowed == Tryz.prog.unfollowed 6) = true := by kernel_rfl
theorem fnExactTileTrueRecurses : (Rows.fnExactTileTrueRow.recurses == Tryz.prog.recurses 6) = true := by kernel_rfl
theorem fnExactTileTrueNamed : (Rows.fnExactTileTrueRow.named == Tryz.prog.varsNamed 6) = true := by kernel_rfl
end Go.Proofs.YteleedlkdadogaaGreat.Facts
