/- More closed facts of the row of FnExactLookTrue. -/
import Derived.WalkKit
import Derived.ProofKit
import Derived.JoinedOf
import Derived.Test.YteleedlkdadogaaGreatProg
import Derived.Test.YteleedlkdadogaaGreatRows
import Derived.KernelRfl
namespace Go.Proofs.YteleedlkdadogaaGreat.Facts
open Go.ChangeShapes Go.WideShapes Go.ChangeAt Go.RowKit
theorem fnExactLookTrueInPlace : (Rows.fnExactLookTrueRow.inPlace == Tryz.prog.inPlace 7) = true := by kernel_rfl
theorem fnExactLookTrueUnfollowed : (Rows.fnExactLookTrueRow.unfollowed == Tryz.prog.unfollowed 7) = true := by kernel_rfl
theorem fnExactLookTrueRecurses : (Rows.fnExactLookTrueRow.recurses == Tryz.prog.recurses 7) = true := by kernel_rfl
theorem fnExactLookTrueNamed : (Rows.fnExactLookTrueRow.named == Tryz.prog.varsNamed 7) = true := by kernel_rfl
end Go.Proofs.YteleedlkdadogaaGreat.Facts
