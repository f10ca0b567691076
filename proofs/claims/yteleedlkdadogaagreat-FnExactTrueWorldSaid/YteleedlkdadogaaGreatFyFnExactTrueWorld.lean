/- More closed facts of the row of FnExactTrueWorld. -/
import Derived.WalkKit
import Derived.ProofKit
import Derived.JoinedOf
import Derived.Test.YteleedlkdadogaaGreatProg
import Derived.Test.YteleedlkdadogaaGreatRows
import Derived.KernelRfl
namespace Go.Proofs.YteleedlkdadogaaGreat.Facts
open Go.ChangeShapes Go.WideShapes Go.ChangeAt Go.RowKit
theorem fnExactTrueWorldInPlace : (Rows.fnExactTrueWorldRow.inPlace == Tryz.prog.inPlace 9) = true := by kernel_rfl
theorem fnExactTrueWorldUnfollowed : (Rows.fnExactTrueWorldRow.unfollowed == Tryz.prog.unfollowed 9) = true := by kernel_rfl
theorem fnExactTrueWorldRecurses : (Rows.fnExactTrueWorldRow.recurses == Tryz.prog.recurses 9) = true := by kernel_rfl
theorem fnExactTrueWorldNamed : (Rows.fnExactTrueWorldRow.named == Tryz.prog.varsNamed 9) = true := by kernel_rfl
end Go.Proofs.YteleedlkdadogaaGreat.Facts
