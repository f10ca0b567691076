/- Closed facts of the program, 2. -/
import Derived.WalkKit
import Derived.ProofKit
import Derived.JoinedOf
import Derived.Test.YteleedlkdadogaaGreatProg
import Derived.KernelRfl
namespace Go.Proofs.YteleedlkdadogaaGreat.Facts
open Go.ChangeShapes Go.WideShapes Go.ChangeAt Go.RowKit
theorem heard : Tryz.prog.stopsHeard = true := by kernel_rfl
theorem may : Tryz.prog.mayEnter = true := by kernel_rfl
end Go.Proofs.YteleedlkdadogaaGreat.Facts
