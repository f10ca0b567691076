/- The law FnExactCountsOk answers true, whatever it is handed, and leaves what it was handed as it was: for every input, with no further condition. -/
import Derived.Test.YtbgmehmigckhdaaFw22
import Derived.Test.YtbgmehmigckhdaaPureFnExactCountsOk
import Derived.Test.YtbgmehmigckhdaaRows
namespace Go.Proofs.Ytbgmehmigckhdaa.fnExactCountsOk
open Go.ChangeShapes Go.WideShapes Go.ChangeAt Go.RowKit Go.Proofs.Ytbgmehmigckhdaa.Fw

theorem own : ownKnob Try.prog.godebug = none := by kernel_rfl
theorem laidOut : laidOutB Try.prog = true := by kernel_rfl

set_option maxRecDepth 100000 in
theorem lifted (os : Os) (started : os.Started) (H : Type) (enc : TypeId × Value → H) :
    ReturnsInHanded {} Try.checked os 4 .any (Rows.fnExactCountsOkSpec.pre6 enc Try.prog Try.f4 Rows.fnExactCountsOkRow.domain false) (Rows.fnExactCountsOkSpec.post enc Try.prog Try.f4 false true false false) := by
  refine returnsInHanded_of_change_sized (C := Try.checked) own started (by kernel_rfl) Try.func4
    (ChangeSpec.witness6 (enc := enc) (C := Try.checked) false ⟨#[], #[.agg #[.int .i64 0,  .bool false,  .bool false,  .bool false,  .int .i64 0,  .int .i64 0,  .int .i64 0,  .int .i64 0,  .slice none 0 0,  .slice none 0 0,  .slice none 0 0,  .slice none 0 0,  .slice none 0 0,  .slice none 0 0,  .int .i64 0,  .int .i64 0,  .bool false,  .slice none 0 0,  .slice none 0 0,  .slice none 0 0,  .bool false,  .bool false,  .bool false,  .int .i64 0,  .int .i64 0,  .slice none 0 0,  .slice none 0 0,  .int .i64 0,  .bool false,  .bool false,  .bool false,  .int .i64 0,  .int .i64 0,  .int .i64 0,  .int .i64 0,  .string ByteArray.empty,  .int .i64 0,  .int .i64 0,  .string ByteArray.empty,  .slice none 0 0,  .slice none 0 0,  .slice none 0 0,  .slice none 0 0], .int .i64 0], []⟩ 8 (by kernel_rfl) (by kernel_rfl) (by kernel_rfl) (by kernel_rfl)) ?_
  intro W base args ds gs before hval hW hcnd hsz _
  exact contract_of_law (P := Try.prog) laidOut (fn := Try.f4) (shs := [z58, z3]) (tb := 4) (by kernel_rfl) (by kernel_rfl) Try.underlying4 rfl (fun ds h => by match ds, h with | [_, _], _ => rfl) law hval hW

theorem over : Rows.fnExactCountsOkRow.holds Try.pinned (OpenSpec.ofChange Rows.fnExactCountsOkSpec) :=
  OpenClaim.holds_of_wide 4 Try.f4 rfl rfl rfl rfl rfl rfl rfl ⟨rfl, rfl, rfl, rfl, rfl⟩ rfl rfl rfl rfl rfl (by kernel_rfl) Try.func4 (by kernel_rfl)
    (of_decide_eq_true (by kernel_rfl)) (by unfold Func.isWrapper; first | (rw [if_pos (by decide +kernel)]; kernel_rfl) | (rw [if_neg (by decide +kernel)]; exact ⟨rfl, rfl⟩))
    (fun os started H enc _ => lifted os started H enc)
end Go.Proofs.Ytbgmehmigckhdaa.fnExactCountsOk
namespace Go.Proofs.Ytbgmehmigckhdaa

/-- The row, under a short name, for the claim. -/
theorem fnExactCountsOk_holds : Rows.FnExactCountsOkSaid := fnExactCountsOk.over

#print axioms fnExactCountsOk_holds
end Go.Proofs.Ytbgmehmigckhdaa
