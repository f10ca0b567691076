/- The law FnExactTrueWorld answers true, whatever it is handed, and leaves what it was handed as it was: for every input, with no further condition. -/
import Derived.Test.YteleedlkdadogaaGreatFw22
import Derived.Test.YteleedlkdadogaaGreatLwTrueWorld
import Derived.Test.YteleedlkdadogaaGreatRows
import Derived.Test.YteleedlkdadogaaGreatFcA
import Derived.Test.YteleedlkdadogaaGreatFcB
import Derived.Test.YteleedlkdadogaaGreatFxFnExactTrueWorld
import Derived.Test.YteleedlkdadogaaGreatFyFnExactTrueWorld
namespace Go.Proofs.YteleedlkdadogaaGreat.fnExactTrueWorld
open Go.ChangeShapes Go.WideShapes Go.ChangeAt Go.RowKit Go.Proofs.YteleedlkdadogaaGreat.Fw Go.Proofs.YteleedlkdadogaaGreat.Facts

theorem own : ownKnob Tryz.prog.godebug = none := by kernel_rfl

set_option maxRecDepth 100000 in
theorem lifted (os : Os) (started : os.Started) (H : Type) (enc : TypeId × Value → H) :
    ReturnsInHanded {} Tryz.checked os 9 .any (Rows.fnExactTrueWorldSpec.pre6 enc Tryz.prog Tryz.f9 Rows.fnExactTrueWorldRow.domain false) (Rows.fnExactTrueWorldSpec.post enc Tryz.prog Tryz.f9 false true false false) := by
  refine returnsInHanded_of_change_sized (C := Tryz.checked) own started (by kernel_rfl) Tryz.func9
    (ChangeSpec.witness6 (enc := enc) (C := Tryz.checked) false ⟨#[], #[.agg #[.int .i64 0, .bool false, .bool false, .bool false, .int .i64 0, .int .i64 0, .int .i64 0, .int .i64 0, .slice none 0 0, .slice none 0 0, .slice none 0 0, .slice none 0 0, .slice none 0 0, .slice none 0 0, .int .i64 0, .int .i64 0, .bool false, .slice none 0 0, .slice none 0 0, .slice none 0 0, .bool false, .bool false, .bool false, .int .i64 0, .int .i64 0, .slice none 0 0, .slice none 0 0, .int .i64 0, .bool false, .bool false, .bool false, .int .i64 0, .int .i64 0, .int .i64 0, .int .i64 0, .string ByteArray.empty, .int .i64 0, .int .i64 0, .string ByteArray.empty, .slice none 0 0, .slice none 0 0, .slice none 0 0, .slice none 0 0]], []⟩ 8 (by kernel_rfl) (by kernel_rfl) (by kernel_rfl) (by kernel_rfl)) ?_
  intro W base args ds gs before hval hW hcnd hsz _
  exact contract_of_law (P := Tryz.prog) laidOut (fn := Tryz.f9) (shs := [z69]) (tb := 4) (by kernel_rfl) (by kernel_rfl) Tryz.underlying4 rfl (fun ds h => by match ds, h with | [_], _ => rfl) lawTrueWorld hval hW

theorem facts : joinedFacts Tryz.prog 9 Tryz.f9 Rows.fnExactTrueWorldSpec Rows.fnExactTrueWorldRow = true := by
  unfold joinedFacts
  simp only [Bool.and_eq_true]
  repeat' apply And.intro
  all_goals first
    | with_reducible exact laidOut
    | with_reducible exact mapsRow
    | with_reducible exact heard
    | with_reducible exact may
    | with_reducible exact fnExactTrueWorldPlain
    | with_reducible exact fnExactTrueWorldLifts
    | with_reducible exact fnExactTrueWorldMake
    | with_reducible exact fnExactTrueWorldInPlace
    | with_reducible exact fnExactTrueWorldUnfollowed
    | with_reducible exact fnExactTrueWorldRecurses
    | with_reducible exact fnExactTrueWorldNamed
    | kernel_rfl

theorem over : Rows.fnExactTrueWorldRow.holds Tryz.pinned (OpenSpec.ofChange Rows.fnExactTrueWorldSpec) :=
  OpenClaim.holds_of_wide 9 Tryz.f9 rfl rfl rfl rfl rfl rfl rfl ⟨rfl, rfl, rfl, rfl, rfl⟩ rfl rfl rfl rfl rfl (by kernel_rfl) Tryz.func9 facts
    (of_decide_eq_true (by kernel_rfl)) (by unfold Func.isWrapper; first | (rw [if_pos (by decide +kernel)]; kernel_rfl) | (rw [if_neg (by decide +kernel)]; exact ⟨rfl, rfl⟩))
    (fun os started H enc _ => lifted os started H enc)
end Go.Proofs.YteleedlkdadogaaGreat.fnExactTrueWorld
namespace Go.Proofs.YteleedlkdadogaaGreat

/-- The row, under a short name, for the claim. -/
theorem fnExactTrueWorld_holds : Rows.FnExactTrueWorldSaid := fnExactTrueWorld.over

#print axioms fnExactTrueWorld_holds
end Go.Proofs.YteleedlkdadogaaGreat
