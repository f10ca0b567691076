/- The law FnExactTileShows answers true, whatever it is handed, and leaves what it was handed as it was: for every input, with no further condition. -/
import Derived.Test.YteleedlkdadogaaGreatFw22
import Derived.Test.YteleedlkdadogaaGreatLwTileShows
import Derived.Test.YteleedlkdadogaaGreatRows
import Derived.Test.YteleedlkdadogaaGreatFcA
import Derived.Test.YteleedlkdadogaaGreatFcB
import Derived.Test.YteleedlkdadogaaGreatFxFnExactTileShows
import Derived.Test.YteleedlkdadogaaGreatFyFnExactTileShows
namespace Go.Proofs.YteleedlkdadogaaGreat.fnExactTileShows
open Go.ChangeShapes Go.WideShapes Go.ChangeAt Go.RowKit Go.Proofs.YteleedlkdadogaaGreat.Fw Go.Proofs.YteleedlkdadogaaGreat.Facts

theorem own : ownKnob Tryz.prog.godebug = none := by kernel_rfl

set_option maxRecDepth 100000 in
theorem lifted (os : Os) (started : os.Started) (H : Type) (enc : TypeId × Value → H) :
    ReturnsInHanded {} Tryz.checked os 4 .any (Rows.fnExactTileShowsSpec.pre6 enc Tryz.prog Tryz.f4 Rows.fnExactTileShowsRow.domain false) (Rows.fnExactTileShowsSpec.post enc Tryz.prog Tryz.f4 false true false false) := by
  refine returnsInHanded_of_change_sized (C := Tryz.checked) own started (by kernel_rfl) Tryz.func4
    (ChangeSpec.witness6 (enc := enc) (C := Tryz.checked) false ⟨#[], #[.agg #[.int .i64 0, .bool false, .bool false, .bool false, .int .i64 0, .int .i64 0, .int .i64 0, .int .i64 0, .slice none 0 0, .slice none 0 0, .slice none 0 0, .slice none 0 0, .slice none 0 0, .slice none 0 0, .int .i64 0, .int .i64 0, .bool false, .slice none 0 0, .slice none 0 0, .slice none 0 0, .bool false, .bool false, .bool false, .int .i64 0, .int .i64 0, .slice none 0 0, .slice none 0 0, .int .i64 0, .bool false, .bool false, .bool false, .int .i64 0, .int .i64 0, .int .i64 0, .int .i64 0, .string ByteArray.empty, .int .i64 0, .int .i64 0, .string ByteArray.empty, .slice none 0 0, .slice none 0 0, .slice none 0 0, .slice none 0 0], .int .i64 0, .int .i64 0], []⟩ 8 (by kernel_rfl) (by kernel_rfl) (by kernel_rfl) (by kernel_rfl)) ?_
  intro W base args ds gs before hval hW hcnd hsz _
  exact contract_of_law (P := Tryz.prog) laidOut (fn := Tryz.f4) (shs := [z69, z3, z3]) (tb := 4) (by kernel_rfl) (by kernel_rfl) Tryz.underlying4 rfl (fun ds h => by match ds, h with | [_, _, _], _ => rfl) lawTileShows hval hW

theorem facts : joinedFacts Tryz.prog 4 Tryz.f4 Rows.fnExactTileShowsSpec Rows.fnExactTileShowsRow = true := by
  unfold joinedFacts
  simp only [Bool.and_eq_true]
  repeat' apply And.intro
  all_goals first
    | with_reducible exact laidOut
    | with_reducible exact mapsRow
    | with_reducible exact heard
    | with_reducible exact may
    | with_reducible exact fnExactTileShowsPlain
    | with_reducible exact fnExactTileShowsLifts
    | with_reducible exact fnExactTileShowsMake
    | with_reducible exact fnExactTileShowsInPlace
    | with_reducible exact fnExactTileShowsUnfollowed
    | with_reducible exact fnExactTileShowsRecurses
    | with_reducible exact fnExactTileShowsNamed
    | kernel_rfl

theorem over : Rows.fnExactTileShowsRow.holds Tryz.pinned (OpenSpec.ofChange Rows.fnExactTileShowsSpec) :=
  OpenClaim.holds_of_wide 4 Tryz.f4 rfl rfl rfl rfl rfl rfl rfl ⟨rfl, rfl, rfl, rfl, rfl⟩ rfl rfl rfl rfl rfl (by kernel_rfl) Tryz.func4 facts
    (of_decide_eq_true (by kernel_rfl)) (by unfold Func.isWrapper; first | (rw [if_pos (by decide +kernel)]; kernel_rfl) | (rw [if_neg (by decide +kernel)]; exact ⟨rfl, rfl⟩))
    (fun os started H enc _ => lifted os started H enc)
end Go.Proofs.YteleedlkdadogaaGreat.fnExactTileShows
namespace Go.Proofs.YteleedlkdadogaaGreat

/-- The row, under a short name, for the claim. -/
theorem fnExactTileShows_holds : Rows.FnExactTileShowsSaid := fnExactTileShows.over

#print axioms fnExactTileShows_holds
end Go.Proofs.YteleedlkdadogaaGreat
