/-
  No cell of these rows narrows 'for every input' (looked for: loops, veiled, ifaces, maps, wideKeys, modest, calm, conditions, laid).
  DERIVED. THE GIVEN ROWS OF THIS SEAT. 11 by the template 'for every input the law returns true; each argument reads behind the call as it read before'; 0 by the template 'total and deterministic' (their statements: YteleedlkdadogaaGreatTotals.lean).
  GIVEN WITH THE SEED: the statements are not yours to turn. If you find one false, say at which input.
  Laid BY PROGRAM, IN A SANDBOX (cutbox-rows.mjs): the forced cells as the released guide's own fill.sh prints them over the translation 0a2b8310c2f5ed78… (all of the seat's roots in one cut). By AI agents, Wed Nov 11 2026. No macro, syntax, notation, axiom, sorry.
-/
import Derived.Test.YteleedlkdadogaaGreatChecked
import GoSem.Claim
import GoSem.ClaimJoined
import GoSem.ClaimMapViews
import Derived.JoinedTies
import Derived.KernelRfl
namespace Go.Proofs.YteleedlkdadogaaGreat
/- THE CELL 'sum', in the pinned program and in every row, IS THE sha256 OF THE DUMP (.gsa) THAT YteleedlkdadogaaGreatProg.lean LOADS. Nothing in Lean hashes anything: it is a label: what it is worth is what the hold of that sum in a sandbox is worth. -/
noncomputable def Tryz.pinned : Pinned := { name := "yteleedlkdadogaagreat", sum := "0a2b8310c2f5ed785e34dfb4a2053363e2c96fcb47284017c851bc6d71bdff35", checked := Tryz.checked }
namespace Rows
def none {H : Type} : Left H := { results := [], args := [] }

/-- 'laws.FnPanes': WHATEVER THE INPUT: true; the input reads as it did. -/
def fnPanesSpec : ChangeSpec := { name := "fnPanes", fn := fun _ => fun
  | [d] => { results := [.lit (.bool true)], args := [d] }
  | _ => none }
def fnPanesRow : OpenClaim := { program := "yteleedlkdadogaagreat", sum := "0a2b8310c2f5ed785e34dfb4a2053363e2c96fcb47284017c851bc6d71bdff35", func := "loop.example/g00960/laws.FnPanes", spec := "fnPanes", unfollowed := true, recurses := true, apart := false }
def FnPanesSaid : Prop := fnPanesRow.holds Tryz.pinned (OpenSpec.ofChange fnPanesSpec)

/-- ITS FALSE NEIGHBOUR: 'it returns false'. Refute it at one input. -/
def fnPanesWrong : ChangeSpec := { name := "fnPanes", fn := fun _ => fun
  | [d] => { results := [.lit (.bool false)], args := [d] }
  | _ => none }
def FnPanesWrongFalsely : Prop := fnPanesRow.holds Tryz.pinned (OpenSpec.ofChange fnPanesWrong)

/-- 'laws.FnExactTileShows': WHATEVER THE INPUT: true; the input reads as it did. -/
def fnExactTileShowsSpec : ChangeSpec := { name := "fnExactTileShows", fn := fun _ => fun
  | [d1, d2, d3] => { results := [.lit (.bool true)], args := [d1, d2, d3] }
  | _ => none }
def fnExactTileShowsRow : OpenClaim := { program := "yteleedlkdadogaagreat", sum := "0a2b8310c2f5ed785e34dfb4a2053363e2c96fcb47284017c851bc6d71bdff35", func := "loop.example/g00960/laws.FnExactTileShows", spec := "fnExactTileShows", apart := false }
def FnExactTileShowsSaid : Prop := fnExactTileShowsRow.holds Tryz.pinned (OpenSpec.ofChange fnExactTileShowsSpec)

/-- ITS FALSE NEIGHBOUR: 'it returns false'. Refute it at one input. -/
def fnExactTileShowsWrong : ChangeSpec := { name := "fnExactTileShows", fn := fun _ => fun
  | [d1, d2, d3] => { results := [.lit (.bool false)], args := [d1, d2, d3] }
  | _ => none }
def FnExactTileShowsWrongFalsely : Prop := fnExactTileShowsRow.holds Tryz.pinned (OpenSpec.ofChange fnExactTileShowsWrong)

/-- 'laws.FnExactMixerIn': WHATEVER THE INPUT: true; the input reads as it did. -/
def fnExactMixerInSpec : ChangeSpec := { name := "fnExactMixerIn", fn := fun _ => fun
  | [d1, d2, d3] => { results := [.lit (.bool true)], args := [d1, d2, d3] }
  | _ => none }
def fnExactMixerInRow : OpenClaim := { program := "yteleedlkdadogaagreat", sum := "0a2b8310c2f5ed785e34dfb4a2053363e2c96fcb47284017c851bc6d71bdff35", func := "loop.example/g00960/laws.FnExactMixerIn", spec := "fnExactMixerIn", apart := false }
def FnExactMixerInSaid : Prop := fnExactMixerInRow.holds Tryz.pinned (OpenSpec.ofChange fnExactMixerInSpec)

/-- ITS FALSE NEIGHBOUR: 'it returns false'. Refute it at one input. -/
def fnExactMixerInWrong : ChangeSpec := { name := "fnExactMixerIn", fn := fun _ => fun
  | [d1, d2, d3] => { results := [.lit (.bool false)], args := [d1, d2, d3] }
  | _ => none }
def FnExactMixerInWrongFalsely : Prop := fnExactMixerInRow.holds Tryz.pinned (OpenSpec.ofChange fnExactMixerInWrong)

/-- 'laws.FnExactTileTrue': WHATEVER THE INPUT: true; the input reads as it did. -/
def fnExactTileTrueSpec : ChangeSpec := { name := "fnExactTileTrue", fn := fun _ => fun
  | [d1, d2, d3] => { results := [.lit (.bool true)], args := [d1, d2, d3] }
  | _ => none }
def fnExactTileTrueRow : OpenClaim := { program := "yteleedlkdadogaagreat", sum := "0a2b8310c2f5ed785e34dfb4a2053363e2c96fcb47284017c851bc6d71bdff35", func := "loop.example/g00960/laws.FnExactTileTrue", spec := "fnExactTileTrue", apart := false }
def FnExactTileTrueSaid : Prop := fnExactTileTrueRow.holds Tryz.pinned (OpenSpec.ofChange fnExactTileTrueSpec)

/-- ITS FALSE NEIGHBOUR: 'it returns false'. Refute it at one input. -/
def fnExactTileTrueWrong : ChangeSpec := { name := "fnExactTileTrue", fn := fun _ => fun
  | [d1, d2, d3] => { results := [.lit (.bool false)], args := [d1, d2, d3] }
  | _ => none }
def FnExactTileTrueWrongFalsely : Prop := fnExactTileTrueRow.holds Tryz.pinned (OpenSpec.ofChange fnExactTileTrueWrong)

/-- 'laws.FnExactLookTrue': WHATEVER THE INPUT: true; the input reads as it did. -/
def fnExactLookTrueSpec : ChangeSpec := { name := "fnExactLookTrue", fn := fun _ => fun
  | [d1, d2] => { results := [.lit (.bool true)], args := [d1, d2] }
  | _ => none }
def fnExactLookTrueRow : OpenClaim := { program := "yteleedlkdadogaagreat", sum := "0a2b8310c2f5ed785e34dfb4a2053363e2c96fcb47284017c851bc6d71bdff35", func := "loop.example/g00960/laws.FnExactLookTrue", spec := "fnExactLookTrue", apart := false }
def FnExactLookTrueSaid : Prop := fnExactLookTrueRow.holds Tryz.pinned (OpenSpec.ofChange fnExactLookTrueSpec)

/-- ITS FALSE NEIGHBOUR: 'it returns false'. Refute it at one input. -/
def fnExactLookTrueWrong : ChangeSpec := { name := "fnExactLookTrue", fn := fun _ => fun
  | [d1, d2] => { results := [.lit (.bool false)], args := [d1, d2] }
  | _ => none }
def FnExactLookTrueWrongFalsely : Prop := fnExactLookTrueRow.holds Tryz.pinned (OpenSpec.ofChange fnExactLookTrueWrong)

/-- 'laws.FnExactWallUnits': WHATEVER THE INPUT: true; the input reads as it did. -/
def fnExactWallUnitsSpec : ChangeSpec := { name := "fnExactWallUnits", fn := fun _ => fun
  | [d] => { results := [.lit (.bool true)], args := [d] }
  | _ => none }
def fnExactWallUnitsRow : OpenClaim := { program := "yteleedlkdadogaagreat", sum := "0a2b8310c2f5ed785e34dfb4a2053363e2c96fcb47284017c851bc6d71bdff35", func := "loop.example/g00960/laws.FnExactWallUnits", spec := "fnExactWallUnits", apart := false }
def FnExactWallUnitsSaid : Prop := fnExactWallUnitsRow.holds Tryz.pinned (OpenSpec.ofChange fnExactWallUnitsSpec)

/-- ITS FALSE NEIGHBOUR: 'it returns false'. Refute it at one input. -/
def fnExactWallUnitsWrong : ChangeSpec := { name := "fnExactWallUnits", fn := fun _ => fun
  | [d] => { results := [.lit (.bool false)], args := [d] }
  | _ => none }
def FnExactWallUnitsWrongFalsely : Prop := fnExactWallUnitsRow.holds Tryz.pinned (OpenSpec.ofChange fnExactWallUnitsWrong)

/-- 'laws.FnExactTrueWorld': WHATEVER THE INPUT: true; the input reads as it did. -/
def fnExactTrueWorldSpec : ChangeSpec := { name := "fnExactTrueWorld", fn := fun _ => fun
  | [d] => { results := [.lit (.bool true)], args := [d] }
  | _ => none }
def fnExactTrueWorldRow : OpenClaim := { program := "yteleedlkdadogaagreat", sum := "0a2b8310c2f5ed785e34dfb4a2053363e2c96fcb47284017c851bc6d71bdff35", func := "loop.example/g00960/laws.FnExactTrueWorld", spec := "fnExactTrueWorld", apart := false }
def FnExactTrueWorldSaid : Prop := fnExactTrueWorldRow.holds Tryz.pinned (OpenSpec.ofChange fnExactTrueWorldSpec)

/-- ITS FALSE NEIGHBOUR: 'it returns false'. Refute it at one input. -/
def fnExactTrueWorldWrong : ChangeSpec := { name := "fnExactTrueWorld", fn := fun _ => fun
  | [d] => { results := [.lit (.bool false)], args := [d] }
  | _ => none }
def FnExactTrueWorldWrongFalsely : Prop := fnExactTrueWorldRow.holds Tryz.pinned (OpenSpec.ofChange fnExactTrueWorldWrong)

/-- 'laws.FnExactPartsKept': WHATEVER THE INPUT: true; the input reads as it did. -/
def fnExactPartsKeptSpec : ChangeSpec := { name := "fnExactPartsKept", fn := fun _ => fun
  | [d1, d2] => { results := [.lit (.bool true)], args := [d1, d2] }
  | _ => none }
def fnExactPartsKeptRow : OpenClaim := { program := "yteleedlkdadogaagreat", sum := "0a2b8310c2f5ed785e34dfb4a2053363e2c96fcb47284017c851bc6d71bdff35", func := "loop.example/g00960/laws.FnExactPartsKept", spec := "fnExactPartsKept", apart := false }
def FnExactPartsKeptSaid : Prop := fnExactPartsKeptRow.holds Tryz.pinned (OpenSpec.ofChange fnExactPartsKeptSpec)

/-- ITS FALSE NEIGHBOUR: 'it returns false'. Refute it at one input. -/
def fnExactPartsKeptWrong : ChangeSpec := { name := "fnExactPartsKept", fn := fun _ => fun
  | [d1, d2] => { results := [.lit (.bool false)], args := [d1, d2] }
  | _ => none }
def FnExactPartsKeptWrongFalsely : Prop := fnExactPartsKeptRow.holds Tryz.pinned (OpenSpec.ofChange fnExactPartsKeptWrong)

/-- 'laws.FnExactReport': WHATEVER THE INPUT: true; the input reads as it did. -/
def fnExactReportSpec : ChangeSpec := { name := "fnExactReport", fn := fun _ => fun
  | [d] => { results := [.lit (.bool true)], args := [d] }
  | _ => none }
def fnExactReportRow : OpenClaim := { program := "yteleedlkdadogaagreat", sum := "0a2b8310c2f5ed785e34dfb4a2053363e2c96fcb47284017c851bc6d71bdff35", func := "loop.example/g00960/laws.FnExactReport", spec := "fnExactReport", apart := false }
def FnExactReportSaid : Prop := fnExactReportRow.holds Tryz.pinned (OpenSpec.ofChange fnExactReportSpec)

/-- ITS FALSE NEIGHBOUR: 'it returns false'. Refute it at one input. -/
def fnExactReportWrong : ChangeSpec := { name := "fnExactReport", fn := fun _ => fun
  | [d] => { results := [.lit (.bool false)], args := [d] }
  | _ => none }
def FnExactReportWrongFalsely : Prop := fnExactReportRow.holds Tryz.pinned (OpenSpec.ofChange fnExactReportWrong)

/-- 'laws.FnExactStartWorld': WHATEVER THE INPUT: true; the input reads as it did. -/
def fnExactStartWorldSpec : ChangeSpec := { name := "fnExactStartWorld", fn := fun _ => fun
  | [d] => { results := [.lit (.bool true)], args := [d] }
  | _ => none }
def fnExactStartWorldRow : OpenClaim := { program := "yteleedlkdadogaagreat", sum := "0a2b8310c2f5ed785e34dfb4a2053363e2c96fcb47284017c851bc6d71bdff35", func := "loop.example/g00960/laws.FnExactStartWorld", spec := "fnExactStartWorld", apart := false }
def FnExactStartWorldSaid : Prop := fnExactStartWorldRow.holds Tryz.pinned (OpenSpec.ofChange fnExactStartWorldSpec)

/-- ITS FALSE NEIGHBOUR: 'it returns false'. Refute it at one input. -/
def fnExactStartWorldWrong : ChangeSpec := { name := "fnExactStartWorld", fn := fun _ => fun
  | [d] => { results := [.lit (.bool false)], args := [d] }
  | _ => none }
def FnExactStartWorldWrongFalsely : Prop := fnExactStartWorldRow.holds Tryz.pinned (OpenSpec.ofChange fnExactStartWorldWrong)

/-- 'laws.FnExactMixerTick': WHATEVER THE INPUT: true; the input reads as it did. -/
def fnExactMixerTickSpec : ChangeSpec := { name := "fnExactMixerTick", fn := fun _ => fun
  | [d] => { results := [.lit (.bool true)], args := [d] }
  | _ => none }
def fnExactMixerTickRow : OpenClaim := { program := "yteleedlkdadogaagreat", sum := "0a2b8310c2f5ed785e34dfb4a2053363e2c96fcb47284017c851bc6d71bdff35", func := "loop.example/g00960/laws.FnExactMixerTick", spec := "fnExactMixerTick", apart := false }
def FnExactMixerTickSaid : Prop := fnExactMixerTickRow.holds Tryz.pinned (OpenSpec.ofChange fnExactMixerTickSpec)

/-- ITS FALSE NEIGHBOUR: 'it returns false'. Refute it at one input. -/
def fnExactMixerTickWrong : ChangeSpec := { name := "fnExactMixerTick", fn := fun _ => fun
  | [d] => { results := [.lit (.bool false)], args := [d] }
  | _ => none }
def FnExactMixerTickWrongFalsely : Prop := fnExactMixerTickRow.holds Tryz.pinned (OpenSpec.ofChange fnExactMixerTickWrong)

/- THE SECOND FORM. 'bulk': how many values and letters a reading holds, each counted each time it is reached (what is shared counts as often as it is met; a slice's spare places count too). A statement '..UptoSaid' is the law's where the arguments, and the package variables that the reading takes, are together of bulk at most 1048576: NARROWER than '..Said'. Prove '..Said' where nothing that the law and all that it calls make is longer than what came in: it says more and counts as full. Else prove '..UptoSaid'. A law counts once. -/
mutual
def uptoBulk {H : Type} : DataW H → Nat
  | .lit (.string bytes) => bytes.length + 1
  | .lit _ => 1
  | .nil => 1
  | .ptr d => uptoBulk d + 1
  | .slice elems spare => uptoBulkAll elems + uptoBulkAll spare + 1
  | .agg parts => uptoBulkAll parts + 1
  | .iface _ d => uptoBulk d + 1
  | .map entries => uptoBulkEntries entries + 1
  | .held _ => 1
def uptoBulkAll {H : Type} : List (DataW H) → Nat
  | [] => 0
  | d :: r => uptoBulk d + uptoBulkAll r
def uptoBulkEntries {H : Type} : List (Lit × DataW H) → Nat
  | [] => 0
  | x :: r => uptoBulkEntry x + uptoBulkEntries r
def uptoBulkEntry {H : Type} : Lit × DataW H → Nat
  | (.string bytes, d) => bytes.length + uptoBulk d + 1
  | (_, d) => uptoBulk d + 1
 end
def uptoSmall : (H : Type) → List (DataW H) → Bool := fun _ ds => decide (uptoBulkAll ds ≤ 1048576)
def OpenSpec.upto (s : _root_.Go.ChangeSpec) : _root_.Go.OpenSpec := { _root_.Go.OpenSpec.ofChange s with cond := some uptoSmall }

/-- 'laws.FnPanes', WHERE WHAT IT READS IS OF BULK AT MOST 1048576: true; the input reads as it did. -/
def fnPanesUptoRow : OpenClaim := { program := "yteleedlkdadogaagreat", sum := "0a2b8310c2f5ed785e34dfb4a2053363e2c96fcb47284017c851bc6d71bdff35", func := "loop.example/g00960/laws.FnPanes", spec := "fnPanes", unfollowed := true, recurses := true, apart := false, narrowed := true }
def FnPanesUptoSaid : Prop := fnPanesUptoRow.holds Tryz.pinned (OpenSpec.upto fnPanesSpec)

/-- 'laws.FnExactTileShows', WHERE WHAT IT READS IS OF BULK AT MOST 1048576: true; the input reads as it did. -/
def fnExactTileShowsUptoRow : OpenClaim := { program := "yteleedlkdadogaagreat", sum := "0a2b8310c2f5ed785e34dfb4a2053363e2c96fcb47284017c851bc6d71bdff35", func := "loop.example/g00960/laws.FnExactTileShows", spec := "fnExactTileShows", apart := false, narrowed := true }
def FnExactTileShowsUptoSaid : Prop := fnExactTileShowsUptoRow.holds Tryz.pinned (OpenSpec.upto fnExactTileShowsSpec)

/-- 'laws.FnExactMixerIn', WHERE WHAT IT READS IS OF BULK AT MOST 1048576: true; the input reads as it did. -/
def fnExactMixerInUptoRow : OpenClaim := { program := "yteleedlkdadogaagreat", sum := "0a2b8310c2f5ed785e34dfb4a2053363e2c96fcb47284017c851bc6d71bdff35", func := "loop.example/g00960/laws.FnExactMixerIn", spec := "fnExactMixerIn", apart := false, narrowed := true }
def FnExactMixerInUptoSaid : Prop := fnExactMixerInUptoRow.holds Tryz.pinned (OpenSpec.upto fnExactMixerInSpec)

/-- 'laws.FnExactTileTrue', WHERE WHAT IT READS IS OF BULK AT MOST 1048576: true; the input reads as it did. -/
def fnExactTileTrueUptoRow : OpenClaim := { program := "yteleedlkdadogaagreat", sum := "0a2b8310c2f5ed785e34dfb4a2053363e2c96fcb47284017c851bc6d71bdff35", func := "loop.example/g00960/laws.FnExactTileTrue", spec := "fnExactTileTrue", apart := false, narrowed := true }
def FnExactTileTrueUptoSaid : Prop := fnExactTileTrueUptoRow.holds Tryz.pinned (OpenSpec.upto fnExactTileTrueSpec)

/-- 'laws.FnExactLookTrue', WHERE WHAT IT READS IS OF BULK AT MOST 1048576: true; the input reads as it did. -/
def fnExactLookTrueUptoRow : OpenClaim := { program := "yteleedlkdadogaagreat", sum := "0a2b8310c2f5ed785e34dfb4a2053363e2c96fcb47284017c851bc6d71bdff35", func := "loop.example/g00960/laws.FnExactLookTrue", spec := "fnExactLookTrue", apart := false, narrowed := true }
def FnExactLookTrueUptoSaid : Prop := fnExactLookTrueUptoRow.holds Tryz.pinned (OpenSpec.upto fnExactLookTrueSpec)

/-- 'laws.FnExactWallUnits', WHERE WHAT IT READS IS OF BULK AT MOST 1048576: true; the input reads as it did. -/
def fnExactWallUnitsUptoRow : OpenClaim := { program := "yteleedlkdadogaagreat", sum := "0a2b8310c2f5ed785e34dfb4a2053363e2c96fcb47284017c851bc6d71bdff35", func := "loop.example/g00960/laws.FnExactWallUnits", spec := "fnExactWallUnits", apart := false, narrowed := true }
def FnExactWallUnitsUptoSaid : Prop := fnExactWallUnitsUptoRow.holds Tryz.pinned (OpenSpec.upto fnExactWallUnitsSpec)

/-- 'laws.FnExactTrueWorld', WHERE WHAT IT READS IS OF BULK AT MOST 1048576: true; the input reads as it did. -/
def fnExactTrueWorldUptoRow : OpenClaim := { program := "yteleedlkdadogaagreat", sum := "0a2b8310c2f5ed785e34dfb4a2053363e2c96fcb47284017c851bc6d71bdff35", func := "loop.example/g00960/laws.FnExactTrueWorld", spec := "fnExactTrueWorld", apart := false, narrowed := true }
def FnExactTrueWorldUptoSaid : Prop := fnExactTrueWorldUptoRow.holds Tryz.pinned (OpenSpec.upto fnExactTrueWorldSpec)

/-- 'laws.FnExactPartsKept', WHERE WHAT IT READS IS OF BULK AT MOST 1048576: true; the input reads as it did. -/
def fnExactPartsKeptUptoRow : OpenClaim := { program := "yteleedlkdadogaagreat", sum := "0a2b8310c2f5ed785e34dfb4a2053363e2c96fcb47284017c851bc6d71bdff35", func := "loop.example/g00960/laws.FnExactPartsKept", spec := "fnExactPartsKept", apart := false, narrowed := true }
def FnExactPartsKeptUptoSaid : Prop := fnExactPartsKeptUptoRow.holds Tryz.pinned (OpenSpec.upto fnExactPartsKeptSpec)

/-- 'laws.FnExactReport', WHERE WHAT IT READS IS OF BULK AT MOST 1048576: true; the input reads as it did. -/
def fnExactReportUptoRow : OpenClaim := { program := "yteleedlkdadogaagreat", sum := "0a2b8310c2f5ed785e34dfb4a2053363e2c96fcb47284017c851bc6d71bdff35", func := "loop.example/g00960/laws.FnExactReport", spec := "fnExactReport", apart := false, narrowed := true }
def FnExactReportUptoSaid : Prop := fnExactReportUptoRow.holds Tryz.pinned (OpenSpec.upto fnExactReportSpec)

/-- 'laws.FnExactStartWorld', WHERE WHAT IT READS IS OF BULK AT MOST 1048576: true; the input reads as it did. -/
def fnExactStartWorldUptoRow : OpenClaim := { program := "yteleedlkdadogaagreat", sum := "0a2b8310c2f5ed785e34dfb4a2053363e2c96fcb47284017c851bc6d71bdff35", func := "loop.example/g00960/laws.FnExactStartWorld", spec := "fnExactStartWorld", apart := false, narrowed := true }
def FnExactStartWorldUptoSaid : Prop := fnExactStartWorldUptoRow.holds Tryz.pinned (OpenSpec.upto fnExactStartWorldSpec)

/-- 'laws.FnExactMixerTick', WHERE WHAT IT READS IS OF BULK AT MOST 1048576: true; the input reads as it did. -/
def fnExactMixerTickUptoRow : OpenClaim := { program := "yteleedlkdadogaagreat", sum := "0a2b8310c2f5ed785e34dfb4a2053363e2c96fcb47284017c851bc6d71bdff35", func := "loop.example/g00960/laws.FnExactMixerTick", spec := "fnExactMixerTick", apart := false, narrowed := true }
def FnExactMixerTickUptoSaid : Prop := fnExactMixerTickUptoRow.holds Tryz.pinned (OpenSpec.upto fnExactMixerTickSpec)

end Rows
end Go.Proofs.YteleedlkdadogaaGreat
