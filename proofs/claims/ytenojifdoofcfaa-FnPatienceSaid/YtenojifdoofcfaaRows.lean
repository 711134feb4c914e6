/-
  No cell of these rows narrows 'for every input' (looked for: loops, veiled, ifaces, maps, wideKeys, modest, calm, conditions, laid).
  DERIVED. THE GIVEN ROWS OF THIS SEAT. 8 by the template 'for every input the law returns true; each argument reads behind the call as it read before'; 0 by the template 'total and deterministic' (their statements: YtenojifdoofcfaaTotals.lean).
  GIVEN WITH THE SEED: the statements are not yours to turn. If you find one false, say at which input.
  Laid BY PROGRAM, IN A SANDBOX (cutbox-rows.mjs): the forced cells as the released guide's own fill.sh prints them over the translation 6157bca1c058c8f0… (all of the seat's roots in one cut). By AI agents, Wed Nov 11 2026. No macro, syntax, notation, axiom, sorry.
-/
import Derived.Test.YtenojifdoofcfaaChecked
import GoSem.Claim
import GoSem.ClaimJoined
import GoSem.ClaimMapViews
import Derived.JoinedTies
import Derived.KernelRfl
namespace Go.Proofs.Ytenojifdoofcfaa
/- THE CELL 'sum', in the pinned program and in every row, IS THE sha256 OF THE DUMP (.gsa) THAT YtenojifdoofcfaaProg.lean LOADS. Nothing in Lean hashes anything: it is a label: what it is worth is what the hold of that sum in a sandbox is worth. -/
noncomputable def Try.pinned : Pinned := { name := "ytenojifdoofcfaa", sum := "6157bca1c058c8f0fb708e769eeed771d85488bf375d16f0efffb20ead4a84da", checked := Try.checked }
namespace Rows
def none {H : Type} : Left H := { results := [], args := [] }

/-- 'laws.FnExactLifted': WHATEVER THE INPUT: true; the input reads as it did. -/
def fnExactLiftedSpec : ChangeSpec := { name := "fnExactLifted", fn := fun _ => fun
  | [d1, d2] => { results := [.lit (.bool true)], args := [d1, d2] }
  | _ => none }
def fnExactLiftedRow : OpenClaim := { program := "ytenojifdoofcfaa", sum := "6157bca1c058c8f0fb708e769eeed771d85488bf375d16f0efffb20ead4a84da", func := "loop.example/g03010/laws.FnExactLifted", spec := "fnExactLifted", apart := false }
def FnExactLiftedSaid : Prop := fnExactLiftedRow.holds Try.pinned (OpenSpec.ofChange fnExactLiftedSpec)

/-- ITS FALSE NEIGHBOUR: 'it returns false'. Refute it at one input. -/
def fnExactLiftedWrong : ChangeSpec := { name := "fnExactLifted", fn := fun _ => fun
  | [d1, d2] => { results := [.lit (.bool false)], args := [d1, d2] }
  | _ => none }
def FnExactLiftedWrongFalsely : Prop := fnExactLiftedRow.holds Try.pinned (OpenSpec.ofChange fnExactLiftedWrong)

/-- 'laws.FnExactStacked': WHATEVER THE INPUT: true; the input reads as it did. -/
def fnExactStackedSpec : ChangeSpec := { name := "fnExactStacked", fn := fun _ => fun
  | [d1, d2] => { results := [.lit (.bool true)], args := [d1, d2] }
  | _ => none }
def fnExactStackedRow : OpenClaim := { program := "ytenojifdoofcfaa", sum := "6157bca1c058c8f0fb708e769eeed771d85488bf375d16f0efffb20ead4a84da", func := "loop.example/g03010/laws.FnExactStacked", spec := "fnExactStacked", apart := false }
def FnExactStackedSaid : Prop := fnExactStackedRow.holds Try.pinned (OpenSpec.ofChange fnExactStackedSpec)

/-- ITS FALSE NEIGHBOUR: 'it returns false'. Refute it at one input. -/
def fnExactStackedWrong : ChangeSpec := { name := "fnExactStacked", fn := fun _ => fun
  | [d1, d2] => { results := [.lit (.bool false)], args := [d1, d2] }
  | _ => none }
def FnExactStackedWrongFalsely : Prop := fnExactStackedRow.holds Try.pinned (OpenSpec.ofChange fnExactStackedWrong)

/-- 'laws.FnExactTurn': WHATEVER THE INPUT: true; the input reads as it did. -/
def fnExactTurnSpec : ChangeSpec := { name := "fnExactTurn", fn := fun _ => fun
  | [d] => { results := [.lit (.bool true)], args := [d] }
  | _ => none }
def fnExactTurnRow : OpenClaim := { program := "ytenojifdoofcfaa", sum := "6157bca1c058c8f0fb708e769eeed771d85488bf375d16f0efffb20ead4a84da", func := "loop.example/g03010/laws.FnExactTurn", spec := "fnExactTurn", apart := false }
def FnExactTurnSaid : Prop := fnExactTurnRow.holds Try.pinned (OpenSpec.ofChange fnExactTurnSpec)

/-- ITS FALSE NEIGHBOUR: 'it returns false'. Refute it at one input. -/
def fnExactTurnWrong : ChangeSpec := { name := "fnExactTurn", fn := fun _ => fun
  | [d] => { results := [.lit (.bool false)], args := [d] }
  | _ => none }
def FnExactTurnWrongFalsely : Prop := fnExactTurnRow.holds Try.pinned (OpenSpec.ofChange fnExactTurnWrong)

/-- 'laws.FnExactMoveUp': WHATEVER THE INPUT: true; the input reads as it did. -/
def fnExactMoveUpSpec : ChangeSpec := { name := "fnExactMoveUp", fn := fun _ => fun
  | [d1, d2] => { results := [.lit (.bool true)], args := [d1, d2] }
  | _ => none }
def fnExactMoveUpRow : OpenClaim := { program := "ytenojifdoofcfaa", sum := "6157bca1c058c8f0fb708e769eeed771d85488bf375d16f0efffb20ead4a84da", func := "loop.example/g03010/laws.FnExactMoveUp", spec := "fnExactMoveUp", apart := false }
def FnExactMoveUpSaid : Prop := fnExactMoveUpRow.holds Try.pinned (OpenSpec.ofChange fnExactMoveUpSpec)

/-- ITS FALSE NEIGHBOUR: 'it returns false'. Refute it at one input. -/
def fnExactMoveUpWrong : ChangeSpec := { name := "fnExactMoveUp", fn := fun _ => fun
  | [d1, d2] => { results := [.lit (.bool false)], args := [d1, d2] }
  | _ => none }
def FnExactMoveUpWrongFalsely : Prop := fnExactMoveUpRow.holds Try.pinned (OpenSpec.ofChange fnExactMoveUpWrong)

/-- 'laws.FnExactMovePile': WHATEVER THE INPUT: true; the input reads as it did. -/
def fnExactMovePileSpec : ChangeSpec := { name := "fnExactMovePile", fn := fun _ => fun
  | [d1, d2, d3, d4] => { results := [.lit (.bool true)], args := [d1, d2, d3, d4] }
  | _ => none }
def fnExactMovePileRow : OpenClaim := { program := "ytenojifdoofcfaa", sum := "6157bca1c058c8f0fb708e769eeed771d85488bf375d16f0efffb20ead4a84da", func := "loop.example/g03010/laws.FnExactMovePile", spec := "fnExactMovePile", apart := false }
def FnExactMovePileSaid : Prop := fnExactMovePileRow.holds Try.pinned (OpenSpec.ofChange fnExactMovePileSpec)

/-- ITS FALSE NEIGHBOUR: 'it returns false'. Refute it at one input. -/
def fnExactMovePileWrong : ChangeSpec := { name := "fnExactMovePile", fn := fun _ => fun
  | [d1, d2, d3, d4] => { results := [.lit (.bool false)], args := [d1, d2, d3, d4] }
  | _ => none }
def FnExactMovePileWrongFalsely : Prop := fnExactMovePileRow.holds Try.pinned (OpenSpec.ofChange fnExactMovePileWrong)

/-- 'laws.FnExactMoveWaste': WHATEVER THE INPUT: true; the input reads as it did. -/
def fnExactMoveWasteSpec : ChangeSpec := { name := "fnExactMoveWaste", fn := fun _ => fun
  | [d1, d2] => { results := [.lit (.bool true)], args := [d1, d2] }
  | _ => none }
def fnExactMoveWasteRow : OpenClaim := { program := "ytenojifdoofcfaa", sum := "6157bca1c058c8f0fb708e769eeed771d85488bf375d16f0efffb20ead4a84da", func := "loop.example/g03010/laws.FnExactMoveWaste", spec := "fnExactMoveWaste", apart := false }
def FnExactMoveWasteSaid : Prop := fnExactMoveWasteRow.holds Try.pinned (OpenSpec.ofChange fnExactMoveWasteSpec)

/-- ITS FALSE NEIGHBOUR: 'it returns false'. Refute it at one input. -/
def fnExactMoveWasteWrong : ChangeSpec := { name := "fnExactMoveWaste", fn := fun _ => fun
  | [d1, d2] => { results := [.lit (.bool false)], args := [d1, d2] }
  | _ => none }
def FnExactMoveWasteWrongFalsely : Prop := fnExactMoveWasteRow.holds Try.pinned (OpenSpec.ofChange fnExactMoveWasteWrong)

/-- 'laws.FnPiles': WHATEVER THE INPUT: true; the input reads as it did. -/
def fnPilesSpec : ChangeSpec := { name := "fnPiles", fn := fun _ => fun
  | [d] => { results := [.lit (.bool true)], args := [d] }
  | _ => none }
def fnPilesRow : OpenClaim := { program := "ytenojifdoofcfaa", sum := "6157bca1c058c8f0fb708e769eeed771d85488bf375d16f0efffb20ead4a84da", func := "loop.example/g03010/laws.FnPiles", spec := "fnPiles", apart := false }
def FnPilesSaid : Prop := fnPilesRow.holds Try.pinned (OpenSpec.ofChange fnPilesSpec)

/-- ITS FALSE NEIGHBOUR: 'it returns false'. Refute it at one input. -/
def fnPilesWrong : ChangeSpec := { name := "fnPiles", fn := fun _ => fun
  | [d] => { results := [.lit (.bool false)], args := [d] }
  | _ => none }
def FnPilesWrongFalsely : Prop := fnPilesRow.holds Try.pinned (OpenSpec.ofChange fnPilesWrong)

/-- 'laws.FnPatience': WHATEVER THE INPUT: true; the input reads as it did. -/
def fnPatienceSpec : ChangeSpec := { name := "fnPatience", fn := fun _ => fun
  | [d] => { results := [.lit (.bool true)], args := [d] }
  | _ => none }
def fnPatienceRow : OpenClaim := { program := "ytenojifdoofcfaa", sum := "6157bca1c058c8f0fb708e769eeed771d85488bf375d16f0efffb20ead4a84da", func := "loop.example/g03010/laws.FnPatience", spec := "fnPatience", apart := false }
def FnPatienceSaid : Prop := fnPatienceRow.holds Try.pinned (OpenSpec.ofChange fnPatienceSpec)

/-- ITS FALSE NEIGHBOUR: 'it returns false'. Refute it at one input. -/
def fnPatienceWrong : ChangeSpec := { name := "fnPatience", fn := fun _ => fun
  | [d] => { results := [.lit (.bool false)], args := [d] }
  | _ => none }
def FnPatienceWrongFalsely : Prop := fnPatienceRow.holds Try.pinned (OpenSpec.ofChange fnPatienceWrong)

/- THE SECOND FORM. 'bulk': how many values and letters a reading holds, each counted each time it is reached (what is shared counts as often as it is met; a slice's spare places count too). A statement '..UptoSaid' is the law's where the arguments, and the package variables that the reading takes, are together of bulk at most 1048576: NARROWER than '..Said'. Prove '..Said' where nothing that the law and all that it calls make is longer than what came in: it says more and counts as full. Else prove '..UptoSaid'. A law counts once. -/
mutual
def uptoBulk {H : Type} : DataW H → Nat
  | .lit (.string bytes) => bytes.length + 1
  | .lit _ => 1
  | .nil => 1
  | .ptr d => uptoBulk d + 1
  | .slice elems spare => uptoBulkAll elems + uptoBulkAll spare + 1
  | .agg parts => uptoBulkAll parts + 1
  | .iface _ d => uptoBulk d + 1
  | .map entries => uptoBulkEntries entries + 1
  | .held _ => 1
def uptoBulkAll {H : Type} : List (DataW H) → Nat
  | [] => 0
  | d :: r => uptoBulk d + uptoBulkAll r
def uptoBulkEntries {H : Type} : List (Lit × DataW H) → Nat
  | [] => 0
  | x :: r => uptoBulkEntry x + uptoBulkEntries r
def uptoBulkEntry {H : Type} : Lit × DataW H → Nat
  | (.string bytes, d) => bytes.length + uptoBulk d + 1
  | (_, d) => uptoBulk d + 1
 end
def uptoSmall : (H : Type) → List (DataW H) → Bool := fun _ ds => decide (uptoBulkAll ds ≤ 1048576)
def OpenSpec.upto (s : _root_.Go.ChangeSpec) : _root_.Go.OpenSpec := { _root_.Go.OpenSpec.ofChange s with cond := some uptoSmall }

/-- 'laws.FnExactLifted', WHERE WHAT IT READS IS OF BULK AT MOST 1048576: true; the input reads as it did. -/
def fnExactLiftedUptoRow : OpenClaim := { program := "ytenojifdoofcfaa", sum := "6157bca1c058c8f0fb708e769eeed771d85488bf375d16f0efffb20ead4a84da", func := "loop.example/g03010/laws.FnExactLifted", spec := "fnExactLifted", apart := false, narrowed := true }
def FnExactLiftedUptoSaid : Prop := fnExactLiftedUptoRow.holds Try.pinned (OpenSpec.upto fnExactLiftedSpec)

/-- 'laws.FnExactStacked', WHERE WHAT IT READS IS OF BULK AT MOST 1048576: true; the input reads as it did. -/
def fnExactStackedUptoRow : OpenClaim := { program := "ytenojifdoofcfaa", sum := "6157bca1c058c8f0fb708e769eeed771d85488bf375d16f0efffb20ead4a84da", func := "loop.example/g03010/laws.FnExactStacked", spec := "fnExactStacked", apart := false, narrowed := true }
def FnExactStackedUptoSaid : Prop := fnExactStackedUptoRow.holds Try.pinned (OpenSpec.upto fnExactStackedSpec)

/-- 'laws.FnExactTurn', WHERE WHAT IT READS IS OF BULK AT MOST 1048576: true; the input reads as it did. -/
def fnExactTurnUptoRow : OpenClaim := { program := "ytenojifdoofcfaa", sum := "6157bca1c058c8f0fb708e769eeed771d85488bf375d16f0efffb20ead4a84da", func := "loop.example/g03010/laws.FnExactTurn", spec := "fnExactTurn", apart := false, narrowed := true }
def FnExactTurnUptoSaid : Prop := fnExactTurnUptoRow.holds Try.pinned (OpenSpec.upto fnExactTurnSpec)

/-- 'laws.FnExactMoveUp', WHERE WHAT IT READS IS OF BULK AT MOST 1048576: true; the input reads as it did. -/
def fnExactMoveUpUptoRow : OpenClaim := { program := "ytenojifdoofcfaa", sum := "6157bca1c058c8f0fb708e769eeed771d85488bf375d16f0efffb20ead4a84da", func := "loop.example/g03010/laws.FnExactMoveUp", spec := "fnExactMoveUp", apart := false, narrowed := true }
def FnExactMoveUpUptoSaid : Prop := fnExactMoveUpUptoRow.holds Try.pinned (OpenSpec.upto fnExactMoveUpSpec)

/-- 'laws.FnExactMovePile', WHERE WHAT IT READS IS OF BULK AT MOST 1048576: true; the input reads as it did. -/
def fnExactMovePileUptoRow : OpenClaim := { program := "ytenojifdoofcfaa", sum := "6157bca1c058c8f0fb708e769eeed771d85488bf375d16f0efffb20ead4a84da", func := "loop.example/g03010/laws.FnExactMovePile", spec := "fnExactMovePile", apart := false, narrowed := true }
def FnExactMovePileUptoSaid : Prop := fnExactMovePileUptoRow.holds Try.pinned (OpenSpec.upto fnExactMovePileSpec)

/-- 'laws.FnExactMoveWaste', WHERE WHAT IT READS IS OF BULK AT MOST 1048576: true; the input reads as it did. -/
def fnExactMoveWasteUptoRow : OpenClaim := { program := "ytenojifdoofcfaa", sum := "6157bca1c058c8f0fb708e769eeed771d85488bf375d16f0efffb20ead4a84da", func := "loop.example/g03010/laws.FnExactMoveWaste", spec := "fnExactMoveWaste", apart := false, narrowed := true }
def FnExactMoveWasteUptoSaid : Prop := fnExactMoveWasteUptoRow.holds Try.pinned (OpenSpec.upto fnExactMoveWasteSpec)

/-- 'laws.FnPiles', WHERE WHAT IT READS IS OF BULK AT MOST 1048576: true; the input reads as it did. -/
def fnPilesUptoRow : OpenClaim := { program := "ytenojifdoofcfaa", sum := "6157bca1c058c8f0fb708e769eeed771d85488bf375d16f0efffb20ead4a84da", func := "loop.example/g03010/laws.FnPiles", spec := "fnPiles", apart := false, narrowed := true }
def FnPilesUptoSaid : Prop := fnPilesUptoRow.holds Try.pinned (OpenSpec.upto fnPilesSpec)

/-- 'laws.FnPatience', WHERE WHAT IT READS IS OF BULK AT MOST 1048576: true; the input reads as it did. -/
def fnPatienceUptoRow : OpenClaim := { program := "ytenojifdoofcfaa", sum := "6157bca1c058c8f0fb708e769eeed771d85488bf375d16f0efffb20ead4a84da", func := "loop.example/g03010/laws.FnPatience", spec := "fnPatience", apart := false, narrowed := true }
def FnPatienceUptoSaid : Prop := fnPatienceUptoRow.holds Try.pinned (OpenSpec.upto fnPatienceSpec)

end Rows
end Go.Proofs.Ytenojifdoofcfaa
