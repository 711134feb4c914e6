/-
  No cell of these rows narrows 'for every input' (looked for: loops, veiled, ifaces, maps, wideKeys, modest, calm, conditions, laid).
  DERIVED. THE GIVEN ROWS OF THIS SEAT. 12 by the template 'for every input the law returns true; each argument reads behind the call as it read before'; 0 by the template 'total and deterministic' (their statements: YtofmaimjbcpaiaaTotals.lean).
  GIVEN WITH THE SEED: the statements are not yours to turn. If you find one false, say at which input.
  Laid BY PROGRAM, IN A SANDBOX (cutbox-rows.mjs): the forced cells as the released guide's own fill.sh prints them over the translation b2a787b2f7ccbc13… (all of the seat's roots in one cut). By AI agents, Wed Nov 11 2026. No macro, syntax, notation, axiom, sorry.
-/
import Derived.Test.YtofmaimjbcpaiaaChecked
import GoSem.Claim
import GoSem.ClaimJoined
import GoSem.ClaimMapViews
import Derived.JoinedTies
import Derived.KernelRfl
namespace Go.Proofs.Ytofmaimjbcpaiaa
/- THE CELL 'sum', in the pinned program and in every row, IS THE sha256 OF THE DUMP (.gsa) THAT YtofmaimjbcpaiaaProg.lean LOADS. Nothing in Lean hashes anything: it is a label: what it is worth is what the hold of that sum in a sandbox is worth. -/
noncomputable def Try.pinned : Pinned := { name := "ytofmaimjbcpaiaa", sum := "b2a787b2f7ccbc131f9929d54ed746828b56aeafe69b6cc505a069611c447d26", checked := Try.checked }
namespace Rows
def none {H : Type} : Left H := { results := [], args := [] }

/-- 'laws.FnExactIsDrawn': WHATEVER THE INPUT: true; the input reads as it did. -/
def fnExactIsDrawnSpec : ChangeSpec := { name := "fnExactIsDrawn", fn := fun _ => fun
  | [d] => { results := [.lit (.bool true)], args := [d] }
  | _ => none }
def fnExactIsDrawnRow : OpenClaim := { program := "ytofmaimjbcpaiaa", sum := "b2a787b2f7ccbc131f9929d54ed746828b56aeafe69b6cc505a069611c447d26", func := "loop.example/g03010/laws.FnExactIsDrawn", spec := "fnExactIsDrawn", apart := false }
def FnExactIsDrawnSaid : Prop := fnExactIsDrawnRow.holds Try.pinned (OpenSpec.ofChange fnExactIsDrawnSpec)

/-- ITS FALSE NEIGHBOUR: 'it returns false'. Refute it at one input. -/
def fnExactIsDrawnWrong : ChangeSpec := { name := "fnExactIsDrawn", fn := fun _ => fun
  | [d] => { results := [.lit (.bool false)], args := [d] }
  | _ => none }
def FnExactIsDrawnWrongFalsely : Prop := fnExactIsDrawnRow.holds Try.pinned (OpenSpec.ofChange fnExactIsDrawnWrong)

/-- 'laws.FnExactLoser': WHATEVER THE INPUT: true; the input reads as it did. -/
def fnExactLoserSpec : ChangeSpec := { name := "fnExactLoser", fn := fun _ => fun
  | [d] => { results := [.lit (.bool true)], args := [d] }
  | _ => none }
def fnExactLoserRow : OpenClaim := { program := "ytofmaimjbcpaiaa", sum := "b2a787b2f7ccbc131f9929d54ed746828b56aeafe69b6cc505a069611c447d26", func := "loop.example/g03010/laws.FnExactLoser", spec := "fnExactLoser", apart := false }
def FnExactLoserSaid : Prop := fnExactLoserRow.holds Try.pinned (OpenSpec.ofChange fnExactLoserSpec)

/-- ITS FALSE NEIGHBOUR: 'it returns false'. Refute it at one input. -/
def fnExactLoserWrong : ChangeSpec := { name := "fnExactLoser", fn := fun _ => fun
  | [d] => { results := [.lit (.bool false)], args := [d] }
  | _ => none }
def FnExactLoserWrongFalsely : Prop := fnExactLoserRow.holds Try.pinned (OpenSpec.ofChange fnExactLoserWrong)

/-- 'laws.FnExactEqualTables': WHATEVER THE INPUT: true; the input reads as it did. -/
def fnExactEqualTablesSpec : ChangeSpec := { name := "fnExactEqualTables", fn := fun _ => fun
  | [d1, d2] => { results := [.lit (.bool true)], args := [d1, d2] }
  | _ => none }
def fnExactEqualTablesRow : OpenClaim := { program := "ytofmaimjbcpaiaa", sum := "b2a787b2f7ccbc131f9929d54ed746828b56aeafe69b6cc505a069611c447d26", func := "loop.example/g03010/laws.FnExactEqualTables", spec := "fnExactEqualTables", apart := false }
def FnExactEqualTablesSaid : Prop := fnExactEqualTablesRow.holds Try.pinned (OpenSpec.ofChange fnExactEqualTablesSpec)

/-- ITS FALSE NEIGHBOUR: 'it returns false'. Refute it at one input. -/
def fnExactEqualTablesWrong : ChangeSpec := { name := "fnExactEqualTables", fn := fun _ => fun
  | [d1, d2] => { results := [.lit (.bool false)], args := [d1, d2] }
  | _ => none }
def FnExactEqualTablesWrongFalsely : Prop := fnExactEqualTablesRow.holds Try.pinned (OpenSpec.ofChange fnExactEqualTablesWrong)

/-- 'laws.FnExactLeftPoints': WHATEVER THE INPUT: true; the input reads as it did. -/
def fnExactLeftPointsSpec : ChangeSpec := { name := "fnExactLeftPoints", fn := fun _ => fun
  | [d] => { results := [.lit (.bool true)], args := [d] }
  | _ => none }
def fnExactLeftPointsRow : OpenClaim := { program := "ytofmaimjbcpaiaa", sum := "b2a787b2f7ccbc131f9929d54ed746828b56aeafe69b6cc505a069611c447d26", func := "loop.example/g03010/laws.FnExactLeftPoints", spec := "fnExactLeftPoints", apart := false }
def FnExactLeftPointsSaid : Prop := fnExactLeftPointsRow.holds Try.pinned (OpenSpec.ofChange fnExactLeftPointsSpec)

/-- ITS FALSE NEIGHBOUR: 'it returns false'. Refute it at one input. -/
def fnExactLeftPointsWrong : ChangeSpec := { name := "fnExactLeftPoints", fn := fun _ => fun
  | [d] => { results := [.lit (.bool false)], args := [d] }
  | _ => none }
def FnExactLeftPointsWrongFalsely : Prop := fnExactLeftPointsRow.holds Try.pinned (OpenSpec.ofChange fnExactLeftPointsWrong)

/-- 'laws.FnExactNewGame': WHATEVER THE INPUT: true; the input reads as it did. -/
def fnExactNewGameSpec : ChangeSpec := { name := "fnExactNewGame", fn := fun _ => fun
  | [d1, d2] => { results := [.lit (.bool true)], args := [d1, d2] }
  | _ => none }
def fnExactNewGameRow : OpenClaim := { program := "ytofmaimjbcpaiaa", sum := "b2a787b2f7ccbc131f9929d54ed746828b56aeafe69b6cc505a069611c447d26", func := "loop.example/g03010/laws.FnExactNewGame", spec := "fnExactNewGame", apart := false }
def FnExactNewGameSaid : Prop := fnExactNewGameRow.holds Try.pinned (OpenSpec.ofChange fnExactNewGameSpec)

/-- ITS FALSE NEIGHBOUR: 'it returns false'. Refute it at one input. -/
def fnExactNewGameWrong : ChangeSpec := { name := "fnExactNewGame", fn := fun _ => fun
  | [d1, d2] => { results := [.lit (.bool false)], args := [d1, d2] }
  | _ => none }
def FnExactNewGameWrongFalsely : Prop := fnExactNewGameRow.holds Try.pinned (OpenSpec.ofChange fnExactNewGameWrong)

/-- 'laws.FnExactNewTable': WHATEVER THE INPUT: true; the input reads as it did. -/
def fnExactNewTableSpec : ChangeSpec := { name := "fnExactNewTable", fn := fun _ => fun
  | [d] => { results := [.lit (.bool true)], args := [d] }
  | _ => none }
def fnExactNewTableRow : OpenClaim := { program := "ytofmaimjbcpaiaa", sum := "b2a787b2f7ccbc131f9929d54ed746828b56aeafe69b6cc505a069611c447d26", func := "loop.example/g03010/laws.FnExactNewTable", spec := "fnExactNewTable", apart := false }
def FnExactNewTableSaid : Prop := fnExactNewTableRow.holds Try.pinned (OpenSpec.ofChange fnExactNewTableSpec)

/-- ITS FALSE NEIGHBOUR: 'it returns false'. Refute it at one input. -/
def fnExactNewTableWrong : ChangeSpec := { name := "fnExactNewTable", fn := fun _ => fun
  | [d] => { results := [.lit (.bool false)], args := [d] }
  | _ => none }
def FnExactNewTableWrongFalsely : Prop := fnExactNewTableRow.holds Try.pinned (OpenSpec.ofChange fnExactNewTableWrong)

/-- 'laws.FnExactOrderOf': WHATEVER THE INPUT: true; the input reads as it did. -/
def fnExactOrderOfSpec : ChangeSpec := { name := "fnExactOrderOf", fn := fun _ => fun
  | [d] => { results := [.lit (.bool true)], args := [d] }
  | _ => none }
def fnExactOrderOfRow : OpenClaim := { program := "ytofmaimjbcpaiaa", sum := "b2a787b2f7ccbc131f9929d54ed746828b56aeafe69b6cc505a069611c447d26", func := "loop.example/g03010/laws.FnExactOrderOf", spec := "fnExactOrderOf", apart := false }
def FnExactOrderOfSaid : Prop := fnExactOrderOfRow.holds Try.pinned (OpenSpec.ofChange fnExactOrderOfSpec)

/-- ITS FALSE NEIGHBOUR: 'it returns false'. Refute it at one input. -/
def fnExactOrderOfWrong : ChangeSpec := { name := "fnExactOrderOf", fn := fun _ => fun
  | [d] => { results := [.lit (.bool false)], args := [d] }
  | _ => none }
def FnExactOrderOfWrongFalsely : Prop := fnExactOrderOfRow.holds Try.pinned (OpenSpec.ofChange fnExactOrderOfWrong)

/-- 'laws.FnExactPeekOf': WHATEVER THE INPUT: true; the input reads as it did. -/
def fnExactPeekOfSpec : ChangeSpec := { name := "fnExactPeekOf", fn := fun _ => fun
  | [d1, d2] => { results := [.lit (.bool true)], args := [d1, d2] }
  | _ => none }
def fnExactPeekOfRow : OpenClaim := { program := "ytofmaimjbcpaiaa", sum := "b2a787b2f7ccbc131f9929d54ed746828b56aeafe69b6cc505a069611c447d26", func := "loop.example/g03010/laws.FnExactPeekOf", spec := "fnExactPeekOf", apart := false }
def FnExactPeekOfSaid : Prop := fnExactPeekOfRow.holds Try.pinned (OpenSpec.ofChange fnExactPeekOfSpec)

/-- ITS FALSE NEIGHBOUR: 'it returns false'. Refute it at one input. -/
def fnExactPeekOfWrong : ChangeSpec := { name := "fnExactPeekOf", fn := fun _ => fun
  | [d1, d2] => { results := [.lit (.bool false)], args := [d1, d2] }
  | _ => none }
def FnExactPeekOfWrongFalsely : Prop := fnExactPeekOfRow.holds Try.pinned (OpenSpec.ofChange fnExactPeekOfWrong)

/-- 'laws.FnExactSettled': WHATEVER THE INPUT: true; the input reads as it did. -/
def fnExactSettledSpec : ChangeSpec := { name := "fnExactSettled", fn := fun _ => fun
  | [d] => { results := [.lit (.bool true)], args := [d] }
  | _ => none }
def fnExactSettledRow : OpenClaim := { program := "ytofmaimjbcpaiaa", sum := "b2a787b2f7ccbc131f9929d54ed746828b56aeafe69b6cc505a069611c447d26", func := "loop.example/g03010/laws.FnExactSettled", spec := "fnExactSettled", apart := false }
def FnExactSettledSaid : Prop := fnExactSettledRow.holds Try.pinned (OpenSpec.ofChange fnExactSettledSpec)

/-- ITS FALSE NEIGHBOUR: 'it returns false'. Refute it at one input. -/
def fnExactSettledWrong : ChangeSpec := { name := "fnExactSettled", fn := fun _ => fun
  | [d] => { results := [.lit (.bool false)], args := [d] }
  | _ => none }
def FnExactSettledWrongFalsely : Prop := fnExactSettledRow.holds Try.pinned (OpenSpec.ofChange fnExactSettledWrong)

/-- 'laws.FnExactTakeCards': WHATEVER THE INPUT: true; the input reads as it did. -/
def fnExactTakeCardsSpec : ChangeSpec := { name := "fnExactTakeCards", fn := fun _ => fun
  | [d] => { results := [.lit (.bool true)], args := [d] }
  | _ => none }
def fnExactTakeCardsRow : OpenClaim := { program := "ytofmaimjbcpaiaa", sum := "b2a787b2f7ccbc131f9929d54ed746828b56aeafe69b6cc505a069611c447d26", func := "loop.example/g03010/laws.FnExactTakeCards", spec := "fnExactTakeCards", apart := false }
def FnExactTakeCardsSaid : Prop := fnExactTakeCardsRow.holds Try.pinned (OpenSpec.ofChange fnExactTakeCardsSpec)

/-- ITS FALSE NEIGHBOUR: 'it returns false'. Refute it at one input. -/
def fnExactTakeCardsWrong : ChangeSpec := { name := "fnExactTakeCards", fn := fun _ => fun
  | [d] => { results := [.lit (.bool false)], args := [d] }
  | _ => none }
def FnExactTakeCardsWrongFalsely : Prop := fnExactTakeCardsRow.holds Try.pinned (OpenSpec.ofChange fnExactTakeCardsWrong)

/-- 'laws.FnExactStirHidden': WHATEVER THE INPUT: true; the input reads as it did. -/
def fnExactStirHiddenSpec : ChangeSpec := { name := "fnExactStirHidden", fn := fun _ => fun
  | [d1, d2, d3] => { results := [.lit (.bool true)], args := [d1, d2, d3] }
  | _ => none }
def fnExactStirHiddenRow : OpenClaim := { program := "ytofmaimjbcpaiaa", sum := "b2a787b2f7ccbc131f9929d54ed746828b56aeafe69b6cc505a069611c447d26", func := "loop.example/g03010/laws.FnExactStirHidden", spec := "fnExactStirHidden", apart := false }
def FnExactStirHiddenSaid : Prop := fnExactStirHiddenRow.holds Try.pinned (OpenSpec.ofChange fnExactStirHiddenSpec)

/-- ITS FALSE NEIGHBOUR: 'it returns false'. Refute it at one input. -/
def fnExactStirHiddenWrong : ChangeSpec := { name := "fnExactStirHidden", fn := fun _ => fun
  | [d1, d2, d3] => { results := [.lit (.bool false)], args := [d1, d2, d3] }
  | _ => none }
def FnExactStirHiddenWrongFalsely : Prop := fnExactStirHiddenRow.holds Try.pinned (OpenSpec.ofChange fnExactStirHiddenWrong)

/-- 'laws.FnExactPlayOn': WHATEVER THE INPUT: true; the input reads as it did. -/
def fnExactPlayOnSpec : ChangeSpec := { name := "fnExactPlayOn", fn := fun _ => fun
  | [d1, d2] => { results := [.lit (.bool true)], args := [d1, d2] }
  | _ => none }
def fnExactPlayOnRow : OpenClaim := { program := "ytofmaimjbcpaiaa", sum := "b2a787b2f7ccbc131f9929d54ed746828b56aeafe69b6cc505a069611c447d26", func := "loop.example/g03010/laws.FnExactPlayOn", spec := "fnExactPlayOn", apart := false }
def FnExactPlayOnSaid : Prop := fnExactPlayOnRow.holds Try.pinned (OpenSpec.ofChange fnExactPlayOnSpec)

/-- ITS FALSE NEIGHBOUR: 'it returns false'. Refute it at one input. -/
def fnExactPlayOnWrong : ChangeSpec := { name := "fnExactPlayOn", fn := fun _ => fun
  | [d1, d2] => { results := [.lit (.bool false)], args := [d1, d2] }
  | _ => none }
def FnExactPlayOnWrongFalsely : Prop := fnExactPlayOnRow.holds Try.pinned (OpenSpec.ofChange fnExactPlayOnWrong)

/- THE SECOND FORM. 'bulk': how many values and letters a reading holds, each counted each time it is reached (what is shared counts as often as it is met; a slice's spare places count too). A statement '..UptoSaid' is the law's where the arguments, and the package variables that the reading takes, are together of bulk at most 1048576: NARROWER than '..Said'. Prove '..Said' where nothing that the law and all that it calls make is longer than what came in: it says more and counts as full. Else prove '..UptoSaid'. A law counts once. -/
mutual
def uptoBulk {H : Type} : DataW H → Nat
  | .lit (.string bytes) => bytes.length + 1
  | .lit _ => 1
  | .nil => 1
  | .ptr d => uptoBulk d + 1
  | .slice elems spare => uptoBulkAll elems + uptoBulkAll spare + 1
  | .agg parts => uptoBulkAll parts + 1
  | .iface _ d => uptoBulk d + 1
  | .map entries => uptoBulkEntries entries + 1
  | .held _ => 1
def uptoBulkAll {H : Type} : List (DataW H) → Nat
  | [] => 0
  | d :: r => uptoBulk d + uptoBulkAll r
def uptoBulkEntries {H : Type} : List (Lit × DataW H) → Nat
  | [] => 0
  | x :: r => uptoBulkEntry x + uptoBulkEntries r
def uptoBulkEntry {H : Type} : Lit × DataW H → Nat
  | (.string bytes, d) => bytes.length + uptoBulk d + 1
  | (_, d) => uptoBulk d + 1
 end
def uptoSmall : (H : Type) → List (DataW H) → Bool := fun _ ds => decide (uptoBulkAll ds ≤ 1048576)
def OpenSpec.upto (s : _root_.Go.ChangeSpec) : _root_.Go.OpenSpec := { _root_.Go.OpenSpec.ofChange s with cond := some uptoSmall }

/-- 'laws.FnExactIsDrawn', WHERE WHAT IT READS IS OF BULK AT MOST 1048576: true; the input reads as it did. -/
def fnExactIsDrawnUptoRow : OpenClaim := { program := "ytofmaimjbcpaiaa", sum := "b2a787b2f7ccbc131f9929d54ed746828b56aeafe69b6cc505a069611c447d26", func := "loop.example/g03010/laws.FnExactIsDrawn", spec := "fnExactIsDrawn", apart := false, narrowed := true }
def FnExactIsDrawnUptoSaid : Prop := fnExactIsDrawnUptoRow.holds Try.pinned (OpenSpec.upto fnExactIsDrawnSpec)

/-- 'laws.FnExactLoser', WHERE WHAT IT READS IS OF BULK AT MOST 1048576: true; the input reads as it did. -/
def fnExactLoserUptoRow : OpenClaim := { program := "ytofmaimjbcpaiaa", sum := "b2a787b2f7ccbc131f9929d54ed746828b56aeafe69b6cc505a069611c447d26", func := "loop.example/g03010/laws.FnExactLoser", spec := "fnExactLoser", apart := false, narrowed := true }
def FnExactLoserUptoSaid : Prop := fnExactLoserUptoRow.holds Try.pinned (OpenSpec.upto fnExactLoserSpec)

/-- 'laws.FnExactEqualTables', WHERE WHAT IT READS IS OF BULK AT MOST 1048576: true; the input reads as it did. -/
def fnExactEqualTablesUptoRow : OpenClaim := { program := "ytofmaimjbcpaiaa", sum := "b2a787b2f7ccbc131f9929d54ed746828b56aeafe69b6cc505a069611c447d26", func := "loop.example/g03010/laws.FnExactEqualTables", spec := "fnExactEqualTables", apart := false, narrowed := true }
def FnExactEqualTablesUptoSaid : Prop := fnExactEqualTablesUptoRow.holds Try.pinned (OpenSpec.upto fnExactEqualTablesSpec)

/-- 'laws.FnExactLeftPoints', WHERE WHAT IT READS IS OF BULK AT MOST 1048576: true; the input reads as it did. -/
def fnExactLeftPointsUptoRow : OpenClaim := { program := "ytofmaimjbcpaiaa", sum := "b2a787b2f7ccbc131f9929d54ed746828b56aeafe69b6cc505a069611c447d26", func := "loop.example/g03010/laws.FnExactLeftPoints", spec := "fnExactLeftPoints", apart := false, narrowed := true }
def FnExactLeftPointsUptoSaid : Prop := fnExactLeftPointsUptoRow.holds Try.pinned (OpenSpec.upto fnExactLeftPointsSpec)

/-- 'laws.FnExactNewGame', WHERE WHAT IT READS IS OF BULK AT MOST 1048576: true; the input reads as it did. -/
def fnExactNewGameUptoRow : OpenClaim := { program := "ytofmaimjbcpaiaa", sum := "b2a787b2f7ccbc131f9929d54ed746828b56aeafe69b6cc505a069611c447d26", func := "loop.example/g03010/laws.FnExactNewGame", spec := "fnExactNewGame", apart := false, narrowed := true }
def FnExactNewGameUptoSaid : Prop := fnExactNewGameUptoRow.holds Try.pinned (OpenSpec.upto fnExactNewGameSpec)

/-- 'laws.FnExactNewTable', WHERE WHAT IT READS IS OF BULK AT MOST 1048576: true; the input reads as it did. -/
def fnExactNewTableUptoRow : OpenClaim := { program := "ytofmaimjbcpaiaa", sum := "b2a787b2f7ccbc131f9929d54ed746828b56aeafe69b6cc505a069611c447d26", func := "loop.example/g03010/laws.FnExactNewTable", spec := "fnExactNewTable", apart := false, narrowed := true }
def FnExactNewTableUptoSaid : Prop := fnExactNewTableUptoRow.holds Try.pinned (OpenSpec.upto fnExactNewTableSpec)

/-- 'laws.FnExactOrderOf', WHERE WHAT IT READS IS OF BULK AT MOST 1048576: true; the input reads as it did. -/
def fnExactOrderOfUptoRow : OpenClaim := { program := "ytofmaimjbcpaiaa", sum := "b2a787b2f7ccbc131f9929d54ed746828b56aeafe69b6cc505a069611c447d26", func := "loop.example/g03010/laws.FnExactOrderOf", spec := "fnExactOrderOf", apart := false, narrowed := true }
def FnExactOrderOfUptoSaid : Prop := fnExactOrderOfUptoRow.holds Try.pinned (OpenSpec.upto fnExactOrderOfSpec)

/-- 'laws.FnExactPeekOf', WHERE WHAT IT READS IS OF BULK AT MOST 1048576: true; the input reads as it did. -/
def fnExactPeekOfUptoRow : OpenClaim := { program := "ytofmaimjbcpaiaa", sum := "b2a787b2f7ccbc131f9929d54ed746828b56aeafe69b6cc505a069611c447d26", func := "loop.example/g03010/laws.FnExactPeekOf", spec := "fnExactPeekOf", apart := false, narrowed := true }
def FnExactPeekOfUptoSaid : Prop := fnExactPeekOfUptoRow.holds Try.pinned (OpenSpec.upto fnExactPeekOfSpec)

/-- 'laws.FnExactSettled', WHERE WHAT IT READS IS OF BULK AT MOST 1048576: true; the input reads as it did. -/
def fnExactSettledUptoRow : OpenClaim := { program := "ytofmaimjbcpaiaa", sum := "b2a787b2f7ccbc131f9929d54ed746828b56aeafe69b6cc505a069611c447d26", func := "loop.example/g03010/laws.FnExactSettled", spec := "fnExactSettled", apart := false, narrowed := true }
def FnExactSettledUptoSaid : Prop := fnExactSettledUptoRow.holds Try.pinned (OpenSpec.upto fnExactSettledSpec)

/-- 'laws.FnExactTakeCards', WHERE WHAT IT READS IS OF BULK AT MOST 1048576: true; the input reads as it did. -/
def fnExactTakeCardsUptoRow : OpenClaim := { program := "ytofmaimjbcpaiaa", sum := "b2a787b2f7ccbc131f9929d54ed746828b56aeafe69b6cc505a069611c447d26", func := "loop.example/g03010/laws.FnExactTakeCards", spec := "fnExactTakeCards", apart := false, narrowed := true }
def FnExactTakeCardsUptoSaid : Prop := fnExactTakeCardsUptoRow.holds Try.pinned (OpenSpec.upto fnExactTakeCardsSpec)

/-- 'laws.FnExactStirHidden', WHERE WHAT IT READS IS OF BULK AT MOST 1048576: true; the input reads as it did. -/
def fnExactStirHiddenUptoRow : OpenClaim := { program := "ytofmaimjbcpaiaa", sum := "b2a787b2f7ccbc131f9929d54ed746828b56aeafe69b6cc505a069611c447d26", func := "loop.example/g03010/laws.FnExactStirHidden", spec := "fnExactStirHidden", apart := false, narrowed := true }
def FnExactStirHiddenUptoSaid : Prop := fnExactStirHiddenUptoRow.holds Try.pinned (OpenSpec.upto fnExactStirHiddenSpec)

/-- 'laws.FnExactPlayOn', WHERE WHAT IT READS IS OF BULK AT MOST 1048576: true; the input reads as it did. -/
def fnExactPlayOnUptoRow : OpenClaim := { program := "ytofmaimjbcpaiaa", sum := "b2a787b2f7ccbc131f9929d54ed746828b56aeafe69b6cc505a069611c447d26", func := "loop.example/g03010/laws.FnExactPlayOn", spec := "fnExactPlayOn", apart := false, narrowed := true }
def FnExactPlayOnUptoSaid : Prop := fnExactPlayOnUptoRow.holds Try.pinned (OpenSpec.upto fnExactPlayOnSpec)

end Rows
end Go.Proofs.Ytofmaimjbcpaiaa
