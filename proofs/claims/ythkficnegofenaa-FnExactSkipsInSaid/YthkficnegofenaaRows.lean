/-
  No cell of these rows narrows 'for every input' (looked for: loops, veiled, ifaces, maps, wideKeys, modest, calm, conditions, laid).
  DERIVED. THE GIVEN ROWS OF THIS SEAT. 5 by the template 'for every input the law returns true; each argument reads behind the call as it read before'; 0 by the template 'total and deterministic' (their statements: YthkficnegofenaaTotals.lean).
  GIVEN WITH THE SEED: the statements are not yours to turn. If you find one false, say at which input.
  Laid BY PROGRAM, IN A SANDBOX (cutbox-rows.mjs): the forced cells as the released guide's own fill.sh prints them over the translation 73e0891136bb5c0c… (all of the seat's roots in one cut). By AI agents, Wed Nov 11 2026. No macro, syntax, notation, axiom, sorry.
-/
import Derived.Test.YthkficnegofenaaChecked
import GoSem.Claim
import GoSem.ClaimJoined
import GoSem.ClaimMapViews
import Derived.JoinedTies
import Derived.KernelRfl
namespace Go.Proofs.Ythkficnegofenaa
/- THE CELL 'sum', in the pinned program and in every row, IS THE sha256 OF THE DUMP (.gsa) THAT YthkficnegofenaaProg.lean LOADS. Nothing in Lean hashes anything: it is a label: what it is worth is what the hold of that sum in a sandbox is worth. -/
noncomputable def Try.pinned : Pinned := { name := "ythkficnegofenaa", sum := "73e0891136bb5c0cbbf11b7fdf97cae96f7af87f37eb4f6e6037a660f618a6cc", checked := Try.checked }
namespace Rows
def none {H : Type} : Left H := { results := [], args := [] }

/-- 'laws.FnExactStacked': WHATEVER THE INPUT: true; the input reads as it did. -/
def fnExactStackedSpec : ChangeSpec := { name := "fnExactStacked", fn := fun _ => fun
  | [d1, d2] => { results := [.lit (.bool true)], args := [d1, d2] }
  | _ => none }
def fnExactStackedRow : OpenClaim := { program := "ythkficnegofenaa", sum := "73e0891136bb5c0cbbf11b7fdf97cae96f7af87f37eb4f6e6037a660f618a6cc", func := "loop.example/g03010/laws.FnExactStacked", spec := "fnExactStacked", apart := false }
def FnExactStackedSaid : Prop := fnExactStackedRow.holds Try.pinned (OpenSpec.ofChange fnExactStackedSpec)

/-- ITS FALSE NEIGHBOUR: 'it returns false'. Refute it at one input. -/
def fnExactStackedWrong : ChangeSpec := { name := "fnExactStacked", fn := fun _ => fun
  | [d1, d2] => { results := [.lit (.bool false)], args := [d1, d2] }
  | _ => none }
def FnExactStackedWrongFalsely : Prop := fnExactStackedRow.holds Try.pinned (OpenSpec.ofChange fnExactStackedWrong)

/-- 'laws.FnExactGamesPlayed': WHATEVER THE INPUT: true; the input reads as it did. -/
def fnExactGamesPlayedSpec : ChangeSpec := { name := "fnExactGamesPlayed", fn := fun _ => fun
  | [d] => { results := [.lit (.bool true)], args := [d] }
  | _ => none }
def fnExactGamesPlayedRow : OpenClaim := { program := "ythkficnegofenaa", sum := "73e0891136bb5c0cbbf11b7fdf97cae96f7af87f37eb4f6e6037a660f618a6cc", func := "loop.example/g03010/laws.FnExactGamesPlayed", spec := "fnExactGamesPlayed", apart := false }
def FnExactGamesPlayedSaid : Prop := fnExactGamesPlayedRow.holds Try.pinned (OpenSpec.ofChange fnExactGamesPlayedSpec)

/-- ITS FALSE NEIGHBOUR: 'it returns false'. Refute it at one input. -/
def fnExactGamesPlayedWrong : ChangeSpec := { name := "fnExactGamesPlayed", fn := fun _ => fun
  | [d] => { results := [.lit (.bool false)], args := [d] }
  | _ => none }
def FnExactGamesPlayedWrongFalsely : Prop := fnExactGamesPlayedRow.holds Try.pinned (OpenSpec.ofChange fnExactGamesPlayedWrong)

/-- 'laws.FnExactIsSealed': WHATEVER THE INPUT: true; the input reads as it did. -/
def fnExactIsSealedSpec : ChangeSpec := { name := "fnExactIsSealed", fn := fun _ => fun
  | [d] => { results := [.lit (.bool true)], args := [d] }
  | _ => none }
def fnExactIsSealedRow : OpenClaim := { program := "ythkficnegofenaa", sum := "73e0891136bb5c0cbbf11b7fdf97cae96f7af87f37eb4f6e6037a660f618a6cc", func := "loop.example/g03010/laws.FnExactIsSealed", spec := "fnExactIsSealed", apart := false }
def FnExactIsSealedSaid : Prop := fnExactIsSealedRow.holds Try.pinned (OpenSpec.ofChange fnExactIsSealedSpec)

/-- ITS FALSE NEIGHBOUR: 'it returns false'. Refute it at one input. -/
def fnExactIsSealedWrong : ChangeSpec := { name := "fnExactIsSealed", fn := fun _ => fun
  | [d] => { results := [.lit (.bool false)], args := [d] }
  | _ => none }
def FnExactIsSealedWrongFalsely : Prop := fnExactIsSealedRow.holds Try.pinned (OpenSpec.ofChange fnExactIsSealedWrong)

/-- 'laws.FnExactSkipsIn': WHATEVER THE INPUT: true; the input reads as it did. -/
def fnExactSkipsInSpec : ChangeSpec := { name := "fnExactSkipsIn", fn := fun _ => fun
  | [d1, d2] => { results := [.lit (.bool true)], args := [d1, d2] }
  | _ => none }
def fnExactSkipsInRow : OpenClaim := { program := "ythkficnegofenaa", sum := "73e0891136bb5c0cbbf11b7fdf97cae96f7af87f37eb4f6e6037a660f618a6cc", func := "loop.example/g03010/laws.FnExactSkipsIn", spec := "fnExactSkipsIn", apart := false }
def FnExactSkipsInSaid : Prop := fnExactSkipsInRow.holds Try.pinned (OpenSpec.ofChange fnExactSkipsInSpec)

/-- ITS FALSE NEIGHBOUR: 'it returns false'. Refute it at one input. -/
def fnExactSkipsInWrong : ChangeSpec := { name := "fnExactSkipsIn", fn := fun _ => fun
  | [d1, d2] => { results := [.lit (.bool false)], args := [d1, d2] }
  | _ => none }
def FnExactSkipsInWrongFalsely : Prop := fnExactSkipsInRow.holds Try.pinned (OpenSpec.ofChange fnExactSkipsInWrong)

/-- 'laws.FnPiles': WHATEVER THE INPUT: true; the input reads as it did. -/
def fnPilesSpec : ChangeSpec := { name := "fnPiles", fn := fun _ => fun
  | [d] => { results := [.lit (.bool true)], args := [d] }
  | _ => none }
def fnPilesRow : OpenClaim := { program := "ythkficnegofenaa", sum := "73e0891136bb5c0cbbf11b7fdf97cae96f7af87f37eb4f6e6037a660f618a6cc", func := "loop.example/g03010/laws.FnPiles", spec := "fnPiles", apart := false }
def FnPilesSaid : Prop := fnPilesRow.holds Try.pinned (OpenSpec.ofChange fnPilesSpec)

/-- ITS FALSE NEIGHBOUR: 'it returns false'. Refute it at one input. -/
def fnPilesWrong : ChangeSpec := { name := "fnPiles", fn := fun _ => fun
  | [d] => { results := [.lit (.bool false)], args := [d] }
  | _ => none }
def FnPilesWrongFalsely : Prop := fnPilesRow.holds Try.pinned (OpenSpec.ofChange fnPilesWrong)

/- THE SECOND FORM. 'bulk': how many values and letters a reading holds, each counted each time it is reached (what is shared counts as often as it is met; a slice's spare places count too). A statement '..UptoSaid' is the law's where the arguments, and the package variables that the reading takes, are together of bulk at most 1048576: NARROWER than '..Said'. Prove '..Said' where nothing that the law and all that it calls make is longer than what came in: it says more and counts as full. Else prove '..UptoSaid'. A law counts once. -/
mutual
def uptoBulk {H : Type} : DataW H → Nat
  | .lit (.string bytes) => bytes.length + 1
  | .lit _ => 1
  | .nil => 1
  | .ptr d => uptoBulk d + 1
  | .slice elems spare => uptoBulkAll elems + uptoBulkAll spare + 1
  | .agg parts => uptoBulkAll parts + 1
  | .iface _ d => uptoBulk d + 1
  | .map entries => uptoBulkEntries entries + 1
  | .held _ => 1
def uptoBulkAll {H : Type} : List (DataW H) → Nat
  | [] => 0
  | d :: r => uptoBulk d + uptoBulkAll r
def uptoBulkEntries {H : Type} : List (Lit × DataW H) → Nat
  | [] => 0
  | x :: r => uptoBulkEntry x + uptoBulkEntries r
def uptoBulkEntry {H : Type} : Lit × DataW H → Nat
  | (.string bytes, d) => bytes.length + uptoBulk d + 1
  | (_, d) => uptoBulk d + 1
 end
def uptoSmall : (H : Type) → List (DataW H) → Bool := fun _ ds => decide (uptoBulkAll ds ≤ 1048576)
def OpenSpec.upto (s : _root_.Go.ChangeSpec) : _root_.Go.OpenSpec := { _root_.Go.OpenSpec.ofChange s with cond := some uptoSmall }

/-- 'laws.FnExactStacked', WHERE WHAT IT READS IS OF BULK AT MOST 1048576: true; the input reads as it did. -/
def fnExactStackedUptoRow : OpenClaim := { program := "ythkficnegofenaa", sum := "73e0891136bb5c0cbbf11b7fdf97cae96f7af87f37eb4f6e6037a660f618a6cc", func := "loop.example/g03010/laws.FnExactStacked", spec := "fnExactStacked", apart := false, narrowed := true }
def FnExactStackedUptoSaid : Prop := fnExactStackedUptoRow.holds Try.pinned (OpenSpec.upto fnExactStackedSpec)

/-- 'laws.FnExactGamesPlayed', WHERE WHAT IT READS IS OF BULK AT MOST 1048576: true; the input reads as it did. -/
def fnExactGamesPlayedUptoRow : OpenClaim := { program := "ythkficnegofenaa", sum := "73e0891136bb5c0cbbf11b7fdf97cae96f7af87f37eb4f6e6037a660f618a6cc", func := "loop.example/g03010/laws.FnExactGamesPlayed", spec := "fnExactGamesPlayed", apart := false, narrowed := true }
def FnExactGamesPlayedUptoSaid : Prop := fnExactGamesPlayedUptoRow.holds Try.pinned (OpenSpec.upto fnExactGamesPlayedSpec)

/-- 'laws.FnExactIsSealed', WHERE WHAT IT READS IS OF BULK AT MOST 1048576: true; the input reads as it did. -/
def fnExactIsSealedUptoRow : OpenClaim := { program := "ythkficnegofenaa", sum := "73e0891136bb5c0cbbf11b7fdf97cae96f7af87f37eb4f6e6037a660f618a6cc", func := "loop.example/g03010/laws.FnExactIsSealed", spec := "fnExactIsSealed", apart := false, narrowed := true }
def FnExactIsSealedUptoSaid : Prop := fnExactIsSealedUptoRow.holds Try.pinned (OpenSpec.upto fnExactIsSealedSpec)

/-- 'laws.FnExactSkipsIn', WHERE WHAT IT READS IS OF BULK AT MOST 1048576: true; the input reads as it did. -/
def fnExactSkipsInUptoRow : OpenClaim := { program := "ythkficnegofenaa", sum := "73e0891136bb5c0cbbf11b7fdf97cae96f7af87f37eb4f6e6037a660f618a6cc", func := "loop.example/g03010/laws.FnExactSkipsIn", spec := "fnExactSkipsIn", apart := false, narrowed := true }
def FnExactSkipsInUptoSaid : Prop := fnExactSkipsInUptoRow.holds Try.pinned (OpenSpec.upto fnExactSkipsInSpec)

/-- 'laws.FnPiles', WHERE WHAT IT READS IS OF BULK AT MOST 1048576: true; the input reads as it did. -/
def fnPilesUptoRow : OpenClaim := { program := "ythkficnegofenaa", sum := "73e0891136bb5c0cbbf11b7fdf97cae96f7af87f37eb4f6e6037a660f618a6cc", func := "loop.example/g03010/laws.FnPiles", spec := "fnPiles", apart := false, narrowed := true }
def FnPilesUptoSaid : Prop := fnPilesUptoRow.holds Try.pinned (OpenSpec.upto fnPilesSpec)

end Rows
end Go.Proofs.Ythkficnegofenaa
