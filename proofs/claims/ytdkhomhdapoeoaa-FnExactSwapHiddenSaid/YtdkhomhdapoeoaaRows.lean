/-
  No cell of these rows narrows 'for every input' (looked for: loops, veiled, ifaces, maps, wideKeys, modest, calm, conditions, laid).
  DERIVED. THE GIVEN ROWS OF THIS SEAT. 8 by the template 'for every input the law returns true; each argument reads behind the call as it read before'; 0 by the template 'total and deterministic' (their statements: YtdkhomhdapoeoaaTotals.lean).
  GIVEN WITH THE SEED: the statements are not yours to turn. If you find one false, say at which input.
  Laid BY PROGRAM, IN A SANDBOX (cutbox-rows.mjs): the forced cells as the released guide's own fill.sh prints them over the translation 8cfb38254aec9907… (all of the seat's roots in one cut). By AI agents, Wed Nov 11 2026. No macro, syntax, notation, axiom, sorry.
-/
import Derived.Test.YtdkhomhdapoeoaaChecked
import GoSem.Claim
import GoSem.ClaimJoined
import GoSem.ClaimMapViews
import Derived.JoinedTies
import Derived.KernelRfl
namespace Go.Proofs.Ytdkhomhdapoeoaa
/- THE CELL 'sum', in the pinned program and in every row, IS THE sha256 OF THE DUMP (.gsa) THAT YtdkhomhdapoeoaaProg.lean LOADS. Nothing in Lean hashes anything: it is a label: what it is worth is what the hold of that sum in a sandbox is worth. -/
noncomputable def Try.pinned : Pinned := { name := "ytdkhomhdapoeoaa", sum := "8cfb38254aec9907206a781e95f48186d32d127c48f58878e926e8823de037b0", checked := Try.checked }
namespace Rows
def none {H : Type} : Left H := { results := [], args := [] }

/-- 'laws.FnExactPlayCard': WHATEVER THE INPUT: true; the input reads as it did. -/
def fnExactPlayCardSpec : ChangeSpec := { name := "fnExactPlayCard", fn := fun _ => fun
  | [d1, d2] => { results := [.lit (.bool true)], args := [d1, d2] }
  | _ => none }
def fnExactPlayCardRow : OpenClaim := { program := "ytdkhomhdapoeoaa", sum := "8cfb38254aec9907206a781e95f48186d32d127c48f58878e926e8823de037b0", func := "loop.example/g03010/laws.FnExactPlayCard", spec := "fnExactPlayCard", apart := false }
def FnExactPlayCardSaid : Prop := fnExactPlayCardRow.holds Try.pinned (OpenSpec.ofChange fnExactPlayCardSpec)

/-- ITS FALSE NEIGHBOUR: 'it returns false'. Refute it at one input. -/
def fnExactPlayCardWrong : ChangeSpec := { name := "fnExactPlayCard", fn := fun _ => fun
  | [d1, d2] => { results := [.lit (.bool false)], args := [d1, d2] }
  | _ => none }
def FnExactPlayCardWrongFalsely : Prop := fnExactPlayCardRow.holds Try.pinned (OpenSpec.ofChange fnExactPlayCardWrong)

/-- 'laws.FnExactPlayAll': WHATEVER THE INPUT: true; the input reads as it did. -/
def fnExactPlayAllSpec : ChangeSpec := { name := "fnExactPlayAll", fn := fun _ => fun
  | [d1, d2] => { results := [.lit (.bool true)], args := [d1, d2] }
  | _ => none }
def fnExactPlayAllRow : OpenClaim := { program := "ytdkhomhdapoeoaa", sum := "8cfb38254aec9907206a781e95f48186d32d127c48f58878e926e8823de037b0", func := "loop.example/g03010/laws.FnExactPlayAll", spec := "fnExactPlayAll", apart := false }
def FnExactPlayAllSaid : Prop := fnExactPlayAllRow.holds Try.pinned (OpenSpec.ofChange fnExactPlayAllSpec)

/-- ITS FALSE NEIGHBOUR: 'it returns false'. Refute it at one input. -/
def fnExactPlayAllWrong : ChangeSpec := { name := "fnExactPlayAll", fn := fun _ => fun
  | [d1, d2] => { results := [.lit (.bool false)], args := [d1, d2] }
  | _ => none }
def FnExactPlayAllWrongFalsely : Prop := fnExactPlayAllRow.holds Try.pinned (OpenSpec.ofChange fnExactPlayAllWrong)

/-- 'laws.FnExactSwapHidden': WHATEVER THE INPUT: true; the input reads as it did. -/
def fnExactSwapHiddenSpec : ChangeSpec := { name := "fnExactSwapHidden", fn := fun _ => fun
  | [d1, d2, d3, d4, d5] => { results := [.lit (.bool true)], args := [d1, d2, d3, d4, d5] }
  | _ => none }
def fnExactSwapHiddenRow : OpenClaim := { program := "ytdkhomhdapoeoaa", sum := "8cfb38254aec9907206a781e95f48186d32d127c48f58878e926e8823de037b0", func := "loop.example/g03010/laws.FnExactSwapHidden", spec := "fnExactSwapHidden", apart := false }
def FnExactSwapHiddenSaid : Prop := fnExactSwapHiddenRow.holds Try.pinned (OpenSpec.ofChange fnExactSwapHiddenSpec)

/-- ITS FALSE NEIGHBOUR: 'it returns false'. Refute it at one input. -/
def fnExactSwapHiddenWrong : ChangeSpec := { name := "fnExactSwapHidden", fn := fun _ => fun
  | [d1, d2, d3, d4, d5] => { results := [.lit (.bool false)], args := [d1, d2, d3, d4, d5] }
  | _ => none }
def FnExactSwapHiddenWrongFalsely : Prop := fnExactSwapHiddenRow.holds Try.pinned (OpenSpec.ofChange fnExactSwapHiddenWrong)

/-- 'laws.FnExactReplayed': WHATEVER THE INPUT: true; the input reads as it did. -/
def fnExactReplayedSpec : ChangeSpec := { name := "fnExactReplayed", fn := fun _ => fun
  | [d1, d2] => { results := [.lit (.bool true)], args := [d1, d2] }
  | _ => none }
def fnExactReplayedRow : OpenClaim := { program := "ytdkhomhdapoeoaa", sum := "8cfb38254aec9907206a781e95f48186d32d127c48f58878e926e8823de037b0", func := "loop.example/g03010/laws.FnExactReplayed", spec := "fnExactReplayed", apart := false }
def FnExactReplayedSaid : Prop := fnExactReplayedRow.holds Try.pinned (OpenSpec.ofChange fnExactReplayedSpec)

/-- ITS FALSE NEIGHBOUR: 'it returns false'. Refute it at one input. -/
def fnExactReplayedWrong : ChangeSpec := { name := "fnExactReplayed", fn := fun _ => fun
  | [d1, d2] => { results := [.lit (.bool false)], args := [d1, d2] }
  | _ => none }
def FnExactReplayedWrongFalsely : Prop := fnExactReplayedRow.holds Try.pinned (OpenSpec.ofChange fnExactReplayedWrong)

/-- 'laws.FnExactTurnsOf': WHATEVER THE INPUT: true; the input reads as it did. -/
def fnExactTurnsOfSpec : ChangeSpec := { name := "fnExactTurnsOf", fn := fun _ => fun
  | [d1, d2] => { results := [.lit (.bool true)], args := [d1, d2] }
  | _ => none }
def fnExactTurnsOfRow : OpenClaim := { program := "ytdkhomhdapoeoaa", sum := "8cfb38254aec9907206a781e95f48186d32d127c48f58878e926e8823de037b0", func := "loop.example/g03010/laws.FnExactTurnsOf", spec := "fnExactTurnsOf", apart := false }
def FnExactTurnsOfSaid : Prop := fnExactTurnsOfRow.holds Try.pinned (OpenSpec.ofChange fnExactTurnsOfSpec)

/-- ITS FALSE NEIGHBOUR: 'it returns false'. Refute it at one input. -/
def fnExactTurnsOfWrong : ChangeSpec := { name := "fnExactTurnsOf", fn := fun _ => fun
  | [d1, d2] => { results := [.lit (.bool false)], args := [d1, d2] }
  | _ => none }
def FnExactTurnsOfWrongFalsely : Prop := fnExactTurnsOfRow.holds Try.pinned (OpenSpec.ofChange fnExactTurnsOfWrong)

/-- 'laws.FnExactReplayMove': WHATEVER THE INPUT: true; the input reads as it did. -/
def fnExactReplayMoveSpec : ChangeSpec := { name := "fnExactReplayMove", fn := fun _ => fun
  | [d1, d2] => { results := [.lit (.bool true)], args := [d1, d2] }
  | _ => none }
def fnExactReplayMoveRow : OpenClaim := { program := "ytdkhomhdapoeoaa", sum := "8cfb38254aec9907206a781e95f48186d32d127c48f58878e926e8823de037b0", func := "loop.example/g03010/laws.FnExactReplayMove", spec := "fnExactReplayMove", apart := false }
def FnExactReplayMoveSaid : Prop := fnExactReplayMoveRow.holds Try.pinned (OpenSpec.ofChange fnExactReplayMoveSpec)

/-- ITS FALSE NEIGHBOUR: 'it returns false'. Refute it at one input. -/
def fnExactReplayMoveWrong : ChangeSpec := { name := "fnExactReplayMove", fn := fun _ => fun
  | [d1, d2] => { results := [.lit (.bool false)], args := [d1, d2] }
  | _ => none }
def FnExactReplayMoveWrongFalsely : Prop := fnExactReplayMoveRow.holds Try.pinned (OpenSpec.ofChange fnExactReplayMoveWrong)

/-- 'laws.FnExactBestFor': WHATEVER THE INPUT: true; the input reads as it did. -/
def fnExactBestForSpec : ChangeSpec := { name := "fnExactBestFor", fn := fun _ => fun
  | [d] => { results := [.lit (.bool true)], args := [d] }
  | _ => none }
def fnExactBestForRow : OpenClaim := { program := "ytdkhomhdapoeoaa", sum := "8cfb38254aec9907206a781e95f48186d32d127c48f58878e926e8823de037b0", func := "loop.example/g03010/laws.FnExactBestFor", spec := "fnExactBestFor", apart := false }
def FnExactBestForSaid : Prop := fnExactBestForRow.holds Try.pinned (OpenSpec.ofChange fnExactBestForSpec)

/-- ITS FALSE NEIGHBOUR: 'it returns false'. Refute it at one input. -/
def fnExactBestForWrong : ChangeSpec := { name := "fnExactBestFor", fn := fun _ => fun
  | [d] => { results := [.lit (.bool false)], args := [d] }
  | _ => none }
def FnExactBestForWrongFalsely : Prop := fnExactBestForRow.holds Try.pinned (OpenSpec.ofChange fnExactBestForWrong)

/-- 'laws.FnExactHiddenCount': WHATEVER THE INPUT: true; the input reads as it did. -/
def fnExactHiddenCountSpec : ChangeSpec := { name := "fnExactHiddenCount", fn := fun _ => fun
  | [d] => { results := [.lit (.bool true)], args := [d] }
  | _ => none }
def fnExactHiddenCountRow : OpenClaim := { program := "ytdkhomhdapoeoaa", sum := "8cfb38254aec9907206a781e95f48186d32d127c48f58878e926e8823de037b0", func := "loop.example/g03010/laws.FnExactHiddenCount", spec := "fnExactHiddenCount", apart := false }
def FnExactHiddenCountSaid : Prop := fnExactHiddenCountRow.holds Try.pinned (OpenSpec.ofChange fnExactHiddenCountSpec)

/-- ITS FALSE NEIGHBOUR: 'it returns false'. Refute it at one input. -/
def fnExactHiddenCountWrong : ChangeSpec := { name := "fnExactHiddenCount", fn := fun _ => fun
  | [d] => { results := [.lit (.bool false)], args := [d] }
  | _ => none }
def FnExactHiddenCountWrongFalsely : Prop := fnExactHiddenCountRow.holds Try.pinned (OpenSpec.ofChange fnExactHiddenCountWrong)

/- THE SECOND FORM. 'bulk': how many values and letters a reading holds, each counted each time it is reached (what is shared counts as often as it is met; a slice's spare places count too). A statement '..UptoSaid' is the law's where the arguments, and the package variables that the reading takes, are together of bulk at most 1048576: NARROWER than '..Said'. Prove '..Said' where nothing that the law and all that it calls make is longer than what came in: it says more and counts as full. Else prove '..UptoSaid'. A law counts once. -/
mutual
def uptoBulk {H : Type} : DataW H → Nat
  | .lit (.string bytes) => bytes.length + 1
  | .lit _ => 1
  | .nil => 1
  | .ptr d => uptoBulk d + 1
  | .slice elems spare => uptoBulkAll elems + uptoBulkAll spare + 1
  | .agg parts => uptoBulkAll parts + 1
  | .iface _ d => uptoBulk d + 1
  | .map entries => uptoBulkEntries entries + 1
  | .held _ => 1
def uptoBulkAll {H : Type} : List (DataW H) → Nat
  | [] => 0
  | d :: r => uptoBulk d + uptoBulkAll r
def uptoBulkEntries {H : Type} : List (Lit × DataW H) → Nat
  | [] => 0
  | x :: r => uptoBulkEntry x + uptoBulkEntries r
def uptoBulkEntry {H : Type} : Lit × DataW H → Nat
  | (.string bytes, d) => bytes.length + uptoBulk d + 1
  | (_, d) => uptoBulk d + 1
 end
def uptoSmall : (H : Type) → List (DataW H) → Bool := fun _ ds => decide (uptoBulkAll ds ≤ 1048576)
def OpenSpec.upto (s : _root_.Go.ChangeSpec) : _root_.Go.OpenSpec := { _root_.Go.OpenSpec.ofChange s with cond := some uptoSmall }

/-- 'laws.FnExactPlayCard', WHERE WHAT IT READS IS OF BULK AT MOST 1048576: true; the input reads as it did. -/
def fnExactPlayCardUptoRow : OpenClaim := { program := "ytdkhomhdapoeoaa", sum := "8cfb38254aec9907206a781e95f48186d32d127c48f58878e926e8823de037b0", func := "loop.example/g03010/laws.FnExactPlayCard", spec := "fnExactPlayCard", apart := false, narrowed := true }
def FnExactPlayCardUptoSaid : Prop := fnExactPlayCardUptoRow.holds Try.pinned (OpenSpec.upto fnExactPlayCardSpec)

/-- 'laws.FnExactPlayAll', WHERE WHAT IT READS IS OF BULK AT MOST 1048576: true; the input reads as it did. -/
def fnExactPlayAllUptoRow : OpenClaim := { program := "ytdkhomhdapoeoaa", sum := "8cfb38254aec9907206a781e95f48186d32d127c48f58878e926e8823de037b0", func := "loop.example/g03010/laws.FnExactPlayAll", spec := "fnExactPlayAll", apart := false, narrowed := true }
def FnExactPlayAllUptoSaid : Prop := fnExactPlayAllUptoRow.holds Try.pinned (OpenSpec.upto fnExactPlayAllSpec)

/-- 'laws.FnExactSwapHidden', WHERE WHAT IT READS IS OF BULK AT MOST 1048576: true; the input reads as it did. -/
def fnExactSwapHiddenUptoRow : OpenClaim := { program := "ytdkhomhdapoeoaa", sum := "8cfb38254aec9907206a781e95f48186d32d127c48f58878e926e8823de037b0", func := "loop.example/g03010/laws.FnExactSwapHidden", spec := "fnExactSwapHidden", apart := false, narrowed := true }
def FnExactSwapHiddenUptoSaid : Prop := fnExactSwapHiddenUptoRow.holds Try.pinned (OpenSpec.upto fnExactSwapHiddenSpec)

/-- 'laws.FnExactReplayed', WHERE WHAT IT READS IS OF BULK AT MOST 1048576: true; the input reads as it did. -/
def fnExactReplayedUptoRow : OpenClaim := { program := "ytdkhomhdapoeoaa", sum := "8cfb38254aec9907206a781e95f48186d32d127c48f58878e926e8823de037b0", func := "loop.example/g03010/laws.FnExactReplayed", spec := "fnExactReplayed", apart := false, narrowed := true }
def FnExactReplayedUptoSaid : Prop := fnExactReplayedUptoRow.holds Try.pinned (OpenSpec.upto fnExactReplayedSpec)

/-- 'laws.FnExactTurnsOf', WHERE WHAT IT READS IS OF BULK AT MOST 1048576: true; the input reads as it did. -/
def fnExactTurnsOfUptoRow : OpenClaim := { program := "ytdkhomhdapoeoaa", sum := "8cfb38254aec9907206a781e95f48186d32d127c48f58878e926e8823de037b0", func := "loop.example/g03010/laws.FnExactTurnsOf", spec := "fnExactTurnsOf", apart := false, narrowed := true }
def FnExactTurnsOfUptoSaid : Prop := fnExactTurnsOfUptoRow.holds Try.pinned (OpenSpec.upto fnExactTurnsOfSpec)

/-- 'laws.FnExactReplayMove', WHERE WHAT IT READS IS OF BULK AT MOST 1048576: true; the input reads as it did. -/
def fnExactReplayMoveUptoRow : OpenClaim := { program := "ytdkhomhdapoeoaa", sum := "8cfb38254aec9907206a781e95f48186d32d127c48f58878e926e8823de037b0", func := "loop.example/g03010/laws.FnExactReplayMove", spec := "fnExactReplayMove", apart := false, narrowed := true }
def FnExactReplayMoveUptoSaid : Prop := fnExactReplayMoveUptoRow.holds Try.pinned (OpenSpec.upto fnExactReplayMoveSpec)

/-- 'laws.FnExactBestFor', WHERE WHAT IT READS IS OF BULK AT MOST 1048576: true; the input reads as it did. -/
def fnExactBestForUptoRow : OpenClaim := { program := "ytdkhomhdapoeoaa", sum := "8cfb38254aec9907206a781e95f48186d32d127c48f58878e926e8823de037b0", func := "loop.example/g03010/laws.FnExactBestFor", spec := "fnExactBestFor", apart := false, narrowed := true }
def FnExactBestForUptoSaid : Prop := fnExactBestForUptoRow.holds Try.pinned (OpenSpec.upto fnExactBestForSpec)

/-- 'laws.FnExactHiddenCount', WHERE WHAT IT READS IS OF BULK AT MOST 1048576: true; the input reads as it did. -/
def fnExactHiddenCountUptoRow : OpenClaim := { program := "ytdkhomhdapoeoaa", sum := "8cfb38254aec9907206a781e95f48186d32d127c48f58878e926e8823de037b0", func := "loop.example/g03010/laws.FnExactHiddenCount", spec := "fnExactHiddenCount", apart := false, narrowed := true }
def FnExactHiddenCountUptoSaid : Prop := fnExactHiddenCountUptoRow.holds Try.pinned (OpenSpec.upto fnExactHiddenCountSpec)

end Rows
end Go.Proofs.Ytdkhomhdapoeoaa
