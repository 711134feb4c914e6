/-
  No cell of these rows narrows 'for every input' (looked for: loops, veiled, ifaces, maps, wideKeys, modest, calm, conditions, laid).
  DERIVED. THE GIVEN ROWS OF THIS SEAT. 9 by the template 'for every input the law returns true; each argument reads behind the call as it read before'; 0 by the template 'total and deterministic' (their statements: YtoioaijpdiglfaaTotals.lean).
  GIVEN WITH THE SEED: the statements are not yours to turn. If you find one false, say at which input.
  Laid BY PROGRAM, IN A SANDBOX (cutbox-rows.mjs): the forced cells as the released guide's own fill.sh prints them over the translation c6156e54334caa03… (all of the seat's roots in one cut). By AI agents, Wed Nov 11 2026. No macro, syntax, notation, axiom, sorry.
-/
import Derived.Test.YtoioaijpdiglfaaChecked
import GoSem.Claim
import GoSem.ClaimJoined
import GoSem.ClaimMapViews
import Derived.JoinedTies
import Derived.KernelRfl
namespace Go.Proofs.Ytoioaijpdiglfaa
/- THE CELL 'sum', in the pinned program and in every row, IS THE sha256 OF THE DUMP (.gsa) THAT YtoioaijpdiglfaaProg.lean LOADS. Nothing in Lean hashes anything: it is a label: what it is worth is what the hold of that sum in a sandbox is worth. -/
noncomputable def Try.pinned : Pinned := { name := "ytoioaijpdiglfaa", sum := "c6156e54334caa03d903afaaef2df75a0e20318033fc3ca745cdd9d5e84f59c1", checked := Try.checked }
namespace Rows
def none {H : Type} : Left H := { results := [], args := [] }

/-- 'laws.FnExactRotateKinds': WHATEVER THE INPUT: true; the input reads as it did. -/
def fnExactRotateKindsSpec : ChangeSpec := { name := "fnExactRotateKinds", fn := fun _ => fun
  | [d1, d2] => { results := [.lit (.bool true)], args := [d1, d2] }
  | _ => none }
def fnExactRotateKindsRow : OpenClaim := { program := "ytoioaijpdiglfaa", sum := "c6156e54334caa03d903afaaef2df75a0e20318033fc3ca745cdd9d5e84f59c1", func := "loop.example/g03010/laws.FnExactRotateKinds", spec := "fnExactRotateKinds", apart := false }
def FnExactRotateKindsSaid : Prop := fnExactRotateKindsRow.holds Try.pinned (OpenSpec.ofChange fnExactRotateKindsSpec)

/-- ITS FALSE NEIGHBOUR: 'it returns false'. Refute it at one input. -/
def fnExactRotateKindsWrong : ChangeSpec := { name := "fnExactRotateKinds", fn := fun _ => fun
  | [d1, d2] => { results := [.lit (.bool false)], args := [d1, d2] }
  | _ => none }
def FnExactRotateKindsWrongFalsely : Prop := fnExactRotateKindsRow.holds Try.pinned (OpenSpec.ofChange fnExactRotateKindsWrong)

/-- 'laws.FnExactParseRecord': WHATEVER THE INPUT: true; the input reads as it did. -/
def fnExactParseRecordSpec : ChangeSpec := { name := "fnExactParseRecord", fn := fun _ => fun
  | [d] => { results := [.lit (.bool true)], args := [d] }
  | _ => none }
def fnExactParseRecordRow : OpenClaim := { program := "ytoioaijpdiglfaa", sum := "c6156e54334caa03d903afaaef2df75a0e20318033fc3ca745cdd9d5e84f59c1", func := "loop.example/g03010/laws.FnExactParseRecord", spec := "fnExactParseRecord", inPlace := ["internal/bytealg.IndexByteString"], apart := false }
def FnExactParseRecordSaid : Prop := fnExactParseRecordRow.holds Try.pinned (OpenSpec.ofChange fnExactParseRecordSpec)

/-- ITS FALSE NEIGHBOUR: 'it returns false'. Refute it at one input. -/
def fnExactParseRecordWrong : ChangeSpec := { name := "fnExactParseRecord", fn := fun _ => fun
  | [d] => { results := [.lit (.bool false)], args := [d] }
  | _ => none }
def FnExactParseRecordWrongFalsely : Prop := fnExactParseRecordRow.holds Try.pinned (OpenSpec.ofChange fnExactParseRecordWrong)

/-- 'laws.FnTables': WHATEVER THE INPUT: true; the input reads as it did. -/
def fnTablesSpec : ChangeSpec := { name := "fnTables", fn := fun _ => fun
  | [d] => { results := [.lit (.bool true)], args := [d] }
  | _ => none }
def fnTablesRow : OpenClaim := { program := "ytoioaijpdiglfaa", sum := "c6156e54334caa03d903afaaef2df75a0e20318033fc3ca745cdd9d5e84f59c1", func := "loop.example/g03010/laws.FnTables", spec := "fnTables", recurses := true, apart := false }
def FnTablesSaid : Prop := fnTablesRow.holds Try.pinned (OpenSpec.ofChange fnTablesSpec)

/-- ITS FALSE NEIGHBOUR: 'it returns false'. Refute it at one input. -/
def fnTablesWrong : ChangeSpec := { name := "fnTables", fn := fun _ => fun
  | [d] => { results := [.lit (.bool false)], args := [d] }
  | _ => none }
def FnTablesWrongFalsely : Prop := fnTablesRow.holds Try.pinned (OpenSpec.ofChange fnTablesWrong)

/-- 'laws.FnSights': WHATEVER THE INPUT: true; the input reads as it did. -/
def fnSightsSpec : ChangeSpec := { name := "fnSights", fn := fun _ => fun
  | [d] => { results := [.lit (.bool true)], args := [d] }
  | _ => none }
def fnSightsRow : OpenClaim := { program := "ytoioaijpdiglfaa", sum := "c6156e54334caa03d903afaaef2df75a0e20318033fc3ca745cdd9d5e84f59c1", func := "loop.example/g03010/laws.FnSights", spec := "fnSights", apart := false }
def FnSightsSaid : Prop := fnSightsRow.holds Try.pinned (OpenSpec.ofChange fnSightsSpec)

/-- ITS FALSE NEIGHBOUR: 'it returns false'. Refute it at one input. -/
def fnSightsWrong : ChangeSpec := { name := "fnSights", fn := fun _ => fun
  | [d] => { results := [.lit (.bool false)], args := [d] }
  | _ => none }
def FnSightsWrongFalsely : Prop := fnSightsRow.holds Try.pinned (OpenSpec.ofChange fnSightsWrong)

/-- 'laws.FnPeeks': WHATEVER THE INPUT: true; the input reads as it did. -/
def fnPeeksSpec : ChangeSpec := { name := "fnPeeks", fn := fun _ => fun
  | [d] => { results := [.lit (.bool true)], args := [d] }
  | _ => none }
def fnPeeksRow : OpenClaim := { program := "ytoioaijpdiglfaa", sum := "c6156e54334caa03d903afaaef2df75a0e20318033fc3ca745cdd9d5e84f59c1", func := "loop.example/g03010/laws.FnPeeks", spec := "fnPeeks", recurses := true, apart := false }
def FnPeeksSaid : Prop := fnPeeksRow.holds Try.pinned (OpenSpec.ofChange fnPeeksSpec)

/-- ITS FALSE NEIGHBOUR: 'it returns false'. Refute it at one input. -/
def fnPeeksWrong : ChangeSpec := { name := "fnPeeks", fn := fun _ => fun
  | [d] => { results := [.lit (.bool false)], args := [d] }
  | _ => none }
def FnPeeksWrongFalsely : Prop := fnPeeksRow.holds Try.pinned (OpenSpec.ofChange fnPeeksWrong)

/-- 'laws.FnPlays': WHATEVER THE INPUT: true; the input reads as it did. -/
def fnPlaysSpec : ChangeSpec := { name := "fnPlays", fn := fun _ => fun
  | [d] => { results := [.lit (.bool true)], args := [d] }
  | _ => none }
def fnPlaysRow : OpenClaim := { program := "ytoioaijpdiglfaa", sum := "c6156e54334caa03d903afaaef2df75a0e20318033fc3ca745cdd9d5e84f59c1", func := "loop.example/g03010/laws.FnPlays", spec := "fnPlays", apart := false }
def FnPlaysSaid : Prop := fnPlaysRow.holds Try.pinned (OpenSpec.ofChange fnPlaysSpec)

/-- ITS FALSE NEIGHBOUR: 'it returns false'. Refute it at one input. -/
def fnPlaysWrong : ChangeSpec := { name := "fnPlays", fn := fun _ => fun
  | [d] => { results := [.lit (.bool false)], args := [d] }
  | _ => none }
def FnPlaysWrongFalsely : Prop := fnPlaysRow.holds Try.pinned (OpenSpec.ofChange fnPlaysWrong)

/-- 'laws.FnMatches': WHATEVER THE INPUT: true; the input reads as it did. -/
def fnMatchesSpec : ChangeSpec := { name := "fnMatches", fn := fun _ => fun
  | [d] => { results := [.lit (.bool true)], args := [d] }
  | _ => none }
def fnMatchesRow : OpenClaim := { program := "ytoioaijpdiglfaa", sum := "c6156e54334caa03d903afaaef2df75a0e20318033fc3ca745cdd9d5e84f59c1", func := "loop.example/g03010/laws.FnMatches", spec := "fnMatches", recurses := true, apart := false }
def FnMatchesSaid : Prop := fnMatchesRow.holds Try.pinned (OpenSpec.ofChange fnMatchesSpec)

/-- ITS FALSE NEIGHBOUR: 'it returns false'. Refute it at one input. -/
def fnMatchesWrong : ChangeSpec := { name := "fnMatches", fn := fun _ => fun
  | [d] => { results := [.lit (.bool false)], args := [d] }
  | _ => none }
def FnMatchesWrongFalsely : Prop := fnMatchesRow.holds Try.pinned (OpenSpec.ofChange fnMatchesWrong)

/-- 'laws.FnResults': WHATEVER THE INPUT: true; the input reads as it did. -/
def fnResultsSpec : ChangeSpec := { name := "fnResults", fn := fun _ => fun
  | [d] => { results := [.lit (.bool true)], args := [d] }
  | _ => none }
def fnResultsRow : OpenClaim := { program := "ytoioaijpdiglfaa", sum := "c6156e54334caa03d903afaaef2df75a0e20318033fc3ca745cdd9d5e84f59c1", func := "loop.example/g03010/laws.FnResults", spec := "fnResults", recurses := true, apart := false }
def FnResultsSaid : Prop := fnResultsRow.holds Try.pinned (OpenSpec.ofChange fnResultsSpec)

/-- ITS FALSE NEIGHBOUR: 'it returns false'. Refute it at one input. -/
def fnResultsWrong : ChangeSpec := { name := "fnResults", fn := fun _ => fun
  | [d] => { results := [.lit (.bool false)], args := [d] }
  | _ => none }
def FnResultsWrongFalsely : Prop := fnResultsRow.holds Try.pinned (OpenSpec.ofChange fnResultsWrong)

/-- 'laws.FnGames': WHATEVER THE INPUT: true; the input reads as it did. -/
def fnGamesSpec : ChangeSpec := { name := "fnGames", fn := fun _ => fun
  | [d] => { results := [.lit (.bool true)], args := [d] }
  | _ => none }
def fnGamesRow : OpenClaim := { program := "ytoioaijpdiglfaa", sum := "c6156e54334caa03d903afaaef2df75a0e20318033fc3ca745cdd9d5e84f59c1", func := "loop.example/g03010/laws.FnGames", spec := "fnGames", recurses := true, apart := false }
def FnGamesSaid : Prop := fnGamesRow.holds Try.pinned (OpenSpec.ofChange fnGamesSpec)

/-- ITS FALSE NEIGHBOUR: 'it returns false'. Refute it at one input. -/
def fnGamesWrong : ChangeSpec := { name := "fnGames", fn := fun _ => fun
  | [d] => { results := [.lit (.bool false)], args := [d] }
  | _ => none }
def FnGamesWrongFalsely : Prop := fnGamesRow.holds Try.pinned (OpenSpec.ofChange fnGamesWrong)

/- THE SECOND FORM. 'bulk': how many values and letters a reading holds, each counted each time it is reached (what is shared counts as often as it is met; a slice's spare places count too). A statement '..UptoSaid' is the law's where the arguments, and the package variables that the reading takes, are together of bulk at most 1048576: NARROWER than '..Said'. Prove '..Said' where nothing that the law and all that it calls make is longer than what came in: it says more and counts as full. Else prove '..UptoSaid'. A law counts once. -/
mutual
def uptoBulk {H : Type} : DataW H → Nat
  | .lit (.string bytes) => bytes.length + 1
  | .lit _ => 1
  | .nil => 1
  | .ptr d => uptoBulk d + 1
  | .slice elems spare => uptoBulkAll elems + uptoBulkAll spare + 1
  | .agg parts => uptoBulkAll parts + 1
  | .iface _ d => uptoBulk d + 1
  | .map entries => uptoBulkEntries entries + 1
  | .held _ => 1
def uptoBulkAll {H : Type} : List (DataW H) → Nat
  | [] => 0
  | d :: r => uptoBulk d + uptoBulkAll r
def uptoBulkEntries {H : Type} : List (Lit × DataW H) → Nat
  | [] => 0
  | x :: r => uptoBulkEntry x + uptoBulkEntries r
def uptoBulkEntry {H : Type} : Lit × DataW H → Nat
  | (.string bytes, d) => bytes.length + uptoBulk d + 1
  | (_, d) => uptoBulk d + 1
 end
def uptoSmall : (H : Type) → List (DataW H) → Bool := fun _ ds => decide (uptoBulkAll ds ≤ 1048576)
def OpenSpec.upto (s : _root_.Go.ChangeSpec) : _root_.Go.OpenSpec := { _root_.Go.OpenSpec.ofChange s with cond := some uptoSmall }

/-- 'laws.FnExactRotateKinds', WHERE WHAT IT READS IS OF BULK AT MOST 1048576: true; the input reads as it did. -/
def fnExactRotateKindsUptoRow : OpenClaim := { program := "ytoioaijpdiglfaa", sum := "c6156e54334caa03d903afaaef2df75a0e20318033fc3ca745cdd9d5e84f59c1", func := "loop.example/g03010/laws.FnExactRotateKinds", spec := "fnExactRotateKinds", apart := false, narrowed := true }
def FnExactRotateKindsUptoSaid : Prop := fnExactRotateKindsUptoRow.holds Try.pinned (OpenSpec.upto fnExactRotateKindsSpec)

/-- 'laws.FnExactParseRecord', WHERE WHAT IT READS IS OF BULK AT MOST 1048576: true; the input reads as it did. -/
def fnExactParseRecordUptoRow : OpenClaim := { program := "ytoioaijpdiglfaa", sum := "c6156e54334caa03d903afaaef2df75a0e20318033fc3ca745cdd9d5e84f59c1", func := "loop.example/g03010/laws.FnExactParseRecord", spec := "fnExactParseRecord", inPlace := ["internal/bytealg.IndexByteString"], apart := false, narrowed := true }
def FnExactParseRecordUptoSaid : Prop := fnExactParseRecordUptoRow.holds Try.pinned (OpenSpec.upto fnExactParseRecordSpec)

/-- 'laws.FnTables', WHERE WHAT IT READS IS OF BULK AT MOST 1048576: true; the input reads as it did. -/
def fnTablesUptoRow : OpenClaim := { program := "ytoioaijpdiglfaa", sum := "c6156e54334caa03d903afaaef2df75a0e20318033fc3ca745cdd9d5e84f59c1", func := "loop.example/g03010/laws.FnTables", spec := "fnTables", recurses := true, apart := false, narrowed := true }
def FnTablesUptoSaid : Prop := fnTablesUptoRow.holds Try.pinned (OpenSpec.upto fnTablesSpec)

/-- 'laws.FnSights', WHERE WHAT IT READS IS OF BULK AT MOST 1048576: true; the input reads as it did. -/
def fnSightsUptoRow : OpenClaim := { program := "ytoioaijpdiglfaa", sum := "c6156e54334caa03d903afaaef2df75a0e20318033fc3ca745cdd9d5e84f59c1", func := "loop.example/g03010/laws.FnSights", spec := "fnSights", apart := false, narrowed := true }
def FnSightsUptoSaid : Prop := fnSightsUptoRow.holds Try.pinned (OpenSpec.upto fnSightsSpec)

/-- 'laws.FnPeeks', WHERE WHAT IT READS IS OF BULK AT MOST 1048576: true; the input reads as it did. -/
def fnPeeksUptoRow : OpenClaim := { program := "ytoioaijpdiglfaa", sum := "c6156e54334caa03d903afaaef2df75a0e20318033fc3ca745cdd9d5e84f59c1", func := "loop.example/g03010/laws.FnPeeks", spec := "fnPeeks", recurses := true, apart := false, narrowed := true }
def FnPeeksUptoSaid : Prop := fnPeeksUptoRow.holds Try.pinned (OpenSpec.upto fnPeeksSpec)

/-- 'laws.FnPlays', WHERE WHAT IT READS IS OF BULK AT MOST 1048576: true; the input reads as it did. -/
def fnPlaysUptoRow : OpenClaim := { program := "ytoioaijpdiglfaa", sum := "c6156e54334caa03d903afaaef2df75a0e20318033fc3ca745cdd9d5e84f59c1", func := "loop.example/g03010/laws.FnPlays", spec := "fnPlays", apart := false, narrowed := true }
def FnPlaysUptoSaid : Prop := fnPlaysUptoRow.holds Try.pinned (OpenSpec.upto fnPlaysSpec)

/-- 'laws.FnMatches', WHERE WHAT IT READS IS OF BULK AT MOST 1048576: true; the input reads as it did. -/
def fnMatchesUptoRow : OpenClaim := { program := "ytoioaijpdiglfaa", sum := "c6156e54334caa03d903afaaef2df75a0e20318033fc3ca745cdd9d5e84f59c1", func := "loop.example/g03010/laws.FnMatches", spec := "fnMatches", recurses := true, apart := false, narrowed := true }
def FnMatchesUptoSaid : Prop := fnMatchesUptoRow.holds Try.pinned (OpenSpec.upto fnMatchesSpec)

/-- 'laws.FnResults', WHERE WHAT IT READS IS OF BULK AT MOST 1048576: true; the input reads as it did. -/
def fnResultsUptoRow : OpenClaim := { program := "ytoioaijpdiglfaa", sum := "c6156e54334caa03d903afaaef2df75a0e20318033fc3ca745cdd9d5e84f59c1", func := "loop.example/g03010/laws.FnResults", spec := "fnResults", recurses := true, apart := false, narrowed := true }
def FnResultsUptoSaid : Prop := fnResultsUptoRow.holds Try.pinned (OpenSpec.upto fnResultsSpec)

/-- 'laws.FnGames', WHERE WHAT IT READS IS OF BULK AT MOST 1048576: true; the input reads as it did. -/
def fnGamesUptoRow : OpenClaim := { program := "ytoioaijpdiglfaa", sum := "c6156e54334caa03d903afaaef2df75a0e20318033fc3ca745cdd9d5e84f59c1", func := "loop.example/g03010/laws.FnGames", spec := "fnGames", recurses := true, apart := false, narrowed := true }
def FnGamesUptoSaid : Prop := fnGamesUptoRow.holds Try.pinned (OpenSpec.upto fnGamesSpec)

end Rows
end Go.Proofs.Ytoioaijpdiglfaa
