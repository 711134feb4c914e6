/-
  No cell of these rows narrows 'for every input' (looked for: loops, veiled, ifaces, maps, wideKeys, modest, calm, conditions, laid).
  DERIVED. THE GIVEN ROWS OF THIS SEAT. 6 by the template 'for every input the law returns true; each argument reads behind the call as it read before'; 0 by the template 'total and deterministic' (their statements: YtgplombkkbppmaaTotals.lean).
  GIVEN WITH THE SEED: the statements are not yours to turn. If you find one false, say at which input.
  Laid BY PROGRAM, IN A SANDBOX (cutbox-rows.mjs): the forced cells as the released guide's own fill.sh prints them over the translation 5205d4db0007b945… (all of the seat's roots in one cut). By AI agents, Wed Nov 11 2026. No macro, syntax, notation, axiom, sorry.
-/
import Derived.Test.YtgplombkkbppmaaChecked
import GoSem.Claim
import GoSem.ClaimJoined
import GoSem.ClaimMapViews
import Derived.JoinedTies
import Derived.KernelRfl
namespace Go.Proofs.Ytgplombkkbppmaa
/- THE CELL 'sum', in the pinned program and in every row, IS THE sha256 OF THE DUMP (.gsa) THAT YtgplombkkbppmaaProg.lean LOADS. Nothing in Lean hashes anything: it is a label: what it is worth is what the hold of that sum in a sandbox is worth. -/
noncomputable def Try.pinned : Pinned := { name := "ytgplombkkbppmaa", sum := "5205d4db0007b945ee865b6f38e8bb6c7655b56138b230f17e7ec7595d757a92", checked := Try.checked }
namespace Rows
def none {H : Type} : Left H := { results := [], args := [] }

/-- 'laws.FnExactCountTakes': WHATEVER THE INPUT: true; the input reads as it did. -/
def fnExactCountTakesSpec : ChangeSpec := { name := "fnExactCountTakes", fn := fun _ => fun
  | [d] => { results := [.lit (.bool true)], args := [d] }
  | _ => none }
def fnExactCountTakesRow : OpenClaim := { program := "ytgplombkkbppmaa", sum := "5205d4db0007b945ee865b6f38e8bb6c7655b56138b230f17e7ec7595d757a92", func := "loop.example/g03010/laws.FnExactCountTakes", spec := "fnExactCountTakes", apart := false }
def FnExactCountTakesSaid : Prop := fnExactCountTakesRow.holds Try.pinned (OpenSpec.ofChange fnExactCountTakesSpec)

/-- ITS FALSE NEIGHBOUR: 'it returns false'. Refute it at one input. -/
def fnExactCountTakesWrong : ChangeSpec := { name := "fnExactCountTakes", fn := fun _ => fun
  | [d] => { results := [.lit (.bool false)], args := [d] }
  | _ => none }
def FnExactCountTakesWrongFalsely : Prop := fnExactCountTakesRow.holds Try.pinned (OpenSpec.ofChange fnExactCountTakesWrong)

/-- 'laws.FnExactSeatsFor': WHATEVER THE INPUT: true; the input reads as it did. -/
def fnExactSeatsForSpec : ChangeSpec := { name := "fnExactSeatsFor", fn := fun _ => fun
  | [d1, d2] => { results := [.lit (.bool true)], args := [d1, d2] }
  | _ => none }
def fnExactSeatsForRow : OpenClaim := { program := "ytgplombkkbppmaa", sum := "5205d4db0007b945ee865b6f38e8bb6c7655b56138b230f17e7ec7595d757a92", func := "loop.example/g03010/laws.FnExactSeatsFor", spec := "fnExactSeatsFor", apart := false }
def FnExactSeatsForSaid : Prop := fnExactSeatsForRow.holds Try.pinned (OpenSpec.ofChange fnExactSeatsForSpec)

/-- ITS FALSE NEIGHBOUR: 'it returns false'. Refute it at one input. -/
def fnExactSeatsForWrong : ChangeSpec := { name := "fnExactSeatsFor", fn := fun _ => fun
  | [d1, d2] => { results := [.lit (.bool false)], args := [d1, d2] }
  | _ => none }
def FnExactSeatsForWrongFalsely : Prop := fnExactSeatsForRow.holds Try.pinned (OpenSpec.ofChange fnExactSeatsForWrong)

/-- 'laws.FnExactLongestPlays': WHATEVER THE INPUT: true; the input reads as it did. -/
def fnExactLongestPlaysSpec : ChangeSpec := { name := "fnExactLongestPlays", fn := fun _ => fun
  | [d] => { results := [.lit (.bool true)], args := [d] }
  | _ => none }
def fnExactLongestPlaysRow : OpenClaim := { program := "ytgplombkkbppmaa", sum := "5205d4db0007b945ee865b6f38e8bb6c7655b56138b230f17e7ec7595d757a92", func := "loop.example/g03010/laws.FnExactLongestPlays", spec := "fnExactLongestPlays", apart := false }
def FnExactLongestPlaysSaid : Prop := fnExactLongestPlaysRow.holds Try.pinned (OpenSpec.ofChange fnExactLongestPlaysSpec)

/-- ITS FALSE NEIGHBOUR: 'it returns false'. Refute it at one input. -/
def fnExactLongestPlaysWrong : ChangeSpec := { name := "fnExactLongestPlays", fn := fun _ => fun
  | [d] => { results := [.lit (.bool false)], args := [d] }
  | _ => none }
def FnExactLongestPlaysWrongFalsely : Prop := fnExactLongestPlaysRow.holds Try.pinned (OpenSpec.ofChange fnExactLongestPlaysWrong)

/-- 'laws.FnExactRotateKinds': WHATEVER THE INPUT: true; the input reads as it did. -/
def fnExactRotateKindsSpec : ChangeSpec := { name := "fnExactRotateKinds", fn := fun _ => fun
  | [d1, d2] => { results := [.lit (.bool true)], args := [d1, d2] }
  | _ => none }
def fnExactRotateKindsRow : OpenClaim := { program := "ytgplombkkbppmaa", sum := "5205d4db0007b945ee865b6f38e8bb6c7655b56138b230f17e7ec7595d757a92", func := "loop.example/g03010/laws.FnExactRotateKinds", spec := "fnExactRotateKinds", apart := false }
def FnExactRotateKindsSaid : Prop := fnExactRotateKindsRow.holds Try.pinned (OpenSpec.ofChange fnExactRotateKindsSpec)

/-- ITS FALSE NEIGHBOUR: 'it returns false'. Refute it at one input. -/
def fnExactRotateKindsWrong : ChangeSpec := { name := "fnExactRotateKinds", fn := fun _ => fun
  | [d1, d2] => { results := [.lit (.bool false)], args := [d1, d2] }
  | _ => none }
def FnExactRotateKindsWrongFalsely : Prop := fnExactRotateKindsRow.holds Try.pinned (OpenSpec.ofChange fnExactRotateKindsWrong)

/-- 'laws.FnExactCardsPlayed': WHATEVER THE INPUT: true; the input reads as it did. -/
def fnExactCardsPlayedSpec : ChangeSpec := { name := "fnExactCardsPlayed", fn := fun _ => fun
  | [d] => { results := [.lit (.bool true)], args := [d] }
  | _ => none }
def fnExactCardsPlayedRow : OpenClaim := { program := "ytgplombkkbppmaa", sum := "5205d4db0007b945ee865b6f38e8bb6c7655b56138b230f17e7ec7595d757a92", func := "loop.example/g03010/laws.FnExactCardsPlayed", spec := "fnExactCardsPlayed", apart := false }
def FnExactCardsPlayedSaid : Prop := fnExactCardsPlayedRow.holds Try.pinned (OpenSpec.ofChange fnExactCardsPlayedSpec)

/-- ITS FALSE NEIGHBOUR: 'it returns false'. Refute it at one input. -/
def fnExactCardsPlayedWrong : ChangeSpec := { name := "fnExactCardsPlayed", fn := fun _ => fun
  | [d] => { results := [.lit (.bool false)], args := [d] }
  | _ => none }
def FnExactCardsPlayedWrongFalsely : Prop := fnExactCardsPlayedRow.holds Try.pinned (OpenSpec.ofChange fnExactCardsPlayedWrong)

/-- 'laws.FnExactHiddenCount': WHATEVER THE INPUT: true; the input reads as it did. -/
def fnExactHiddenCountSpec : ChangeSpec := { name := "fnExactHiddenCount", fn := fun _ => fun
  | [d] => { results := [.lit (.bool true)], args := [d] }
  | _ => none }
def fnExactHiddenCountRow : OpenClaim := { program := "ytgplombkkbppmaa", sum := "5205d4db0007b945ee865b6f38e8bb6c7655b56138b230f17e7ec7595d757a92", func := "loop.example/g03010/laws.FnExactHiddenCount", spec := "fnExactHiddenCount", apart := false }
def FnExactHiddenCountSaid : Prop := fnExactHiddenCountRow.holds Try.pinned (OpenSpec.ofChange fnExactHiddenCountSpec)

/-- ITS FALSE NEIGHBOUR: 'it returns false'. Refute it at one input. -/
def fnExactHiddenCountWrong : ChangeSpec := { name := "fnExactHiddenCount", fn := fun _ => fun
  | [d] => { results := [.lit (.bool false)], args := [d] }
  | _ => none }
def FnExactHiddenCountWrongFalsely : Prop := fnExactHiddenCountRow.holds Try.pinned (OpenSpec.ofChange fnExactHiddenCountWrong)

/- THE SECOND FORM. 'bulk': how many values and letters a reading holds, each counted each time it is reached (what is shared counts as often as it is met; a slice's spare places count too). A statement '..UptoSaid' is the law's where the arguments, and the package variables that the reading takes, are together of bulk at most 1048576: NARROWER than '..Said'. Prove '..Said' where nothing that the law and all that it calls make is longer than what came in: it says more and counts as full. Else prove '..UptoSaid'. A law counts once. -/
mutual
def uptoBulk {H : Type} : DataW H → Nat
  | .lit (.string bytes) => bytes.length + 1
  | .lit _ => 1
  | .nil => 1
  | .ptr d => uptoBulk d + 1
  | .slice elems spare => uptoBulkAll elems + uptoBulkAll spare + 1
  | .agg parts => uptoBulkAll parts + 1
  | .iface _ d => uptoBulk d + 1
  | .map entries => uptoBulkEntries entries + 1
  | .held _ => 1
def uptoBulkAll {H : Type} : List (DataW H) → Nat
  | [] => 0
  | d :: r => uptoBulk d + uptoBulkAll r
def uptoBulkEntries {H : Type} : List (Lit × DataW H) → Nat
  | [] => 0
  | x :: r => uptoBulkEntry x + uptoBulkEntries r
def uptoBulkEntry {H : Type} : Lit × DataW H → Nat
  | (.string bytes, d) => bytes.length + uptoBulk d + 1
  | (_, d) => uptoBulk d + 1
 end
def uptoSmall : (H : Type) → List (DataW H) → Bool := fun _ ds => decide (uptoBulkAll ds ≤ 1048576)
def OpenSpec.upto (s : _root_.Go.ChangeSpec) : _root_.Go.OpenSpec := { _root_.Go.OpenSpec.ofChange s with cond := some uptoSmall }

/-- 'laws.FnExactCountTakes', WHERE WHAT IT READS IS OF BULK AT MOST 1048576: true; the input reads as it did. -/
def fnExactCountTakesUptoRow : OpenClaim := { program := "ytgplombkkbppmaa", sum := "5205d4db0007b945ee865b6f38e8bb6c7655b56138b230f17e7ec7595d757a92", func := "loop.example/g03010/laws.FnExactCountTakes", spec := "fnExactCountTakes", apart := false, narrowed := true }
def FnExactCountTakesUptoSaid : Prop := fnExactCountTakesUptoRow.holds Try.pinned (OpenSpec.upto fnExactCountTakesSpec)

/-- 'laws.FnExactSeatsFor', WHERE WHAT IT READS IS OF BULK AT MOST 1048576: true; the input reads as it did. -/
def fnExactSeatsForUptoRow : OpenClaim := { program := "ytgplombkkbppmaa", sum := "5205d4db0007b945ee865b6f38e8bb6c7655b56138b230f17e7ec7595d757a92", func := "loop.example/g03010/laws.FnExactSeatsFor", spec := "fnExactSeatsFor", apart := false, narrowed := true }
def FnExactSeatsForUptoSaid : Prop := fnExactSeatsForUptoRow.holds Try.pinned (OpenSpec.upto fnExactSeatsForSpec)

/-- 'laws.FnExactLongestPlays', WHERE WHAT IT READS IS OF BULK AT MOST 1048576: true; the input reads as it did. -/
def fnExactLongestPlaysUptoRow : OpenClaim := { program := "ytgplombkkbppmaa", sum := "5205d4db0007b945ee865b6f38e8bb6c7655b56138b230f17e7ec7595d757a92", func := "loop.example/g03010/laws.FnExactLongestPlays", spec := "fnExactLongestPlays", apart := false, narrowed := true }
def FnExactLongestPlaysUptoSaid : Prop := fnExactLongestPlaysUptoRow.holds Try.pinned (OpenSpec.upto fnExactLongestPlaysSpec)

/-- 'laws.FnExactRotateKinds', WHERE WHAT IT READS IS OF BULK AT MOST 1048576: true; the input reads as it did. -/
def fnExactRotateKindsUptoRow : OpenClaim := { program := "ytgplombkkbppmaa", sum := "5205d4db0007b945ee865b6f38e8bb6c7655b56138b230f17e7ec7595d757a92", func := "loop.example/g03010/laws.FnExactRotateKinds", spec := "fnExactRotateKinds", apart := false, narrowed := true }
def FnExactRotateKindsUptoSaid : Prop := fnExactRotateKindsUptoRow.holds Try.pinned (OpenSpec.upto fnExactRotateKindsSpec)

/-- 'laws.FnExactCardsPlayed', WHERE WHAT IT READS IS OF BULK AT MOST 1048576: true; the input reads as it did. -/
def fnExactCardsPlayedUptoRow : OpenClaim := { program := "ytgplombkkbppmaa", sum := "5205d4db0007b945ee865b6f38e8bb6c7655b56138b230f17e7ec7595d757a92", func := "loop.example/g03010/laws.FnExactCardsPlayed", spec := "fnExactCardsPlayed", apart := false, narrowed := true }
def FnExactCardsPlayedUptoSaid : Prop := fnExactCardsPlayedUptoRow.holds Try.pinned (OpenSpec.upto fnExactCardsPlayedSpec)

/-- 'laws.FnExactHiddenCount', WHERE WHAT IT READS IS OF BULK AT MOST 1048576: true; the input reads as it did. -/
def fnExactHiddenCountUptoRow : OpenClaim := { program := "ytgplombkkbppmaa", sum := "5205d4db0007b945ee865b6f38e8bb6c7655b56138b230f17e7ec7595d757a92", func := "loop.example/g03010/laws.FnExactHiddenCount", spec := "fnExactHiddenCount", apart := false, narrowed := true }
def FnExactHiddenCountUptoSaid : Prop := fnExactHiddenCountUptoRow.holds Try.pinned (OpenSpec.upto fnExactHiddenCountSpec)

end Rows
end Go.Proofs.Ytgplombkkbppmaa
