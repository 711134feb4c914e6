/-
  DERIVED. GIVEN WITH THE SEED: THE CARDS: each row of YtoioaijpdiglfaaGreatDoorRows.lean that lists a variable, with what it lists TIED to the program's text (the seventh form; the later family's looks); each row that meets fmt, with fmt's text TOLD by the authors' own Lean function (tested against real Go, not proved from fmt's source: count such statements apart). THE CARD IS WHAT COUNTS. Prove the row's statement (the work); the ties are given (YtoioaijpdiglfaaGreatDoorTie.lean); close each card by the builder's one call (the guide's Derived/Test/ToyasCard.lean, 'card_holds'). Laid BY PROGRAM, IN A SANDBOX (cutbox-door.mjs). By AI agents, Wed Nov 11 2026. No macro, syntax, notation, axiom, sorry.
-/
import Derived.Test.YtoioaijpdiglfaaGreatDoorRows
import GoSem.ClaimSeven
namespace Go.Proofs.YtoioaijpdiglfaaGreatDoor
namespace Rows

/-- THE TIED CARD OF 'laws.FnSayings'. -/
def fnSayingsCard : Claim7 := { stood := { row := fnSayingsRow, standIns := [], harness := (true, "c5caf6ac53e4c3a91113947fc5407c4a4a0f6e250fed2d3fe15e03ff072e068e"), looks := false }, kinds := [], alts := [], laidByText := true, laidKinds := [.data, .data, .data], laidTests := true, laidLooks := .later }
def FnSayingsCardSaid : Prop := Claim7.holds Tryz.pinned (.plain (OpenSpec.ofChange fnSayingsSpec)) fnSayingsCard

/-- THE SECOND FORM's CARD OF 'laws.FnSayings'. -/
def fnSayingsUptoCard : Claim7 := { stood := { row := fnSayingsUptoRow, standIns := [], harness := (true, "c5caf6ac53e4c3a91113947fc5407c4a4a0f6e250fed2d3fe15e03ff072e068e"), looks := false }, kinds := [], alts := [], laidByText := true, laidKinds := [.data, .data, .data], laidTests := true, laidLooks := .later }
def FnSayingsUptoCardSaid : Prop := Claim7.holds Tryz.pinned (.plain (OpenSpec.upto fnSayingsSpec)) fnSayingsUptoCard
end Rows
end Go.Proofs.YtoioaijpdiglfaaGreatDoor
