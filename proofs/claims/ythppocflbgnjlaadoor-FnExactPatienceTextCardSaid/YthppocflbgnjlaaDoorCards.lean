/-
  DERIVED. GIVEN WITH THE SEED: THE CARDS: each row of YthppocflbgnjlaaDoorRows.lean that lists a variable, with what it lists TIED to the program's text (the seventh form; the later family's looks); each row that meets fmt, with fmt's text TOLD by the authors' own Lean function (tested against real Go, not proved from fmt's source: count such statements apart). THE CARD IS WHAT COUNTS. Prove the row's statement (the work); the ties are given (YthppocflbgnjlaaDoorTie.lean); close each card by the builder's one call (the guide's Derived/Test/ToyasCard.lean, 'card_holds'). Laid BY PROGRAM, IN A SANDBOX (cutbox-door.mjs). By AI agents, Wed Nov 11 2026. No macro, syntax, notation, axiom, sorry.
-/
import Derived.Test.YthppocflbgnjlaaDoorRows
import GoSem.ClaimSeven
namespace Go.Proofs.YthppocflbgnjlaaDoor
namespace Rows

/-- THE TIED CARD OF 'laws.FnExactPatienceText'. -/
def fnExactPatienceTextCard : Claim7 := { stood := { row := fnExactPatienceTextRow, standIns := [], harness := (true, "0af7c5d1dea6e5d31d98617be9aaf711035aab51db16a60d8e151830eb828dab"), looks := false }, kinds := [], alts := [], laidByText := true, laidKinds := [.data, .data, .data], laidTests := true, laidLooks := .later }
def FnExactPatienceTextCardSaid : Prop := Claim7.holds Tryd.pinned (.plain (OpenSpec.ofChange fnExactPatienceTextSpec)) fnExactPatienceTextCard

/-- THE TIED CARD OF 'laws.FnExactCallsText'. -/
def fnExactCallsTextCard : Claim7 := { stood := { row := fnExactCallsTextRow, standIns := [], harness := (true, "0af7c5d1dea6e5d31d98617be9aaf711035aab51db16a60d8e151830eb828dab"), looks := false }, kinds := [], alts := [], laidByText := true, laidKinds := [.data, .data, .data], laidTests := true, laidLooks := .later }
def FnExactCallsTextCardSaid : Prop := Claim7.holds Tryd.pinned (.plain (OpenSpec.ofChange fnExactCallsTextSpec)) fnExactCallsTextCard

/-- THE TIED CARD OF 'laws.FnExactPeekText'. -/
def fnExactPeekTextCard : Claim7 := { stood := { row := fnExactPeekTextRow, standIns := [], harness := (true, "0af7c5d1dea6e5d31d98617be9aaf711035aab51db16a60d8e151830eb828dab"), looks := false }, kinds := [], alts := [], laidByText := true, laidKinds := [.data, .data, .data], laidTests := true, laidLooks := .later }
def FnExactPeekTextCardSaid : Prop := Claim7.holds Tryd.pinned (.plain (OpenSpec.ofChange fnExactPeekTextSpec)) fnExactPeekTextCard

/-- THE TIED CARD OF 'laws.FnExactSheetText'. -/
def fnExactSheetTextCard : Claim7 := { stood := { row := fnExactSheetTextRow, standIns := [], harness := (true, "0af7c5d1dea6e5d31d98617be9aaf711035aab51db16a60d8e151830eb828dab"), looks := false }, kinds := [], alts := [], laidByText := true, laidKinds := [.data, .data, .data], laidTests := true, laidLooks := .later }
def FnExactSheetTextCardSaid : Prop := Claim7.holds Tryd.pinned (.plain (OpenSpec.ofChange fnExactSheetTextSpec)) fnExactSheetTextCard

/-- THE TIED CARD OF 'laws.FnExactGameText'. -/
def fnExactGameTextCard : Claim7 := { stood := { row := fnExactGameTextRow, standIns := [], harness := (true, "0af7c5d1dea6e5d31d98617be9aaf711035aab51db16a60d8e151830eb828dab"), looks := false }, kinds := [], alts := [], laidByText := true, laidKinds := [.data, .data, .data], laidTests := true, laidLooks := .later }
def FnExactGameTextCardSaid : Prop := Claim7.holds Tryd.pinned (.plain (OpenSpec.ofChange fnExactGameTextSpec)) fnExactGameTextCard

/-- THE SECOND FORM's CARD OF 'laws.FnExactPatienceText'. -/
def fnExactPatienceTextUptoCard : Claim7 := { stood := { row := fnExactPatienceTextUptoRow, standIns := [], harness := (true, "0af7c5d1dea6e5d31d98617be9aaf711035aab51db16a60d8e151830eb828dab"), looks := false }, kinds := [], alts := [], laidByText := true, laidKinds := [.data, .data, .data], laidTests := true, laidLooks := .later }
def FnExactPatienceTextUptoCardSaid : Prop := Claim7.holds Tryd.pinned (.plain (OpenSpec.upto fnExactPatienceTextSpec)) fnExactPatienceTextUptoCard

/-- THE SECOND FORM's CARD OF 'laws.FnExactCallsText'. -/
def fnExactCallsTextUptoCard : Claim7 := { stood := { row := fnExactCallsTextUptoRow, standIns := [], harness := (true, "0af7c5d1dea6e5d31d98617be9aaf711035aab51db16a60d8e151830eb828dab"), looks := false }, kinds := [], alts := [], laidByText := true, laidKinds := [.data, .data, .data], laidTests := true, laidLooks := .later }
def FnExactCallsTextUptoCardSaid : Prop := Claim7.holds Tryd.pinned (.plain (OpenSpec.upto fnExactCallsTextSpec)) fnExactCallsTextUptoCard

/-- THE SECOND FORM's CARD OF 'laws.FnExactPeekText'. -/
def fnExactPeekTextUptoCard : Claim7 := { stood := { row := fnExactPeekTextUptoRow, standIns := [], harness := (true, "0af7c5d1dea6e5d31d98617be9aaf711035aab51db16a60d8e151830eb828dab"), looks := false }, kinds := [], alts := [], laidByText := true, laidKinds := [.data, .data, .data], laidTests := true, laidLooks := .later }
def FnExactPeekTextUptoCardSaid : Prop := Claim7.holds Tryd.pinned (.plain (OpenSpec.upto fnExactPeekTextSpec)) fnExactPeekTextUptoCard

/-- THE SECOND FORM's CARD OF 'laws.FnExactSheetText'. -/
def fnExactSheetTextUptoCard : Claim7 := { stood := { row := fnExactSheetTextUptoRow, standIns := [], harness := (true, "0af7c5d1dea6e5d31d98617be9aaf711035aab51db16a60d8e151830eb828dab"), looks := false }, kinds := [], alts := [], laidByText := true, laidKinds := [.data, .data, .data], laidTests := true, laidLooks := .later }
def FnExactSheetTextUptoCardSaid : Prop := Claim7.holds Tryd.pinned (.plain (OpenSpec.upto fnExactSheetTextSpec)) fnExactSheetTextUptoCard

/-- THE SECOND FORM's CARD OF 'laws.FnExactGameText'. -/
def fnExactGameTextUptoCard : Claim7 := { stood := { row := fnExactGameTextUptoRow, standIns := [], harness := (true, "0af7c5d1dea6e5d31d98617be9aaf711035aab51db16a60d8e151830eb828dab"), looks := false }, kinds := [], alts := [], laidByText := true, laidKinds := [.data, .data, .data], laidTests := true, laidLooks := .later }
def FnExactGameTextUptoCardSaid : Prop := Claim7.holds Tryd.pinned (.plain (OpenSpec.upto fnExactGameTextSpec)) fnExactGameTextUptoCard
end Rows
end Go.Proofs.YthppocflbgnjlaaDoor
