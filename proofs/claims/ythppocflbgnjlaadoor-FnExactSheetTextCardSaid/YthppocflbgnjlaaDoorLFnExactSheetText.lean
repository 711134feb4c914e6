/- The shapes of the program's functions, as the interpreter computes them (made by wip/tools/gen.py). -/
import Derived.Test.YthppocflbgnjlaaDoorVHH
import Derived.Test.YthppocflbgnjlaaDoorFSheetText
import Derived.Test.YthppocflbgnjlaaDoorM
set_option linter.unusedVariables false
set_option maxRecDepth 100000
namespace Go.Proofs.YthppocflbgnjlaaDoor.V
open Go
/-- loop.example/g03010/laws.FnExactSheetText -/
noncomputable def laws_FnExactSheetTextN (n : Nat) (a0 : Int) (a1 : List (List Int)) : Option Bool := frun Tryd.prog HH n 6 (a0, a1)
noncomputable def laws_FnExactSheetText (a0 : Int) (a1 : List (List Int)) : Option Bool := run Tryd.prog HH 6 (a0, a1)
theorem laws_FnExactSheetText_lim (a0 : Int) (a1 : List (List Int)) : Lim (fun n => laws_FnExactSheetTextN n a0 a1) (laws_FnExactSheetText a0 a1) := run_lim (P := Tryd.prog) (H := HH) 6 (a0, a1)
theorem laws_FnExactSheetTextN_eq (n : Nat) (a0 : Int) (a1 : List (List Int)) : laws_FnExactSheetTextN (n + 1) a0 a1 = ((laws_szIntSSN n a1 1048576).bind fun c1 => (if (decide (c1 < 0)) = true then (some true) else ((laws_toIntSSN n a1).bind fun c2 => ((spec_SheetTextN n a0 c2).bind fun c3 => ((laws_toIntSSN n a1).bind fun c4 => ((impl_SheetTextN n a0 c4).bind fun c5 => (if (!(c5.toList == c3.toList)) = true then (some false) else ((laws_toIntSSN n a1).bind fun c6 => ((laws_eqIntSSN n c4 c6).bind fun c7 => (if (!c7) = true then (some false) else (some true))))))))))) := by kernel_rfl
theorem laws_FnExactSheetText_eq (a0 : Int) (a1 : List (List Int)) : laws_FnExactSheetText a0 a1 = ((laws_szIntSS a1 1048576).bind fun c1 => (if (decide (c1 < 0)) = true then (some true) else ((laws_toIntSS a1).bind fun c2 => ((spec_SheetText a0 c2).bind fun c3 => ((laws_toIntSS a1).bind fun c4 => ((impl_SheetText a0 c4).bind fun c5 => (if (!(c5.toList == c3.toList)) = true then (some false) else ((laws_toIntSS a1).bind fun c6 => ((laws_eqIntSS c4 c6).bind fun c7 => (if (!c7) = true then (some false) else (some true))))))))))) := ((laws_FnExactSheetText_lim a0 a1).shift.congr fun n => laws_FnExactSheetTextN_eq n a0 a1).uniq (by repeat' (first | with_reducible exact Lim.const _ | with_reducible refine Lim.ite ?_ ?_ | with_reducible refine Lim.bind ?_ fun _ => ?_ | with_reducible refine Lim.cond ?_ ?_ | with_reducible exact laws_szIntSS_lim .. | with_reducible exact laws_toIntSS_lim .. | with_reducible exact spec_SheetText_lim .. | with_reducible exact impl_SheetText_lim .. | with_reducible exact laws_eqIntSS_lim ..))
end Go.Proofs.YthppocflbgnjlaaDoor.V
