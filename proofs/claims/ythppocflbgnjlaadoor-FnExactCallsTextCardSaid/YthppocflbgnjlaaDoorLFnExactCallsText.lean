/- The shapes of the program's functions, as the interpreter computes them (made by wip/tools/gen.py). -/
import Derived.Test.YthppocflbgnjlaaDoorVHH
import Derived.Test.YthppocflbgnjlaaDoorFCallsText
import Derived.Test.YthppocflbgnjlaaDoorM
set_option linter.unusedVariables false
set_option maxRecDepth 100000
namespace Go.Proofs.YthppocflbgnjlaaDoor.V
open Go
/-- loop.example/g03010/laws.FnExactCallsText -/
noncomputable def laws_FnExactCallsTextN (n : Nat) (a0 : List Int) : Option Bool := frun Tryd.prog HH n 4 a0
noncomputable def laws_FnExactCallsText (a0 : List Int) : Option Bool := run Tryd.prog HH 4 a0
theorem laws_FnExactCallsText_lim (a0 : List Int) : Lim (fun n => laws_FnExactCallsTextN n a0) (laws_FnExactCallsText a0) := run_lim (P := Tryd.prog) (H := HH) 4 a0
theorem laws_FnExactCallsTextN_eq (n : Nat) (a0 : List Int) : laws_FnExactCallsTextN (n + 1) a0 = (if (decide ((a0.length : Int) > 1048576)) = true then (some true) else ((laws_toIntSN n a0).bind fun c1 => ((spec_CallsTextN n c1).bind fun c2 => ((laws_toIntSN n a0).bind fun c3 => ((impl_CallsTextN n c3).bind fun c4 => (if (!(c4.toList == c2.toList)) = true then (some false) else ((laws_toIntSN n a0).bind fun c5 => ((laws_eqIntSN n c3 c5).bind fun c6 => (if (!c6) = true then (some false) else (some true)))))))))) := by kernel_rfl
theorem laws_FnExactCallsText_eq (a0 : List Int) : laws_FnExactCallsText a0 = (if (decide ((a0.length : Int) > 1048576)) = true then (some true) else ((laws_toIntS a0).bind fun c1 => ((spec_CallsText c1).bind fun c2 => ((laws_toIntS a0).bind fun c3 => ((impl_CallsText c3).bind fun c4 => (if (!(c4.toList == c2.toList)) = true then (some false) else ((laws_toIntS a0).bind fun c5 => ((laws_eqIntS c3 c5).bind fun c6 => (if (!c6) = true then (some false) else (some true)))))))))) := ((laws_FnExactCallsText_lim a0).shift.congr fun n => laws_FnExactCallsTextN_eq n a0).uniq (by repeat' (first | with_reducible exact Lim.const _ | with_reducible refine Lim.ite ?_ ?_ | with_reducible refine Lim.bind ?_ fun _ => ?_ | with_reducible refine Lim.cond ?_ ?_ | with_reducible exact laws_toIntS_lim .. | with_reducible exact spec_CallsText_lim .. | with_reducible exact impl_CallsText_lim .. | with_reducible exact laws_eqIntS_lim ..))
end Go.Proofs.YthppocflbgnjlaaDoor.V
