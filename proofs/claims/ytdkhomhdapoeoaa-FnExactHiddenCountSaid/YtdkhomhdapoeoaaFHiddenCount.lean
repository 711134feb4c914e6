/- The shapes of the program's functions, as the interpreter computes them (made by wip/tools/gen.py). -/
import Derived.Test.YtdkhomhdapoeoaaVHH
set_option linter.unusedVariables false
set_option maxRecDepth 100000
namespace Go.Proofs.Ytdkhomhdapoeoaa.V
open Go
/-- loop.example/g03010/spec.HiddenCount -/
noncomputable def spec_HiddenCountN (n : Nat) (a0_0 : Int) (a0_1 : List Int) (a0_2 a0_3 a0_4 : Int) (a0_5 : List Int) (a0_6 a0_7 : Int) : Option Int := frun Try.prog HH n 40 (a0_0, a0_1, a0_2, a0_3, a0_4, a0_5, a0_6, a0_7)
noncomputable def spec_HiddenCount (a0_0 : Int) (a0_1 : List Int) (a0_2 a0_3 a0_4 : Int) (a0_5 : List Int) (a0_6 a0_7 : Int) : Option Int := run Try.prog HH 40 (a0_0, a0_1, a0_2, a0_3, a0_4, a0_5, a0_6, a0_7)
theorem spec_HiddenCount_lim (a0_0 : Int) (a0_1 : List Int) (a0_2 a0_3 a0_4 : Int) (a0_5 : List Int) (a0_6 a0_7 : Int) : Lim (fun n => spec_HiddenCountN n a0_0 a0_1 a0_2 a0_3 a0_4 a0_5 a0_6 a0_7) (spec_HiddenCount a0_0 a0_1 a0_2 a0_3 a0_4 a0_5 a0_6 a0_7) := run_lim (P := Try.prog) (H := HH) 40 (a0_0, a0_1, a0_2, a0_3, a0_4, a0_5, a0_6, a0_7)
/-- loop.example/g03010/impl.HiddenCount -/
noncomputable def impl_HiddenCountN (n : Nat) (a0_0 : Int) (a0_1 : List Int) (a0_2 a0_3 a0_4 : Int) (a0_5 : List Int) (a0_6 a0_7 : Int) : Option Int := frun Try.prog HH n 42 (a0_0, a0_1, a0_2, a0_3, a0_4, a0_5, a0_6, a0_7)
noncomputable def impl_HiddenCount (a0_0 : Int) (a0_1 : List Int) (a0_2 a0_3 a0_4 : Int) (a0_5 : List Int) (a0_6 a0_7 : Int) : Option Int := run Try.prog HH 42 (a0_0, a0_1, a0_2, a0_3, a0_4, a0_5, a0_6, a0_7)
theorem impl_HiddenCount_lim (a0_0 : Int) (a0_1 : List Int) (a0_2 a0_3 a0_4 : Int) (a0_5 : List Int) (a0_6 a0_7 : Int) : Lim (fun n => impl_HiddenCountN n a0_0 a0_1 a0_2 a0_3 a0_4 a0_5 a0_6 a0_7) (impl_HiddenCount a0_0 a0_1 a0_2 a0_3 a0_4 a0_5 a0_6 a0_7) := run_lim (P := Try.prog) (H := HH) 42 (a0_0, a0_1, a0_2, a0_3, a0_4, a0_5, a0_6, a0_7)
theorem spec_HiddenCountN_eq (n : Nat) (a0_0 : Int) (a0_1 : List Int) (a0_2 a0_3 a0_4 : Int) (a0_5 : List Int) (a0_6 a0_7 : Int) : spec_HiddenCountN (n + 1) a0_0 a0_1 a0_2 a0_3 a0_4 a0_5 a0_6 a0_7 = (some (IntKind.i64.wrap ((IntKind.i64.wrap (52 - (a0_1.length : Int))) - 1))) := by kernel_rfl
theorem spec_HiddenCount_eq (a0_0 : Int) (a0_1 : List Int) (a0_2 a0_3 a0_4 : Int) (a0_5 : List Int) (a0_6 a0_7 : Int) : spec_HiddenCount a0_0 a0_1 a0_2 a0_3 a0_4 a0_5 a0_6 a0_7 = (some (IntKind.i64.wrap ((IntKind.i64.wrap (52 - (a0_1.length : Int))) - 1))) := ((spec_HiddenCount_lim a0_0 a0_1 a0_2 a0_3 a0_4 a0_5 a0_6 a0_7).shift.congr fun n => spec_HiddenCountN_eq n a0_0 a0_1 a0_2 a0_3 a0_4 a0_5 a0_6 a0_7).uniq (by repeat' (first | with_reducible exact Lim.const _ | with_reducible refine Lim.ite ?_ ?_ | with_reducible refine Lim.bind ?_ fun _ => ?_ | with_reducible refine Lim.cond ?_ ?_))
theorem impl_HiddenCountN_eq (n : Nat) (a0_0 : Int) (a0_1 : List Int) (a0_2 a0_3 a0_4 : Int) (a0_5 : List Int) (a0_6 a0_7 : Int) : impl_HiddenCountN (n + 1) a0_0 a0_1 a0_2 a0_3 a0_4 a0_5 a0_6 a0_7 = (some (IntKind.i64.wrap ((IntKind.i64.wrap (52 - (a0_1.length : Int))) - 1))) := by kernel_rfl
theorem impl_HiddenCount_eq (a0_0 : Int) (a0_1 : List Int) (a0_2 a0_3 a0_4 : Int) (a0_5 : List Int) (a0_6 a0_7 : Int) : impl_HiddenCount a0_0 a0_1 a0_2 a0_3 a0_4 a0_5 a0_6 a0_7 = (some (IntKind.i64.wrap ((IntKind.i64.wrap (52 - (a0_1.length : Int))) - 1))) := ((impl_HiddenCount_lim a0_0 a0_1 a0_2 a0_3 a0_4 a0_5 a0_6 a0_7).shift.congr fun n => impl_HiddenCountN_eq n a0_0 a0_1 a0_2 a0_3 a0_4 a0_5 a0_6 a0_7).uniq (by repeat' (first | with_reducible exact Lim.const _ | with_reducible refine Lim.ite ?_ ?_ | with_reducible refine Lim.bind ?_ fun _ => ?_ | with_reducible refine Lim.cond ?_ ?_))
end Go.Proofs.Ytdkhomhdapoeoaa.V
