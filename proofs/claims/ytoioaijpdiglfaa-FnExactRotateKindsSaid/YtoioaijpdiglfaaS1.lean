/- The shapes of the program's functions, as the interpreter computes them (made by wip/tools/gen.py). -/
import Derived.Test.YtoioaijpdiglfaaVHH
set_option linter.unusedVariables false
set_option maxRecDepth 100000
namespace Go.Proofs.Ytoioaijpdiglfaa.V
open Go
/-- loop.example/g03010/impl.InRange -/
noncomputable def impl_InRangeN (n : Nat) (a0 a1 a2 : Int) : Option Bool := frun Try.prog HH n 91 (a0, a1, a2)
noncomputable def impl_InRange (a0 a1 a2 : Int) : Option Bool := run Try.prog HH 91 (a0, a1, a2)
theorem impl_InRange_lim (a0 a1 a2 : Int) : Lim (fun n => impl_InRangeN n a0 a1 a2) (impl_InRange a0 a1 a2) := run_lim (P := Try.prog) (H := HH) 91 (a0, a1, a2)
/-- loop.example/g03010/impl.copyOf -/
noncomputable def impl_copyOfN (n : Nat) (a0 : List Int) : Option (List Int) := frun Try.prog HH n 111 a0
noncomputable def impl_copyOf (a0 : List Int) : Option (List Int) := run Try.prog HH 111 a0
theorem impl_copyOf_lim (a0 : List Int) : Lim (fun n => impl_copyOfN n a0) (impl_copyOf a0) := run_lim (P := Try.prog) (H := HH) 111 a0
/-- loop.example/g03010/impl.Cut -/
noncomputable def impl_CutN (n : Nat) (a0 : List Int) (a1 : Int) : Option (List Int) := frun Try.prog HH n 85 (a0, a1)
noncomputable def impl_Cut (a0 : List Int) (a1 : Int) : Option (List Int) := run Try.prog HH 85 (a0, a1)
theorem impl_Cut_lim (a0 : List Int) (a1 : Int) : Lim (fun n => impl_CutN n a0 a1) (impl_Cut a0 a1) := run_lim (P := Try.prog) (H := HH) 85 (a0, a1)
theorem impl_InRangeN_eq (n : Nat) (a0 a1 a2 : Int) : impl_InRangeN (n + 1) a0 a1 a2 = (if (decide (a1 ≤ a0)) = true then (some (decide (a0 ≤ a2))) else (some false)) := by kernel_rfl
theorem impl_InRange_eq (a0 a1 a2 : Int) : impl_InRange a0 a1 a2 = (if (decide (a1 ≤ a0)) = true then (some (decide (a0 ≤ a2))) else (some false)) := ((impl_InRange_lim a0 a1 a2).shift.congr fun n => impl_InRangeN_eq n a0 a1 a2).uniq (by repeat' (first | with_reducible exact Lim.const _ | with_reducible refine Lim.ite ?_ ?_ | with_reducible refine Lim.bind ?_ fun _ => ?_ | with_reducible refine Lim.cond ?_ ?_))
theorem impl_copyOfN_eq (n : Nat) (a0 : List Int) : impl_copyOfN (n + 1) a0 = (if (0 + a0.length) * 8 ≤ 140737488355328 then (some ([] ++ a0)) else none) := by kernel_rfl
theorem impl_copyOf_eq (a0 : List Int) : impl_copyOf a0 = (if (0 + a0.length) * 8 ≤ 140737488355328 then (some ([] ++ a0)) else none) := ((impl_copyOf_lim a0).shift.congr fun n => impl_copyOfN_eq n a0).uniq (by repeat' (first | with_reducible exact Lim.const _ | with_reducible refine Lim.ite ?_ ?_ | with_reducible refine Lim.bind ?_ fun _ => ?_ | with_reducible refine Lim.cond ?_ ?_))
theorem impl_CutN_eq (n : Nat) (a0 : List Int) (a1 : Int) : impl_CutN (n + 1) a0 a1 = ((impl_InRangeN n a1 0 (a0.length : Int)).bind fun c1 => (if (!c1) = true then ((impl_copyOfN n a0).bind fun c2 => (some c2)) else (if 0 ≤ a1 then (if a1 ≤ (a0.length : Int) then ((impl_copyOfN n (((a0).take a0.length).drop a1.toNat)).bind fun c3 => (if 0 ≤ a1 then (if a1 ≤ (a0.length : Int) then (if (c3.length + (((a0).take a1.toNat).drop 0).length) * 8 ≤ 140737488355328 then (some (c3 ++ (((a0).take a1.toNat).drop 0))) else none) else none) else none)) else none) else none))) := by kernel_rfl
theorem impl_Cut_eq (a0 : List Int) (a1 : Int) : impl_Cut a0 a1 = ((impl_InRange a1 0 (a0.length : Int)).bind fun c1 => (if (!c1) = true then ((impl_copyOf a0).bind fun c2 => (some c2)) else (if 0 ≤ a1 then (if a1 ≤ (a0.length : Int) then ((impl_copyOf (((a0).take a0.length).drop a1.toNat)).bind fun c3 => (if 0 ≤ a1 then (if a1 ≤ (a0.length : Int) then (if (c3.length + (((a0).take a1.toNat).drop 0).length) * 8 ≤ 140737488355328 then (some (c3 ++ (((a0).take a1.toNat).drop 0))) else none) else none) else none)) else none) else none))) := ((impl_Cut_lim a0 a1).shift.congr fun n => impl_CutN_eq n a0 a1).uniq (by repeat' (first | with_reducible exact Lim.const _ | with_reducible refine Lim.ite ?_ ?_ | with_reducible refine Lim.bind ?_ fun _ => ?_ | with_reducible refine Lim.cond ?_ ?_ | with_reducible exact impl_InRange_lim .. | with_reducible exact impl_copyOf_lim ..))
end Go.Proofs.Ytoioaijpdiglfaa.V
