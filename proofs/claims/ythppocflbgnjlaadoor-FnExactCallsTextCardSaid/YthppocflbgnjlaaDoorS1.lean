/- The shapes of the program's functions, as the interpreter computes them (made by wip/tools/gen.py). -/
import Derived.Test.YthppocflbgnjlaaDoorVHH
set_option linter.unusedVariables false
set_option maxRecDepth 100000
namespace Go.Proofs.YthppocflbgnjlaaDoor.V
open Go
/-- strings.Join -/
noncomputable def strings_JoinN (n : Nat) (a0 : List ByteArray) (a1 : ByteArray) : Option ByteArray := frun Tryd.prog HH n 41 (a0, a1)
noncomputable def strings_Join (a0 : List ByteArray) (a1 : ByteArray) : Option ByteArray := run Tryd.prog HH 41 (a0, a1)
theorem strings_Join_lim (a0 : List ByteArray) (a1 : ByteArray) : Lim (fun n => strings_JoinN n a0 a1) (strings_Join a0 a1) := run_lim (P := Tryd.prog) (H := HH) 41 (a0, a1)
/-- strconv.Itoa -/
noncomputable def strconv_ItoaN (n : Nat) (a0 : Int) : Option ByteArray := frun Tryd.prog HH n 78 a0
noncomputable def strconv_Itoa (a0 : Int) : Option ByteArray := run Tryd.prog HH 78 a0
theorem strconv_Itoa_lim (a0 : Int) : Lim (fun n => strconv_ItoaN n a0) (strconv_Itoa a0) := run_lim (P := Tryd.prog) (H := HH) 78 a0
/-- loop.example/g03010/spec.FormatInt -/
noncomputable def spec_FormatIntN (n : Nat) (a0 : Int) : Option ByteArray := frun Tryd.prog HH n 36 a0
noncomputable def spec_FormatInt (a0 : Int) : Option ByteArray := run Tryd.prog HH 36 a0
theorem spec_FormatInt_lim (a0 : Int) : Lim (fun n => spec_FormatIntN n a0) (spec_FormatInt a0) := run_lim (P := Tryd.prog) (H := HH) 36 a0
def spec_FormatInt_L5_st (x0 : Int) (x3 : ByteArray) (x4 : Int) : St := ⟨ofList [(sl 0, .s (.one (.int .i64 x0))), (sl 3, .s (.one (.str x3))), (sl 4, .s (.one (.int .i64 x4)))], 0⟩
noncomputable def spec_FormatInt_L5N (m0 n : Nat) (x0 : Int) (x3 : ByteArray) (x4 : Int) : Option ByteArray := frunAt Tryd.prog HH n 36 [.snd, .snd, .snd, .fst, .snd] m0 (spec_FormatInt_L5_st x0 x3 x4)
noncomputable def spec_FormatInt_L5 (x0 : Int) (x3 : ByteArray) (x4 : Int) : Option ByteArray := runAt Tryd.prog HH 36 [.snd, .snd, .snd, .fst, .snd] (spec_FormatInt_L5_st x0 x3 x4)
theorem spec_FormatInt_L5_lim (x0 : Int) (x3 : ByteArray) (x4 : Int) : Lim (fun n => spec_FormatInt_L5N n n x0 x3 x4) (spec_FormatInt_L5 x0 x3 x4) := runAt_lim (P := Tryd.prog) (H := HH) 36 [.snd, .snd, .snd, .fst, .snd] (spec_FormatInt_L5_st x0 x3 x4)
theorem spec_FormatInt_L5_lim1 (x0 : Int) (x3 : ByteArray) (x4 : Int) : Lim (fun n => spec_FormatInt_L5N (n + 1) n x0 x3 x4) (spec_FormatInt_L5 x0 x3 x4) := runAt_lim1 (P := Tryd.prog) (H := HH) 36 [.snd, .snd, .snd, .fst, .snd] (spec_FormatInt_L5_st x0 x3 x4)
/-- loop.example/g03010/impl.FormatInt -/
noncomputable def impl_FormatIntN (n : Nat) (a0 : Int) : Option ByteArray := frun Tryd.prog HH n 43 a0
noncomputable def impl_FormatInt (a0 : Int) : Option ByteArray := run Tryd.prog HH 43 a0
theorem impl_FormatInt_lim (a0 : Int) : Lim (fun n => impl_FormatIntN n a0) (impl_FormatInt a0) := run_lim (P := Tryd.prog) (H := HH) 43 a0
theorem strings_JoinN_eq (n : Nat) (a0 : List ByteArray) (a1 : ByteArray) : strings_JoinN (n + 1) a0 a1 = (joinC a0 a1) := by kernel_rfl
theorem strings_Join_eq (a0 : List ByteArray) (a1 : ByteArray) : strings_Join a0 a1 = (joinC a0 a1) := ((strings_Join_lim a0 a1).shift.congr fun n => strings_JoinN_eq n a0 a1).uniq (by repeat' (first | with_reducible exact Lim.const _ | with_reducible refine Lim.ite ?_ ?_ | with_reducible refine Lim.bind ?_ fun _ => ?_ | with_reducible refine Lim.cond ?_ ?_))
theorem strconv_ItoaN_eq (n : Nat) (a0 : Int) : strconv_ItoaN (n + 1) a0 = (itoaC a0) := by kernel_rfl
theorem strconv_Itoa_eq (a0 : Int) : strconv_Itoa a0 = (itoaC a0) := ((strconv_Itoa_lim a0).shift.congr fun n => strconv_ItoaN_eq n a0).uniq (by repeat' (first | with_reducible exact Lim.const _ | with_reducible refine Lim.ite ?_ ?_ | with_reducible refine Lim.bind ?_ fun _ => ?_ | with_reducible refine Lim.cond ?_ ?_))
theorem spec_FormatIntN_eq (n : Nat) (a0 : Int) : spec_FormatIntN (n + 1) a0 = (if (a0 == 0) = true then (some (ByteArray.mk #[48])) else (spec_FormatInt_L5N n n a0 (ByteArray.mk #[]) a0)) := by kernel_rfl
theorem spec_FormatInt_eq (a0 : Int) : spec_FormatInt a0 = (if (a0 == 0) = true then (some (ByteArray.mk #[48])) else (spec_FormatInt_L5 a0 (ByteArray.mk #[]) a0)) := ((spec_FormatInt_lim a0).shift.congr fun n => spec_FormatIntN_eq n a0).uniq (by repeat' (first | with_reducible exact Lim.const _ | with_reducible refine Lim.ite ?_ ?_ | with_reducible refine Lim.bind ?_ fun _ => ?_ | with_reducible refine Lim.cond ?_ ?_ | with_reducible exact spec_FormatInt_L5_lim ..))
theorem spec_FormatInt_L5N_eq (m0 n : Nat) (x0 : Int) (x3 : ByteArray) (x4 : Int) : spec_FormatInt_L5N (m0 + 1) n x0 x3 x4 = (if (x4 != 0) = true then (if (decide ((x4.tmod 10) < 0)) = true then (if (strOfNums ([IntKind.u8.wrap (IntKind.i64.wrap (48 + (IntKind.i64.wrap (0 - (x4.tmod 10)))))])).size + x3.size ≤ 9223372036854775807 then (spec_FormatInt_L5N m0 n x0 ((strOfNums ([IntKind.u8.wrap (IntKind.i64.wrap (48 + (IntKind.i64.wrap (0 - (x4.tmod 10)))))])) ++ x3) (IntKind.i64.wrap (x4.tdiv 10))) else none) else (if (strOfNums ([IntKind.u8.wrap (IntKind.i64.wrap (48 + (x4.tmod 10)))])).size + x3.size ≤ 9223372036854775807 then (spec_FormatInt_L5N m0 n x0 ((strOfNums ([IntKind.u8.wrap (IntKind.i64.wrap (48 + (x4.tmod 10)))])) ++ x3) (IntKind.i64.wrap (x4.tdiv 10))) else none)) else (if (decide (x0 < 0)) = true then (if (ByteArray.mk #[45]).size + x3.size ≤ 9223372036854775807 then (some ((ByteArray.mk #[45]) ++ x3)) else none) else (some x3))) := by kernel_rfl
theorem spec_FormatInt_L5_eq (x0 : Int) (x3 : ByteArray) (x4 : Int) : spec_FormatInt_L5 x0 x3 x4 = (if (x4 != 0) = true then (if (decide ((x4.tmod 10) < 0)) = true then (if (strOfNums ([IntKind.u8.wrap (IntKind.i64.wrap (48 + (IntKind.i64.wrap (0 - (x4.tmod 10)))))])).size + x3.size ≤ 9223372036854775807 then (spec_FormatInt_L5 x0 ((strOfNums ([IntKind.u8.wrap (IntKind.i64.wrap (48 + (IntKind.i64.wrap (0 - (x4.tmod 10)))))])) ++ x3) (IntKind.i64.wrap (x4.tdiv 10))) else none) else (if (strOfNums ([IntKind.u8.wrap (IntKind.i64.wrap (48 + (x4.tmod 10)))])).size + x3.size ≤ 9223372036854775807 then (spec_FormatInt_L5 x0 ((strOfNums ([IntKind.u8.wrap (IntKind.i64.wrap (48 + (x4.tmod 10)))])) ++ x3) (IntKind.i64.wrap (x4.tdiv 10))) else none)) else (if (decide (x0 < 0)) = true then (if (ByteArray.mk #[45]).size + x3.size ≤ 9223372036854775807 then (some ((ByteArray.mk #[45]) ++ x3)) else none) else (some x3))) := ((spec_FormatInt_L5_lim1 x0 x3 x4).congr fun n => spec_FormatInt_L5N_eq n n x0 x3 x4).uniq (by repeat' (first | with_reducible exact Lim.const _ | with_reducible refine Lim.ite ?_ ?_ | with_reducible refine Lim.bind ?_ fun _ => ?_ | with_reducible refine Lim.cond ?_ ?_ | with_reducible exact spec_FormatInt_L5_lim ..))
theorem impl_FormatIntN_eq (n : Nat) (a0 : Int) : impl_FormatIntN (n + 1) a0 = ((strconv_ItoaN n a0).bind fun c1 => (some c1)) := by kernel_rfl
theorem impl_FormatInt_eq (a0 : Int) : impl_FormatInt a0 = ((strconv_Itoa a0).bind fun c1 => (some c1)) := ((impl_FormatInt_lim a0).shift.congr fun n => impl_FormatIntN_eq n a0).uniq (by repeat' (first | with_reducible exact Lim.const _ | with_reducible refine Lim.ite ?_ ?_ | with_reducible refine Lim.bind ?_ fun _ => ?_ | with_reducible refine Lim.cond ?_ ?_ | with_reducible exact strconv_Itoa_lim ..))
end Go.Proofs.YthppocflbgnjlaaDoor.V
