/- Plain laws over the shapes. -/
import Derived.Test.YtenojifdoofcfaaPPat
import Derived.Test.YtenojifdoofcfaaFIsPatience
import Derived.Test.YtenojifdoofcfaaFPatiencecopied
import Derived.Test.YtenojifdoofcfaaFTurn
import Derived.Test.YtenojifdoofcfaaFl18Copy
import Derived.Test.YtenojifdoofcfaaS1
set_option linter.unusedVariables false
set_option linter.unusedSimpArgs false
set_option maxRecDepth 10000
namespace Go.Proofs.Ytenojifdoofcfaa.V
open Go
def turnM (ps : List (List Int × Int)) (b st wa : List Int) : List (List Int × Int) × List Int × List Int × List Int × Bool :=
  if patM ps b st wa = true then (if st.length + wa.length = 0 then (ps, b, st, wa, false) else if st.length = 0 then (ps, b, wa, [], true) else (ps, b, st.drop 1, wa ++ [st.getD 0 0], true)) else (ps, b, st, wa, false)
theorem spec_Turn_ok (ps : List (List Int × Int)) (b st wa : List Int) (hh : G3 ps) (hb : b.length ≤ 2097152) (h9 : st.length ≤ 2097152) (h10 : wa.length ≤ 2097152) : spec_Turn ps b st wa = some (turnM ps b st wa) := by
  have w : IntKind.i64.wrap ((st.length : Int) + (wa.length : Int)) = (st.length : Int) + (wa.length : Int) := wrap_id (by omega) (by omega)
  rw [spec_Turn_eq, spec_l18Copy_ok ps b st wa hh hb h9 h10, Option.bind_some, spec_IsPatience_ok ps b st wa hh hb h9 h10, Option.bind_some, w, turnM]
  cases hp : patM ps b st wa
  · rfl
  · simp only [Bool.not_true, Bool.false_eq_true, if_false, if_true]
    by_cases c1 : st.length + wa.length = 0
    · simp (disch := (first | omega | (simp only [List.length_append, List.length_cons, List.length_nil, List.length_take, List.length_drop, List.length_set, List.length_replicate, List.length_singleton]; omega))) only [↓if_dpos, ↓if_dneg, ↓if_epos, ↓if_eneg, ↓if_npos, ↓if_nneg, ↓if_pos, ↓if_neg]
    · by_cases c2 : st.length = 0
      · simp (disch := (first | omega | (simp only [List.length_append, List.length_cons, List.length_nil, List.length_take, List.length_drop, List.length_set, List.length_replicate, List.length_singleton]; omega))) only [↓if_dpos, ↓if_dneg, ↓if_epos, ↓if_eneg, ↓if_npos, ↓if_nneg, ↓if_pos, ↓if_neg]
      · simp (disch := (first | omega | (simp only [List.length_append, List.length_cons, List.length_nil, List.length_take, List.length_drop, List.length_set, List.length_replicate, List.length_singleton]; omega))) only [↓if_dpos, ↓if_dneg, ↓if_epos, ↓if_eneg, ↓if_npos, ↓if_nneg, ↓if_pos, ↓if_neg, Int.toNat_natCast, List.nil_append, Nat.zero_add, List.length_singleton, Option.bind_some, List.drop_zero, List.take_length, if_true, if_false]
theorem impl_Turn_ok (ps : List (List Int × Int)) (b st wa : List Int) (hh : G3 ps) (hb : b.length ≤ 2097152) (h9 : st.length ≤ 2097152) (h10 : wa.length ≤ 2097152) : impl_Turn ps b st wa = some (turnM ps b st wa) := by
  have w : IntKind.i64.wrap ((st.length : Int) + (wa.length : Int)) = (st.length : Int) + (wa.length : Int) := wrap_id (by omega) (by omega)
  have e := impl_copyOf_ok (st.drop 1) (by simp; omega)
  rw [impl_Turn_eq, impl_Patience_copied_ok ps b st wa hh hb h9 h10, Option.bind_some, impl_IsPatience_ok ps b st wa hh hb h9 h10, Option.bind_some, w, turnM]
  cases hp : patM ps b st wa
  · rfl
  · simp only [Bool.not_true, Bool.false_eq_true, if_false, if_true]
    by_cases c1 : st.length + wa.length = 0
    · simp (disch := (first | omega | (simp only [List.length_append, List.length_cons, List.length_nil, List.length_take, List.length_drop, List.length_set, List.length_replicate, List.length_singleton]; omega))) only [↓if_dpos, ↓if_dneg, ↓if_epos, ↓if_eneg, ↓if_npos, ↓if_nneg, ↓if_pos, ↓if_neg]
    · by_cases c2 : st.length = 0
      · simp (disch := (first | omega | (simp only [List.length_append, List.length_cons, List.length_nil, List.length_take, List.length_drop, List.length_set, List.length_replicate, List.length_singleton]; omega))) only [↓if_dpos, ↓if_dneg, ↓if_epos, ↓if_eneg, ↓if_npos, ↓if_nneg, ↓if_pos, ↓if_neg]
      · simp (disch := (first | omega | (simp only [List.length_append, List.length_cons, List.length_nil, List.length_take, List.length_drop, List.length_set, List.length_replicate, List.length_singleton]; omega))) only [↓if_dpos, ↓if_dneg, ↓if_epos, ↓if_eneg, ↓if_npos, ↓if_nneg, ↓if_pos, ↓if_neg, Int.toNat_natCast, List.nil_append, Nat.zero_add, List.length_singleton, Option.bind_some, List.drop_zero, List.take_length, if_true, if_false, e]
end Go.Proofs.Ytenojifdoofcfaa.V
