/- Plain laws over the shapes. -/
import Derived.Test.YtenojifdoofcfaaPPat
import Derived.Test.YtenojifdoofcfaaFIsPatience
import Derived.Test.YtenojifdoofcfaaFMoveWaste
import Derived.Test.YtenojifdoofcfaaFPatiencecopied
import Derived.Test.YtenojifdoofcfaaFStacked
import Derived.Test.YtenojifdoofcfaaFl18Copy
import Derived.Test.YtenojifdoofcfaaS1
import Derived.Test.YtenojifdoofcfaaS2
set_option linter.unusedVariables false
set_option linter.unusedSimpArgs false
set_option maxRecDepth 10000
namespace Go.Proofs.Ytenojifdoofcfaa.V
open Go
def moveWasteM (ps : List (List Int × Int)) (b st wa : List Int) (to : Int) : List (List Int × Int) × List Int × List Int × List Int × Bool :=
  if patM ps b st wa = true then (if wa.length = 0 then (ps, b, st, wa, false) else if inR to (-1) ((ps.length : Int) - 1) = true then
    (if to = -1 then (if (builtM b (wa.getD (wa.length - 1) 0)).2 = true then (ps, (builtM b (wa.getD (wa.length - 1) 0)).1, st, wa.take (wa.length - 1), true) else (ps, b, st, wa, false))
     else if (stackM (ps.getD to.toNat ([], 0)).1 (ps.getD to.toNat ([], 0)).2 [wa.getD (wa.length - 1) 0]).2.2 = true then (ps.set to.toNat ((stackM (ps.getD to.toNat ([], 0)).1 (ps.getD to.toNat ([], 0)).2 [wa.getD (wa.length - 1) 0]).1, (stackM (ps.getD to.toNat ([], 0)).1 (ps.getD to.toNat ([], 0)).2 [wa.getD (wa.length - 1) 0]).2.1), b, st, wa.take (wa.length - 1), true)
     else (ps, b, st, wa, false))
    else (ps, b, st, wa, false))
  else (ps, b, st, wa, false)
theorem builtM_no {b : List Int} {c : Int} (h : (builtM b c).2 = false) : builtM b c = (b, false) := by
  unfold builtM at h ⊢
  cases hm : mayBM b c
  · rfl
  · rw [hm] at h; cases h
theorem stack1_no {l : List Int} {h c : Int} (k : (stackM l h [c]).2.2 = false) : stackM l h [c] = (l, h, false) := by
  unfold stackM at k ⊢
  rw [stackR] at k ⊢
  cases hm : mayM l h c
  · rfl
  · rw [hm] at k; cases k
theorem set_getD_self {α : Type} {l : List α} {i : Nat} {d : α} (hi : i < l.length) : l.set i (l.getD i d) = l := by
  rw [List.getD_eq_getElem?_getD, List.getElem?_eq_getElem hi]; exact List.set_getElem_self hi
theorem spec_MoveWaste_ok (ps : List (List Int × Int)) (b st wa : List Int) (to : Int) (hh : G3 ps) (hb : b.length ≤ 2097152) (h9 : st.length ≤ 2097152) (h10 : wa.length ≤ 2097152) : spec_MoveWaste ps b st wa to = some (moveWasteM ps b st wa to) := by
  have hl := hh.len
  have w : IntKind.i64.wrap ((ps.length : Int) - 1) = (ps.length : Int) - 1 := wrap_id (by omega) (by omega)
  have hq := hh.at' (i := to.toNat)
  rw [spec_MoveWaste_eq, spec_l18Copy_ok ps b st wa hh hb h9 h10, Option.bind_some, spec_IsPatience_ok ps b st wa hh hb h9 h10, Option.bind_some, w, spec_l1In_ok, Option.bind_some, moveWasteM]
  cases patM ps b st wa
  · rfl
  · simp only [Bool.not_true, Bool.false_eq_true, if_false, if_true]
    by_cases c1 : wa.length = 0
    · simp (disch := (first | omega | (simp only [List.length_append, List.length_cons, List.length_nil, List.length_take, List.length_drop, List.length_set, List.length_replicate, List.length_singleton]; omega))) only [↓if_dpos, ↓if_dneg, ↓if_epos, ↓if_eneg, ↓if_npos, ↓if_nneg, ↓if_pos, ↓if_neg]
    · cases hr : inR to (-1) ((ps.length : Int) - 1)
      · simp (disch := (first | omega | (simp only [List.length_append, List.length_cons, List.length_nil, List.length_take, List.length_drop, List.length_set, List.length_replicate, List.length_singleton]; omega))) only [↓if_dpos, ↓if_dneg, ↓if_epos, ↓if_eneg, ↓if_npos, ↓if_nneg, ↓if_pos, ↓if_neg]; rfl
      · have hr2 := hr; simp [inR] at hr2
        have ww : IntKind.i64.wrap ((wa.length : Int) - 1) = ((wa.length - 1 : Nat) : Int) := by rw [wrap_id (by omega) (by omega)]; omega
        by_cases c2 : to = -1
        · simp (disch := (first | omega | (simp only [List.length_append, List.length_cons, List.length_nil, List.length_take, List.length_drop, List.length_set, List.length_replicate, List.length_singleton]; omega))) only [↓if_dpos, ↓if_dneg, ↓if_epos, ↓if_eneg, ↓if_npos, ↓if_nneg, ↓if_pos, ↓if_neg, ww, Int.toNat_natCast, List.nil_append, Nat.zero_add, List.length_singleton, Option.bind_some, List.drop_zero, List.take_length, if_true, if_false, spec_Built_ok _ _ hb, Bool.not_true, Bool.false_eq_true]
          cases hbu : (builtM b (wa.getD (wa.length - 1) 0)).2 <;> rfl
        · simp (disch := (first | omega | (simp only [List.length_append, List.length_cons, List.length_nil, List.length_take, List.length_drop, List.length_set, List.length_replicate, List.length_singleton]; omega))) only [↓if_dpos, ↓if_dneg, ↓if_epos, ↓if_eneg, ↓if_npos, ↓if_nneg, ↓if_pos, ↓if_neg, ww, Int.toNat_natCast, List.nil_append, Nat.zero_add, List.length_singleton, Option.bind_some, List.drop_zero, List.take_length, if_true, if_false, spec_Stacked_ok _ _ _ hq, Bool.not_true, Bool.false_eq_true]
          cases hbu : (stackM (ps.getD to.toNat ([], 0)).1 (ps.getD to.toNat ([], 0)).2 [wa.getD (wa.length - 1) 0]).2.2 <;> rfl
theorem impl_MoveWaste_ok (ps : List (List Int × Int)) (b st wa : List Int) (to : Int) (hh : G3 ps) (hb : b.length ≤ 2097152) (h9 : st.length ≤ 2097152) (h10 : wa.length ≤ 2097152) : impl_MoveWaste ps b st wa to = some (moveWasteM ps b st wa to) := by
  have hl := hh.len
  have w : IntKind.i64.wrap ((ps.length : Int) - 1) = (ps.length : Int) - 1 := wrap_id (by omega) (by omega)
  have hq := hh.at' (i := to.toNat)
  rw [impl_MoveWaste_eq, impl_Patience_copied_ok ps b st wa hh hb h9 h10, Option.bind_some, impl_IsPatience_ok ps b st wa hh hb h9 h10, Option.bind_some, w, impl_InRange_ok, Option.bind_some, moveWasteM]
  cases patM ps b st wa
  · rfl
  · simp only [Bool.not_true, Bool.false_eq_true, if_false, if_true]
    by_cases c1 : wa.length = 0
    · simp (disch := (first | omega | (simp only [List.length_append, List.length_cons, List.length_nil, List.length_take, List.length_drop, List.length_set, List.length_replicate, List.length_singleton]; omega))) only [↓if_dpos, ↓if_dneg, ↓if_epos, ↓if_eneg, ↓if_npos, ↓if_nneg, ↓if_pos, ↓if_neg]
    · cases hr : inR to (-1) ((ps.length : Int) - 1)
      · simp (disch := (first | omega | (simp only [List.length_append, List.length_cons, List.length_nil, List.length_take, List.length_drop, List.length_set, List.length_replicate, List.length_singleton]; omega))) only [↓if_dpos, ↓if_dneg, ↓if_epos, ↓if_eneg, ↓if_npos, ↓if_nneg, ↓if_pos, ↓if_neg]; rfl
      · have hr2 := hr; simp [inR] at hr2
        have ww : IntKind.i64.wrap ((wa.length : Int) - 1) = ((wa.length - 1 : Nat) : Int) := by rw [wrap_id (by omega) (by omega)]; omega
        by_cases c2 : to = -1
        · simp (disch := (first | omega | (simp only [List.length_append, List.length_cons, List.length_nil, List.length_take, List.length_drop, List.length_set, List.length_replicate, List.length_singleton]; omega))) only [↓if_dpos, ↓if_dneg, ↓if_epos, ↓if_eneg, ↓if_npos, ↓if_nneg, ↓if_pos, ↓if_neg, ww, Int.toNat_natCast, List.nil_append, Nat.zero_add, List.length_singleton, Option.bind_some, List.drop_zero, List.take_length, if_true, if_false, impl_Built_ok _ _ hb, Bool.not_true, Bool.false_eq_true]
          cases hbu : (builtM b (wa.getD (wa.length - 1) 0)).2
          · rw [builtM_no hbu]; rfl
          · rfl
        · simp (disch := (first | omega | (simp only [List.length_append, List.length_cons, List.length_nil, List.length_take, List.length_drop, List.length_set, List.length_replicate, List.length_singleton]; omega))) only [↓if_dpos, ↓if_dneg, ↓if_epos, ↓if_eneg, ↓if_npos, ↓if_nneg, ↓if_pos, ↓if_neg, ww, Int.toNat_natCast, List.nil_append, Nat.zero_add, List.length_singleton, Option.bind_some, List.drop_zero, List.take_length, if_true, if_false, impl_Stacked_ok _ _ _ hq, Bool.not_true, Bool.false_eq_true]
          cases hbu : (stackM (ps.getD to.toNat ([], 0)).1 (ps.getD to.toNat ([], 0)).2 [wa.getD (wa.length - 1) 0]).2.2
          · rw [stack1_no hbu]
            have := set_getD_self (d := ([], 0)) (by omega : to.toNat < ps.length)
            simp only [Bool.false_eq_true, if_false]
            rw [show ((ps.getD to.toNat ([], 0)).1, (ps.getD to.toNat ([], 0)).2) = ps.getD to.toNat ([], 0) from rfl, this]
          · rfl
end Go.Proofs.Ytenojifdoofcfaa.V
