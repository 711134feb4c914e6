/- Plain laws over the shapes. -/
import Derived.Test.YtenojifdoofcfaaPPat
import Derived.Test.YtenojifdoofcfaaFIsPatience
import Derived.Test.YtenojifdoofcfaaFLifted
import Derived.Test.YtenojifdoofcfaaFMovePile
import Derived.Test.YtenojifdoofcfaaFMoveWaste
import Derived.Test.YtenojifdoofcfaaFNewPatience
import Derived.Test.YtenojifdoofcfaaFPatiencecopied
import Derived.Test.YtenojifdoofcfaaFStacked
import Derived.Test.YtenojifdoofcfaaFl18Copy
import Derived.Test.YtenojifdoofcfaaS1
import Derived.Test.YtenojifdoofcfaaS2
import Derived.Test.YtenojifdoofcfaaS4
import Derived.Test.YtenojifdoofcfaaS5
import Derived.Test.YtenojifdoofcfaaS6
set_option linter.unusedVariables false
set_option linter.unusedSimpArgs false
set_option maxRecDepth 10000
namespace Go.Proofs.Ytenojifdoofcfaa.V
open Go
def turnM (ps : List (List Int × Int)) (b st wa : List Int) : List (List Int × Int) × List Int × List Int × List Int × Bool :=
  if patM ps b st wa = true then (if st.length + wa.length = 0 then (ps, b, st, wa, false) else if st.length = 0 then (ps, b, wa, [], true) else (ps, b, st.drop 1, wa ++ [st.getD 0 0], true)) else (ps, b, st, wa, false)
theorem spec_Turn_ok (ps : List (List Int × Int)) (b st wa : List Int) (hh : G3 ps) (hb : b.length ≤ 2097152) (h9 : st.length ≤ 2097152) (h10 : wa.length ≤ 2097152) : spec_Turn ps b st wa = some (turnM ps b st wa) := by
  have w : IntKind.i64.wrap ((st.length : Int) + (wa.length : Int)) = (st.length : Int) + (wa.length : Int) := wrap_id (by omega) (by omega)
  rw [spec_Turn_eq, spec_l18Copy_ok ps b st wa hh hb h9 h10, Option.bind_some, spec_IsPatience_ok ps b st wa hh hb h9 h10, Option.bind_some, w, turnM]
  cases hp : patM ps b st wa
  · rfl
  · simp only [Bool.not_true, Bool.false_eq_true, if_false, if_true]
    by_cases c1 : st.length + wa.length = 0
    · simp (disch := (first | omega | (simp only [List.length_append, List.length_cons, List.length_nil, List.length_take, List.length_drop, List.length_set, List.length_replicate, List.length_singleton]; omega))) only [↓if_dpos, ↓if_dneg, ↓if_epos, ↓if_eneg, ↓if_npos, ↓if_nneg, ↓if_pos, ↓if_neg]
    · by_cases c2 : st.length = 0
      · simp (disch := (first | omega | (simp only [List.length_append, List.length_cons, List.length_nil, List.length_take, List.length_drop, List.length_set, List.length_replicate, List.length_singleton]; omega))) only [↓if_dpos, ↓if_dneg, ↓if_epos, ↓if_eneg, ↓if_npos, ↓if_nneg, ↓if_pos, ↓if_neg]
      · simp (disch := (first | omega | (simp only [List.length_append, List.length_cons, List.length_nil, List.length_take, List.length_drop, List.length_set, List.length_replicate, List.length_singleton]; omega))) only [↓if_dpos, ↓if_dneg, ↓if_epos, ↓if_eneg, ↓if_npos, ↓if_nneg, ↓if_pos, ↓if_neg, Int.toNat_natCast, List.nil_append, Nat.zero_add, List.length_singleton, Option.bind_some, List.drop_zero, List.take_length, if_true, if_false]
theorem impl_Turn_ok (ps : List (List Int × Int)) (b st wa : List Int) (hh : G3 ps) (hb : b.length ≤ 2097152) (h9 : st.length ≤ 2097152) (h10 : wa.length ≤ 2097152) : impl_Turn ps b st wa = some (turnM ps b st wa) := by
  have w : IntKind.i64.wrap ((st.length : Int) + (wa.length : Int)) = (st.length : Int) + (wa.length : Int) := wrap_id (by omega) (by omega)
  have e := impl_copyOf_ok (st.drop 1) (by simp; omega)
  rw [impl_Turn_eq, impl_Patience_copied_ok ps b st wa hh hb h9 h10, Option.bind_some, impl_IsPatience_ok ps b st wa hh hb h9 h10, Option.bind_some, w, turnM]
  cases hp : patM ps b st wa
  · rfl
  · simp only [Bool.not_true, Bool.false_eq_true, if_false, if_true]
    by_cases c1 : st.length + wa.length = 0
    · simp (disch := (first | omega | (simp only [List.length_append, List.length_cons, List.length_nil, List.length_take, List.length_drop, List.length_set, List.length_replicate, List.length_singleton]; omega))) only [↓if_dpos, ↓if_dneg, ↓if_epos, ↓if_eneg, ↓if_npos, ↓if_nneg, ↓if_pos, ↓if_neg]
    · by_cases c2 : st.length = 0
      · simp (disch := (first | omega | (simp only [List.length_append, List.length_cons, List.length_nil, List.length_take, List.length_drop, List.length_set, List.length_replicate, List.length_singleton]; omega))) only [↓if_dpos, ↓if_dneg, ↓if_epos, ↓if_eneg, ↓if_npos, ↓if_nneg, ↓if_pos, ↓if_neg]
      · simp (disch := (first | omega | (simp only [List.length_append, List.length_cons, List.length_nil, List.length_take, List.length_drop, List.length_set, List.length_replicate, List.length_singleton]; omega))) only [↓if_dpos, ↓if_dneg, ↓if_epos, ↓if_eneg, ↓if_npos, ↓if_nneg, ↓if_pos, ↓if_neg, Int.toNat_natCast, List.nil_append, Nat.zero_add, List.length_singleton, Option.bind_some, List.drop_zero, List.take_length, if_true, if_false, e]
def moveUpM (ps : List (List Int × Int)) (b st wa : List Int) (fr : Int) : List (List Int × Int) × List Int × List Int × List Int × Bool :=
  if patM ps b st wa && (inR fr 0 ((ps.length : Int) - 1) && ((liftM (ps.getD fr.toNat ([], 0)).1 (ps.getD fr.toNat ([], 0)).2 1).2.2.2 && (builtM b ((liftM (ps.getD fr.toNat ([], 0)).1 (ps.getD fr.toNat ([], 0)).2 1).2.2.1.getD 0 0)).2)) then
    (ps.set fr.toNat ((liftM (ps.getD fr.toNat ([], 0)).1 (ps.getD fr.toNat ([], 0)).2 1).1, (liftM (ps.getD fr.toNat ([], 0)).1 (ps.getD fr.toNat ([], 0)).2 1).2.1), (builtM b ((liftM (ps.getD fr.toNat ([], 0)).1 (ps.getD fr.toNat ([], 0)).2 1).2.2.1.getD 0 0)).1, st, wa, true)
  else (ps, b, st, wa, false)
theorem lift_len {l : List Int} {h n : Int} (hk : (liftM l h n).2.2.2 = true) (hn : 1 ≤ n) : 0 < (liftM l h n).2.2.1.length := by
  unfold liftM at hk ⊢
  cases hr : inR n 1 (openM l h)
  · rw [hr] at hk; cases hk
  · rw [if_pos rfl]
    obtain ⟨_, k1, k2, k3⟩ := openM_pos hr
    simp only [List.length_drop]; omega
theorem spec_MoveUp_ok (ps : List (List Int × Int)) (b st wa : List Int) (fr : Int) (hh : G3 ps) (hb : b.length ≤ 2097152) (h9 : st.length ≤ 2097152) (h10 : wa.length ≤ 2097152) : spec_MoveUp ps b st wa fr = some (moveUpM ps b st wa fr) := by
  have hl := hh.len
  have w : IntKind.i64.wrap ((ps.length : Int) - 1) = (ps.length : Int) - 1 := wrap_id (by omega) (by omega)
  have hq := hh.at' (i := fr.toNat)
  rw [spec_MoveUp_eq, spec_l18Copy_ok ps b st wa hh hb h9 h10, Option.bind_some, spec_IsPatience_ok ps b st wa hh hb h9 h10, Option.bind_some, w, spec_l1In_ok, Option.bind_some, moveUpM]
  cases patM ps b st wa
  · rfl
  · cases hr : inR fr 0 ((ps.length : Int) - 1)
    · rfl
    · have hr2 := hr; simp [inR] at hr2
      rw [if_neg (by simp), if_neg (by simp), if_pos (by omega), if_pos (by omega), spec_Lifted_ok _ _ _ hq, Option.bind_some]
      cases hk : (liftM (ps.getD fr.toNat ([], 0)).1 (ps.getD fr.toNat ([], 0)).2 1).2.2.2
      · rfl
      · have hlen := lift_len hk (by omega)
        rw [if_neg (by simp), if_pos (by omega), spec_Built_ok _ _ hb, Option.bind_some]
        cases (builtM b ((liftM (ps.getD fr.toNat ([], 0)).1 (ps.getD fr.toNat ([], 0)).2 1).2.2.1.getD 0 0)).2
        · rfl
        · rw [if_neg (by simp)]; dsimp only; rw [if_pos (by omega), if_pos (by omega)]; rfl
theorem impl_MoveUp_ok (ps : List (List Int × Int)) (b st wa : List Int) (fr : Int) (hh : G3 ps) (hb : b.length ≤ 2097152) (h9 : st.length ≤ 2097152) (h10 : wa.length ≤ 2097152) : impl_MoveUp ps b st wa fr = some (moveUpM ps b st wa fr) := by
  have hl := hh.len
  have w : IntKind.i64.wrap ((ps.length : Int) - 1) = (ps.length : Int) - 1 := wrap_id (by omega) (by omega)
  have hq := hh.at' (i := fr.toNat)
  rw [impl_MoveUp_eq, impl_Patience_copied_ok ps b st wa hh hb h9 h10, Option.bind_some, impl_IsPatience_ok ps b st wa hh hb h9 h10, Option.bind_some, w, impl_InRange_ok, Option.bind_some, moveUpM]
  cases patM ps b st wa
  · rfl
  · cases hr : inR fr 0 ((ps.length : Int) - 1)
    · rfl
    · have hr2 := hr; simp [inR] at hr2
      rw [if_neg (by simp), if_neg (by simp), if_pos (by omega), if_pos (by omega), impl_Lifted_ok _ _ _ hq, Option.bind_some]
      cases hk : (liftM (ps.getD fr.toNat ([], 0)).1 (ps.getD fr.toNat ([], 0)).2 1).2.2.2
      · rfl
      · have hlen := lift_len hk (by omega)
        rw [if_neg (by simp), if_pos (by omega), impl_Built_ok _ _ hb, Option.bind_some]
        cases (builtM b ((liftM (ps.getD fr.toNat ([], 0)).1 (ps.getD fr.toNat ([], 0)).2 1).2.2.1.getD 0 0)).2
        · rfl
        · rw [if_neg (by simp)]; dsimp only; rw [if_pos (by omega), if_pos (by omega)]; rfl
theorem liftM_length (l : List Int) (h n : Int) : (liftM l h n).1.length ≤ l.length ∧ (liftM l h n).2.2.1.length ≤ l.length := by
  unfold liftM; split
  · simp only [List.length_take, List.length_drop]; omega
  · exact ⟨Nat.le_refl _, Nat.zero_le _⟩
def movePileM (ps : List (List Int × Int)) (b st wa : List Int) (fr to n : Int) : List (List Int × Int) × List Int × List Int × List Int × Bool :=
  if patM ps b st wa && (!(fr == to) && (inR fr 0 ((ps.length : Int) - 1) && (inR to 0 ((ps.length : Int) - 1) && ((liftM (ps.getD fr.toNat ([], 0)).1 (ps.getD fr.toNat ([], 0)).2 n).2.2.2 && (stackM (ps.getD to.toNat ([], 0)).1 (ps.getD to.toNat ([], 0)).2 (liftM (ps.getD fr.toNat ([], 0)).1 (ps.getD fr.toNat ([], 0)).2 n).2.2.1).2.2)))) then
    ((ps.set fr.toNat ((liftM (ps.getD fr.toNat ([], 0)).1 (ps.getD fr.toNat ([], 0)).2 n).1, (liftM (ps.getD fr.toNat ([], 0)).1 (ps.getD fr.toNat ([], 0)).2 n).2.1)).set to.toNat ((stackM (ps.getD to.toNat ([], 0)).1 (ps.getD to.toNat ([], 0)).2 (liftM (ps.getD fr.toNat ([], 0)).1 (ps.getD fr.toNat ([], 0)).2 n).2.2.1).1, (stackM (ps.getD to.toNat ([], 0)).1 (ps.getD to.toNat ([], 0)).2 (liftM (ps.getD fr.toNat ([], 0)).1 (ps.getD fr.toNat ([], 0)).2 n).2.2.1).2.1), b, st, wa, true)
  else (ps, b, st, wa, false)
theorem liftM_len2 (l : List Int) (h n : Int) : (liftM l h n).1.length ≤ l.length ∧ (liftM l h n).2.2.1.length ≤ l.length := by
  unfold liftM; split
  · simp only [List.length_take, List.length_drop]; omega
  · exact ⟨Nat.le_refl _, Nat.zero_le _⟩
theorem spec_MovePile_ok (ps : List (List Int × Int)) (b st wa : List Int) (fr to n : Int) (hh : G3 ps) (hb : b.length ≤ 2097152) (h9 : st.length ≤ 2097152) (h10 : wa.length ≤ 2097152) : spec_MovePile ps b st wa fr to n = some (movePileM ps b st wa fr to n) := by
  have hl := hh.len
  have w : IntKind.i64.wrap ((ps.length : Int) - 1) = (ps.length : Int) - 1 := wrap_id (by omega) (by omega)
  have hq := hh.at' (i := fr.toNat)
  have hq2 := hh.at' (i := to.toNat)
  rw [spec_MovePile_eq, spec_l18Copy_ok ps b st wa hh hb h9 h10, Option.bind_some, spec_IsPatience_ok ps b st wa hh hb h9 h10, Option.bind_some, w, spec_l1In_ok, Option.bind_some, spec_l1In_ok, Option.bind_some, movePileM]
  cases patM ps b st wa
  · rfl
  · cases hr : inR fr 0 ((ps.length : Int) - 1)
    · cases (fr == to) <;> rfl
    · cases hs : inR to 0 ((ps.length : Int) - 1)
      · cases (fr == to) <;> rfl
      · cases (fr == to)
        · have hr2 := hr; simp [inR] at hr2
          have hs2 := hs; simp [inR] at hs2
          have hl2 := (liftM_len2 (ps.getD fr.toNat ([], 0)).1 (ps.getD fr.toNat ([], 0)).2 n).2
          rw [if_neg (by simp), if_neg (by simp), if_neg (by simp), if_neg (by simp), if_pos (by omega), if_pos (by omega), spec_Lifted_ok _ _ _ hq, Option.bind_some, if_pos (by omega), if_pos (by omega), spec_Stacked_ok _ _ _ hq2 (by omega), Option.bind_some]
          cases hk : (liftM (ps.getD fr.toNat ([], 0)).1 (ps.getD fr.toNat ([], 0)).2 n).2.2.2
          · rfl
          · rw [if_neg (by simp)]
            cases (stackM (ps.getD to.toNat ([], 0)).1 (ps.getD to.toNat ([], 0)).2 (liftM (ps.getD fr.toNat ([], 0)).1 (ps.getD fr.toNat ([], 0)).2 n).2.2.1).2.2
            · rfl
            · rw [if_neg (by simp)]; dsimp only; rw [if_pos (by omega), if_pos (by omega), if_pos (by omega), if_pos (by rw [List.length_set]; omega)]; rfl
        · rfl
theorem impl_MovePile_ok (ps : List (List Int × Int)) (b st wa : List Int) (fr to n : Int) (hh : G3 ps) (hb : b.length ≤ 2097152) (h9 : st.length ≤ 2097152) (h10 : wa.length ≤ 2097152) : impl_MovePile ps b st wa fr to n = some (movePileM ps b st wa fr to n) := by
  have hl := hh.len
  have w : IntKind.i64.wrap ((ps.length : Int) - 1) = (ps.length : Int) - 1 := wrap_id (by omega) (by omega)
  have hq := hh.at' (i := fr.toNat)
  have hq2 := hh.at' (i := to.toNat)
  rw [impl_MovePile_eq, impl_Patience_copied_ok ps b st wa hh hb h9 h10, Option.bind_some, impl_IsPatience_ok ps b st wa hh hb h9 h10, Option.bind_some, w, impl_InRange_ok, Option.bind_some, impl_InRange_ok, Option.bind_some, movePileM]
  cases patM ps b st wa
  · rfl
  · cases hr : inR fr 0 ((ps.length : Int) - 1)
    · cases (fr == to) <;> rfl
    · cases hs : inR to 0 ((ps.length : Int) - 1)
      · cases (fr == to) <;> rfl
      · cases (fr == to)
        · have hr2 := hr; simp [inR] at hr2
          have hs2 := hs; simp [inR] at hs2
          have hl2 := (liftM_len2 (ps.getD fr.toNat ([], 0)).1 (ps.getD fr.toNat ([], 0)).2 n).2
          rw [if_neg (by simp), if_neg (by simp), if_neg (by simp), if_neg (by simp), if_pos (by omega), if_pos (by omega), impl_Lifted_ok _ _ _ hq, Option.bind_some, if_pos (by omega), if_pos (by omega), impl_Stacked_ok _ _ _ hq2 (by omega), Option.bind_some]
          cases hk : (liftM (ps.getD fr.toNat ([], 0)).1 (ps.getD fr.toNat ([], 0)).2 n).2.2.2
          · rfl
          · rw [if_neg (by simp)]
            cases (stackM (ps.getD to.toNat ([], 0)).1 (ps.getD to.toNat ([], 0)).2 (liftM (ps.getD fr.toNat ([], 0)).1 (ps.getD fr.toNat ([], 0)).2 n).2.2.1).2.2
            · rfl
            · rw [if_neg (by simp)]; dsimp only; rw [if_pos (by omega), if_pos (by omega), if_pos (by omega), if_pos (by rw [List.length_set]; omega)]; rfl
        · rfl
def moveWasteM (ps : List (List Int × Int)) (b st wa : List Int) (to : Int) : List (List Int × Int) × List Int × List Int × List Int × Bool :=
  if patM ps b st wa = true then (if wa.length = 0 then (ps, b, st, wa, false) else if inR to (-1) ((ps.length : Int) - 1) = true then
    (if to = -1 then (if (builtM b (wa.getD (wa.length - 1) 0)).2 = true then (ps, (builtM b (wa.getD (wa.length - 1) 0)).1, st, wa.take (wa.length - 1), true) else (ps, b, st, wa, false))
     else if (stackM (ps.getD to.toNat ([], 0)).1 (ps.getD to.toNat ([], 0)).2 [wa.getD (wa.length - 1) 0]).2.2 = true then (ps.set to.toNat ((stackM (ps.getD to.toNat ([], 0)).1 (ps.getD to.toNat ([], 0)).2 [wa.getD (wa.length - 1) 0]).1, (stackM (ps.getD to.toNat ([], 0)).1 (ps.getD to.toNat ([], 0)).2 [wa.getD (wa.length - 1) 0]).2.1), b, st, wa.take (wa.length - 1), true)
     else (ps, b, st, wa, false))
    else (ps, b, st, wa, false))
  else (ps, b, st, wa, false)
theorem builtM_no {b : List Int} {c : Int} (h : (builtM b c).2 = false) : builtM b c = (b, false) := by
  unfold builtM at h ⊢
  cases hm : mayBM b c
  · rfl
  · rw [hm] at h; cases h
theorem stack1_no {l : List Int} {h c : Int} (k : (stackM l h [c]).2.2 = false) : stackM l h [c] = (l, h, false) := by
  unfold stackM at k ⊢
  rw [stackR] at k ⊢
  cases hm : mayM l h c
  · rfl
  · rw [hm] at k; cases k
theorem set_getD_self {α : Type} {l : List α} {i : Nat} {d : α} (hi : i < l.length) : l.set i (l.getD i d) = l := by
  rw [List.getD_eq_getElem?_getD, List.getElem?_eq_getElem hi]; exact List.set_getElem_self hi
theorem spec_MoveWaste_ok (ps : List (List Int × Int)) (b st wa : List Int) (to : Int) (hh : G3 ps) (hb : b.length ≤ 2097152) (h9 : st.length ≤ 2097152) (h10 : wa.length ≤ 2097152) : spec_MoveWaste ps b st wa to = some (moveWasteM ps b st wa to) := by
  have hl := hh.len
  have w : IntKind.i64.wrap ((ps.length : Int) - 1) = (ps.length : Int) - 1 := wrap_id (by omega) (by omega)
  have hq := hh.at' (i := to.toNat)
  rw [spec_MoveWaste_eq, spec_l18Copy_ok ps b st wa hh hb h9 h10, Option.bind_some, spec_IsPatience_ok ps b st wa hh hb h9 h10, Option.bind_some, w, spec_l1In_ok, Option.bind_some, moveWasteM]
  cases patM ps b st wa
  · rfl
  · simp only [Bool.not_true, Bool.false_eq_true, if_false, if_true]
    by_cases c1 : wa.length = 0
    · simp (disch := (first | omega | (simp only [List.length_append, List.length_cons, List.length_nil, List.length_take, List.length_drop, List.length_set, List.length_replicate, List.length_singleton]; omega))) only [↓if_dpos, ↓if_dneg, ↓if_epos, ↓if_eneg, ↓if_npos, ↓if_nneg, ↓if_pos, ↓if_neg]
    · cases hr : inR to (-1) ((ps.length : Int) - 1)
      · simp (disch := (first | omega | (simp only [List.length_append, List.length_cons, List.length_nil, List.length_take, List.length_drop, List.length_set, List.length_replicate, List.length_singleton]; omega))) only [↓if_dpos, ↓if_dneg, ↓if_epos, ↓if_eneg, ↓if_npos, ↓if_nneg, ↓if_pos, ↓if_neg]; rfl
      · have hr2 := hr; simp [inR] at hr2
        have ww : IntKind.i64.wrap ((wa.length : Int) - 1) = ((wa.length - 1 : Nat) : Int) := by rw [wrap_id (by omega) (by omega)]; omega
        by_cases c2 : to = -1
        · simp (disch := (first | omega | (simp only [List.length_append, List.length_cons, List.length_nil, List.length_take, List.length_drop, List.length_set, List.length_replicate, List.length_singleton]; omega))) only [↓if_dpos, ↓if_dneg, ↓if_epos, ↓if_eneg, ↓if_npos, ↓if_nneg, ↓if_pos, ↓if_neg, ww, Int.toNat_natCast, List.nil_append, Nat.zero_add, List.length_singleton, Option.bind_some, List.drop_zero, List.take_length, if_true, if_false, spec_Built_ok _ _ hb, Bool.not_true, Bool.false_eq_true]
          cases hbu : (builtM b (wa.getD (wa.length - 1) 0)).2 <;> rfl
        · simp (disch := (first | omega | (simp only [List.length_append, List.length_cons, List.length_nil, List.length_take, List.length_drop, List.length_set, List.length_replicate, List.length_singleton]; omega))) only [↓if_dpos, ↓if_dneg, ↓if_epos, ↓if_eneg, ↓if_npos, ↓if_nneg, ↓if_pos, ↓if_neg, ww, Int.toNat_natCast, List.nil_append, Nat.zero_add, List.length_singleton, Option.bind_some, List.drop_zero, List.take_length, if_true, if_false, spec_Stacked_ok _ _ _ hq, Bool.not_true, Bool.false_eq_true]
          cases hbu : (stackM (ps.getD to.toNat ([], 0)).1 (ps.getD to.toNat ([], 0)).2 [wa.getD (wa.length - 1) 0]).2.2 <;> rfl
theorem impl_MoveWaste_ok (ps : List (List Int × Int)) (b st wa : List Int) (to : Int) (hh : G3 ps) (hb : b.length ≤ 2097152) (h9 : st.length ≤ 2097152) (h10 : wa.length ≤ 2097152) : impl_MoveWaste ps b st wa to = some (moveWasteM ps b st wa to) := by
  have hl := hh.len
  have w : IntKind.i64.wrap ((ps.length : Int) - 1) = (ps.length : Int) - 1 := wrap_id (by omega) (by omega)
  have hq := hh.at' (i := to.toNat)
  rw [impl_MoveWaste_eq, impl_Patience_copied_ok ps b st wa hh hb h9 h10, Option.bind_some, impl_IsPatience_ok ps b st wa hh hb h9 h10, Option.bind_some, w, impl_InRange_ok, Option.bind_some, moveWasteM]
  cases patM ps b st wa
  · rfl
  · simp only [Bool.not_true, Bool.false_eq_true, if_false, if_true]
    by_cases c1 : wa.length = 0
    · simp (disch := (first | omega | (simp only [List.length_append, List.length_cons, List.length_nil, List.length_take, List.length_drop, List.length_set, List.length_replicate, List.length_singleton]; omega))) only [↓if_dpos, ↓if_dneg, ↓if_epos, ↓if_eneg, ↓if_npos, ↓if_nneg, ↓if_pos, ↓if_neg]
    · cases hr : inR to (-1) ((ps.length : Int) - 1)
      · simp (disch := (first | omega | (simp only [List.length_append, List.length_cons, List.length_nil, List.length_take, List.length_drop, List.length_set, List.length_replicate, List.length_singleton]; omega))) only [↓if_dpos, ↓if_dneg, ↓if_epos, ↓if_eneg, ↓if_npos, ↓if_nneg, ↓if_pos, ↓if_neg]; rfl
      · have hr2 := hr; simp [inR] at hr2
        have ww : IntKind.i64.wrap ((wa.length : Int) - 1) = ((wa.length - 1 : Nat) : Int) := by rw [wrap_id (by omega) (by omega)]; omega
        by_cases c2 : to = -1
        · simp (disch := (first | omega | (simp only [List.length_append, List.length_cons, List.length_nil, List.length_take, List.length_drop, List.length_set, List.length_replicate, List.length_singleton]; omega))) only [↓if_dpos, ↓if_dneg, ↓if_epos, ↓if_eneg, ↓if_npos, ↓if_nneg, ↓if_pos, ↓if_neg, ww, Int.toNat_natCast, List.nil_append, Nat.zero_add, List.length_singleton, Option.bind_some, List.drop_zero, List.take_length, if_true, if_false, impl_Built_ok _ _ hb, Bool.not_true, Bool.false_eq_true]
          cases hbu : (builtM b (wa.getD (wa.length - 1) 0)).2
          · rw [builtM_no hbu]; rfl
          · rfl
        · simp (disch := (first | omega | (simp only [List.length_append, List.length_cons, List.length_nil, List.length_take, List.length_drop, List.length_set, List.length_replicate, List.length_singleton]; omega))) only [↓if_dpos, ↓if_dneg, ↓if_epos, ↓if_eneg, ↓if_npos, ↓if_nneg, ↓if_pos, ↓if_neg, ww, Int.toNat_natCast, List.nil_append, Nat.zero_add, List.length_singleton, Option.bind_some, List.drop_zero, List.take_length, if_true, if_false, impl_Stacked_ok _ _ _ hq, Bool.not_true, Bool.false_eq_true]
          cases hbu : (stackM (ps.getD to.toNat ([], 0)).1 (ps.getD to.toNat ([], 0)).2 [wa.getD (wa.length - 1) 0]).2.2
          · rw [stack1_no hbu]
            have := set_getD_self (d := ([], 0)) (by omega : to.toNat < ps.length)
            simp only [Bool.false_eq_true, if_false]
            rw [show ((ps.getD to.toNat ([], 0)).1, (ps.getD to.toNat ([], 0)).2) = ps.getD to.toNat ([], 0) from rfl, this]
          · rfl
theorem handM_append {l : List Int} {c : Int} (h : handM l = true) (hc : isC c = true) (hn : hasM l c = false) : handM (l ++ [c]) = true := by
  simp only [handM, Bool.and_eq_true, decide_eq_true_eq, List.all_eq_true] at *
  refine ⟨fun x hx => ?_, ?_⟩
  · rcases List.mem_append.1 hx with e | e
    · exact h.1 x e
    · rw [List.mem_singleton.1 e]; exact hc
  · rw [List.nodup_append]
    refine ⟨h.2, by simp, fun x hx y hy => ?_⟩
    rw [List.mem_singleton.1 hy]
    intro e
    rw [e] at hx
    simp [hasM, hx] at hn
theorem handM_take {l : List Int} (h : handM l = true) (k : Nat) : handM (l.take k) = true := by
  simp only [handM, Bool.and_eq_true, decide_eq_true_eq, List.all_eq_true] at *
  exact ⟨fun x hx => h.1 x (List.mem_of_mem_take hx), h.2.sublist (List.take_sublist k l)⟩
theorem chainM_iff {l : List Int} {n : Nat} : chainM l n = true ↔ ∀ i, i < l.length → n ≤ i → onM (l.getD (i - 1) 0) (l.getD i 0) = true := by
  unfold chainM
  simp only [List.all_eq_true, List.mem_range, Bool.or_eq_true, Bool.not_eq_true', decide_eq_false_iff_not]
  exact ⟨fun k i hi hn => (k i hi).resolve_left (by omega), fun k i hi => by
    by_cases e : n ≤ i
    · exact .inr (k i hi e)
    · exact .inl e⟩
theorem getD_take {l : List Int} {k i : Nat} (h : i < k) : (l.take k).getD i 0 = l.getD i 0 := by
  rw [List.getD_eq_getElem?_getD, List.getElem?_take, if_pos h, List.getD_eq_getElem?_getD]
theorem getD_left {l r : List Int} {i : Nat} (h : i < l.length) : (l ++ r).getD i 0 = l.getD i 0 := by
  rw [List.getD_eq_getElem?_getD, List.getElem?_append_left h, List.getD_eq_getElem?_getD]
theorem getD_last {l : List Int} {c : Int} : (l ++ [c]).getD l.length 0 = c := by
  rw [List.getD_eq_getElem?_getD, List.getElem?_append_right (Nat.le_refl _), Nat.sub_self]; rfl
theorem pileM_iff {l : List Int} {h : Int} : pileM l h = true ↔ handM l = true ∧ (0 ≤ h ∧ h ≤ (l.length : Int)) ∧ ∀ i, i < l.length → (h + 1).toNat ≤ i → onM (l.getD (i - 1) 0) (l.getD i 0) = true := by
  rw [pileM, Bool.and_eq_true, Bool.and_eq_true, chainM_iff]
  simp [inR]
theorem pile_app {l : List Int} {h c : Int} (hm : mayM l h c = true) : pileM (l ++ [c]) h = true := by
  simp only [mayM, Bool.and_eq_true, Bool.not_eq_true'] at hm
  obtain ⟨h1, h2, h3, h4⟩ := hm
  obtain ⟨p1, p2, p3⟩ := pileM_iff.1 h1
  refine pileM_iff.2 ⟨handM_append p1 h2 h3, ⟨p2.1, by rw [List.length_append, List.length_singleton]; omega⟩, fun i hi hn => ?_⟩
  rw [List.length_append, List.length_singleton] at hi
  by_cases e : i < l.length
  · rw [getD_left e, getD_left (by omega)]; exact p3 i e hn
  · have : i = l.length := by omega
    subst this
    by_cases e0 : l.length = 0
    · omega
    · rw [if_neg e0, Bool.and_eq_true] at h4
      rw [getD_last, getD_left (by omega)]
      have := h4.2
      rw [topM, if_neg e0] at this
      exact this
theorem openM_of {l : List Int} {h : Int} (hp : pileM l h = true) : openM l h = (l.length : Int) - h := by rw [openM, if_pos hp]
theorem stack_facts (l0 : List Int) (h : Int) : ∀ cs l, pileM l h = true → (stackR l0 h cs l).2.2 = true → (stackR l0 h cs l).1 = l ++ cs ∧ (stackR l0 h cs l).2.1 = h ∧ pileM (l ++ cs) h = true := by
  intro cs
  induction cs with
  | nil => intro l hp _; rw [List.append_nil]; exact ⟨rfl, rfl, hp⟩
  | cons c cs ih =>
    intro l hp ho
    rw [stackR] at ho ⊢
    cases hm : mayM l h c with
    | false => rw [hm] at ho; cases ho
    | true =>
      rw [hm, if_pos rfl] at ho
      rw [if_pos rfl]
      have := ih (l ++ [c]) (pile_app hm) ho
      rwa [List.append_assoc] at this
theorem stack_pile {l0 l : List Int} {h c : Int} {cs : List Int} (ho : (stackR l0 h (c :: cs) l).2.2 = true) : pileM l h = true := by
  rw [stackR] at ho
  cases hm : mayM l h c with
  | false => rw [hm] at ho; cases ho
  | true =>
    simp only [mayM, Bool.and_eq_true] at hm
    exact hm.1
/-- What is known of a pile that cards were put on. -/
theorem stackM_facts {l : List Int} {h : Int} {cs : List Int} (hc : 0 < cs.length) (ho : (stackM l h cs).2.2 = true) : pileM (stackM l h cs).1 (stackM l h cs).2.1 = true ∧ topM (stackM l h cs).1 = cs.getD (cs.length - 1) 0 ∧ openM (stackM l h cs).1 (stackM l h cs).2.1 = openM l h + (cs.length : Int) := by
  cases cs with
  | nil => cases hc
  | cons c cs =>
    have hp := stack_pile ho
    obtain ⟨e1, e2, e3⟩ := stack_facts l h (c :: cs) l hp ho
    unfold stackM
    rw [e1, e2]
    refine ⟨e3, ?_, ?_⟩
    · rw [topM, if_neg (by simp), List.length_append, List.getD_eq_getElem?_getD, List.getElem?_append_right (by simp), List.getD_eq_getElem?_getD]
      congr 2
      simp
    · rw [openM_of e3, openM_of hp, List.length_append]; omega
theorem stackM_one (l : List Int) (h c : Int) : (stackM l h [c]).2.2 = mayM l h c := by
  rw [stackM, stackR]
  cases mayM l h c <;> rfl
/-- What is known of a pile that cards were lifted from. -/
theorem liftM_facts {l : List Int} {h n : Int} (ho : (liftM l h n).2.2.2 = true) : pileM (liftM l h n).1 (liftM l h n).2.1 = true ∧ ((liftM l h n).2.2.1.length : Int) = n ∧ ((liftM l h n).1.length : Int) + n = (l.length : Int) ∧ (0 < (liftM l h n).1.length → 1 ≤ openM (liftM l h n).1 (liftM l h n).2.1) ∧ pileM l h = true ∧ 1 ≤ n ∧ n ≤ openM l h := by
  unfold liftM at ho ⊢
  cases hn : inR n 1 (openM l h)
  · rw [hn] at ho; cases ho
  · obtain ⟨k0, k1, k2, k3⟩ := openM_pos hn
    rw [if_pos rfl]
    dsimp only
    obtain ⟨p1, p2, p3⟩ := pileM_iff.1 k0
    have hk : (l.take (l.length - n.toNat)).length = l.length - n.toNat := by rw [List.length_take]; omega
    have hid : 0 ≤ hidM h (l.length - n.toNat) ∧ hidM h (l.length - n.toNat) ≤ ((l.length - n.toNat : Nat) : Int) ∧ (0 < l.length - n.toNat → hidM h (l.length - n.toNat) < ((l.length - n.toNat : Nat) : Int)) ∧ (hidM h (l.length - n.toNat) = h ∨ ((l.length - n.toNat : Nat) : Int) ≤ hidM h (l.length - n.toNat) + 1) := by
      unfold hidM
      split <;> omega
    have hp : pileM (l.take (l.length - n.toNat)) (hidM h (l.length - n.toNat)) = true := by
      refine pileM_iff.2 ⟨handM_take p1 _, ⟨hid.1, by rw [hk]; exact hid.2.1⟩, fun i hi hn => ?_⟩
      rw [hk] at hi
      rw [getD_take hi, getD_take (by omega)]
      rcases hid.2.2.2 with e | e
      · rw [e] at hn; exact p3 i (by omega) hn
      · omega
    refine ⟨hp, by rw [List.length_drop]; omega, by rw [hk]; omega, fun h0 => ?_, k0, k1, by rw [openM_of k0]; exact k2⟩
    rw [hk] at h0
    rw [openM_of hp, hk]
    have := hid.2.2.1 h0
    omega
theorem liftM_not {l : List Int} {h n : Int} (ho : (liftM l h n).2.2.2 = false) : (liftM l h n).1.length = l.length ∧ ¬ (1 ≤ n ∧ n ≤ openM l h) := by
  unfold liftM at ho ⊢
  cases hn : inR n 1 (openM l h)
  · refine ⟨rfl, fun k => ?_⟩
    simp [inR] at hn
    omega
  · rw [hn] at ho; cases ho
theorem perm_of_count {a b : List Int} (h : ∀ c, a.count c = b.count c) : a.Perm b := List.perm_iff_count.2 h
theorem cardsP_cons (p : List Int × Int) (ps : List (List Int × Int)) : cardsP (p :: ps) = p.1 ++ cardsP ps := by simp [cardsP]
theorem cardsP_set (c : Int) : ∀ (ps : List (List Int × Int)) (i : Nat) (p : List Int × Int), i < ps.length → (cardsP (ps.set i p)).count c + (ps.getD i ([], 0)).1.count c = (cardsP ps).count c + p.1.count c
  | [], i, p, h => by simp at h
  | q :: ps, 0, p, h => by
    rw [List.set_cons_zero, cardsP_cons, cardsP_cons, List.count_append, List.count_append, List.getD_cons_zero]; omega
  | q :: ps, i + 1, p, h => by
    have := cardsP_set c ps i p (by simpa using h)
    rw [List.set_cons_succ, cardsP_cons, cardsP_cons, List.count_append, List.count_append, List.getD_cons_succ]; omega
theorem getD_set_other {ps : List (List Int × Int)} {i j : Nat} {p : List Int × Int} (h : i ≠ j) : (ps.set i p).getD j ([], 0) = ps.getD j ([], 0) := by
  rw [List.getD_eq_getElem?_getD, List.getElem?_set_ne h, List.getD_eq_getElem?_getD]
theorem all_set {q : List Int × Int → Bool} {ps : List (List Int × Int)} {i : Nat} {p : List Int × Int} (h : ps.all q = true) (hp : q p = true) : (ps.set i p).all q = true := by
  rw [List.all_eq_true] at *
  intro x hx
  rcases List.mem_or_eq_of_mem_set hx with e | e
  · exact h x e
  · rw [e]; exact hp
theorem patM_iff (ps : List (List Int × Int)) (b st wa : List Int) : patM ps b st wa = true ↔ (1 ≤ ps.length ∧ ps.length ≤ 7) ∧ baseM b = true ∧ ps.all okP = true ∧ wholeL (patAll ps b st wa) = true := by
  rw [patM, Bool.and_eq_true, Bool.and_eq_true, Bool.and_eq_true]
  have : inR (ps.length : Int) 1 7 = true ↔ 1 ≤ ps.length ∧ ps.length ≤ 7 := by simp [inR]; omega
  rw [this]
theorem patAll_count (ps : List (List Int × Int)) (b st wa : List Int) (c : Int) : (patAll ps b st wa).count c = (baseCM b).count c + st.count c + wa.count c + (cardsP ps).count c := by
  simp only [patAll, List.count_append]
/-- Another game of the same cards. -/
theorem pat_next (ps : List (List Int × Int)) (b st wa : List Int) {ps' : List (List Int × Int)} {b' st' wa' : List Int} (h : patM ps b st wa = true) (hl : ps'.length = ps.length) (hb : baseM b' = true) (hp : ps'.all okP = true)
    (hc : ∀ c, (baseCM b').count c + st'.count c + wa'.count c + (cardsP ps').count c = (baseCM b).count c + st.count c + wa.count c + (cardsP ps).count c) : patM ps' b' st' wa' = true := by
  obtain ⟨h1, _, _, h4⟩ := (patM_iff ps b st wa).1 h
  refine (patM_iff ..).2 ⟨by rw [hl]; exact h1, hb, hp, ?_⟩
  rw [← h4]
  exact wholeL_perm (perm_of_count fun c => by rw [patAll_count, patAll_count]; exact hc c)
theorem turnM_pat (ps : List (List Int × Int)) (b st wa : List Int) (h : patM ps b st wa = true) : patM (turnM ps b st wa).1 (turnM ps b st wa).2.1 (turnM ps b st wa).2.2.1 (turnM ps b st wa).2.2.2.1 = true := by
  obtain ⟨h1, h2, h3, h4⟩ := (patM_iff ps b st wa).1 h
  rw [turnM, if_pos h]
  split
  · exact h
  · split
    · rename_i e
      have : st = [] := List.length_eq_zero_iff.1 e
      refine pat_next ps b st wa h rfl h2 h3 fun c => ?_
      subst this
      simp
    · rename_i e
      refine pat_next ps b st wa h rfl h2 h3 fun c => ?_
      cases st with
      | nil => simp at e
      | cons x st => simp [List.count_cons, List.count_append]; omega
theorem turnM_no (ps : List (List Int × Int)) (b st wa : List Int) (h : patM ps b st wa = false) : turnM ps b st wa = (ps, b, st, wa, false) := by rw [turnM, if_neg (by rw [h]; decide)]
theorem okP_of {l : List Int} {h : Int} (hp : pileM l h = true) (ho : 0 < l.length → 1 ≤ openM l h) : okP (l, h) = true := by
  show (pileM l h && !(decide (0 < l.length) && decide (h = (l.length : Int)))) = true
  rw [hp, Bool.true_and]
  by_cases e : 0 < l.length
  · have := ho e
    rw [openM_of hp] at this
    rw [decide_eq_true e, decide_eq_false (by omega)]; rfl
  · rw [decide_eq_false e]; rfl
theorem okP_pile {p : List Int × Int} (h : okP p = true) : pileM p.1 p.2 = true ∧ (0 < p.1.length → p.2 ≠ (p.1.length : Int)) := by
  rw [okP, Bool.and_eq_true] at h
  refine ⟨h.1, fun h0 e => ?_⟩
  rw [decide_eq_true h0, decide_eq_true e] at h
  exact absurd h.2 (by decide)
theorem okP_at {ps : List (List Int × Int)} (h : ps.all okP = true) {i : Nat} (hi : i < ps.length) : okP (ps.getD i ([], 0)) = true := List.all_eq_true.1 h _ (getD_mem hi)
theorem lift_ok {l : List Int} {h n : Int} (ho : (liftM l h n).2.2.2 = true) : okP ((liftM l h n).1, (liftM l h n).2.1) = true ∧ ∀ c, (liftM l h n).1.count c + (liftM l h n).2.2.1.count c = l.count c := by
  obtain ⟨f1, f2, f3, f4, f5, f6, f7⟩ := liftM_facts ho
  refine ⟨okP_of f1 f4, fun c => ?_⟩
  unfold liftM at ho ⊢
  split at ho
  · rename_i hn
    rw [if_pos hn]
    show (l.take _).count c + (l.drop _).count c = _
    rw [← List.count_append, List.take_append_drop]
  · cases ho
theorem stack_ok {l : List Int} {h : Int} {cs : List Int} (hc : 0 < cs.length) (ho : (stackM l h cs).2.2 = true) : okP ((stackM l h cs).1, (stackM l h cs).2.1) = true ∧ ∀ c, (stackM l h cs).1.count c = l.count c + cs.count c := by
  cases cs with
  | nil => cases hc
  | cons c cs =>
    have hp := stack_pile ho
    obtain ⟨e1, e2, e3⟩ := stack_facts l h (c :: cs) l hp ho
    have hh := pileM_hid hp
    unfold stackM
    rw [e1, e2]
    refine ⟨okP_of e3 fun _ => ?_, fun x => List.count_append⟩
    rw [openM_of e3, List.length_append, List.length_cons]; omega
theorem movePileM_pat (ps : List (List Int × Int)) (b st wa : List Int) (fr to n : Int) (h : patM ps b st wa = true) : patM (movePileM ps b st wa fr to n).1 (movePileM ps b st wa fr to n).2.1 (movePileM ps b st wa fr to n).2.2.1 (movePileM ps b st wa fr to n).2.2.2.1 = true := by
  obtain ⟨h1, h2, h3, h4⟩ := (patM_iff ps b st wa).1 h
  rw [movePileM]
  split
  · rename_i hc
    simp only [Bool.and_eq_true, Bool.not_eq_true', beq_eq_false_iff_ne] at hc
    obtain ⟨_, hne, k1, k2, k3, k4⟩ := hc
    simp [inR] at k1 k2
    have hi : fr.toNat < ps.length := by omega
    have hj : to.toNat < ps.length := by omega
    have hij : fr.toNat ≠ to.toNat := by omega
    obtain ⟨l1, l2⟩ := lift_ok k3
    obtain ⟨f1, f2, f3, f4, f5, f6, f7⟩ := liftM_facts k3
    obtain ⟨s1, s2⟩ := stack_ok (by omega) k4
    refine pat_next ps b st wa h (by simp) h2 (all_set (all_set h3 l1) s1) fun c => ?_
    have e1 := cardsP_set c ps fr.toNat ((liftM (ps.getD fr.toNat ([], 0)).1 (ps.getD fr.toNat ([], 0)).2 n).1, (liftM (ps.getD fr.toNat ([], 0)).1 (ps.getD fr.toNat ([], 0)).2 n).2.1) hi
    have e2 := cardsP_set c (ps.set fr.toNat ((liftM (ps.getD fr.toNat ([], 0)).1 (ps.getD fr.toNat ([], 0)).2 n).1, (liftM (ps.getD fr.toNat ([], 0)).1 (ps.getD fr.toNat ([], 0)).2 n).2.1)) to.toNat ((stackM (ps.getD to.toNat ([], 0)).1 (ps.getD to.toNat ([], 0)).2 (liftM (ps.getD fr.toNat ([], 0)).1 (ps.getD fr.toNat ([], 0)).2 n).2.2.1).1, (stackM (ps.getD to.toNat ([], 0)).1 (ps.getD to.toNat ([], 0)).2 (liftM (ps.getD fr.toNat ([], 0)).1 (ps.getD fr.toNat ([], 0)).2 n).2.2.1).2.1) (by rw [List.length_set]; exact hj)
    rw [getD_set_other hij] at e2
    have e3 := l2 c
    have e4 := s2 c
    dsimp only at e1 e2 ⊢
    omega
  · exact h
theorem movePileM_no (ps : List (List Int × Int)) (b st wa : List Int) (fr to n : Int) (h : patM ps b st wa = false) : movePileM ps b st wa fr to n = (ps, b, st, wa, false) := by rw [movePileM, h, Bool.false_and, if_neg (by decide)]
theorem step_suit : ∀ a : Nat, a < 52 → ∀ c : Nat, c < 52 → suitM (a : Int) = suitM (c : Int) → stepM (a : Int) = stepM (c : Int) → a = c := by decide +kernel
theorem suit_small : ∀ a : Nat, a < 52 → 0 ≤ suitM (a : Int) ∧ suitM (a : Int) < 4 ∧ 1 ≤ stepM (a : Int) ∧ stepM (a : Int) ≤ 13 := by decide +kernel
theorem getD_set {l : List Int} {i j : Nat} {x : Int} (hi : i < l.length) : (l.set i x).getD j 0 = if i = j then x else l.getD j 0 := by
  rw [List.getD_eq_getElem?_getD, List.getElem?_set]
  by_cases e : i = j
  · rw [if_pos e, if_pos e, if_pos hi]; rfl
  · rw [if_neg e, if_neg e, List.getD_eq_getElem?_getD]
theorem built_ok {b : List Int} {c : Int} (ho : (builtM b c).2 = true) : baseM (builtM b c).1 = true ∧ (∀ x, (baseCM (builtM b c).1).count x = (baseCM b).count x + [c].count x) ∧ ∃ i, i < 4 ∧ (builtM b c).1 = b.set i (b.getD i 0 + 1) := by
  unfold builtM at ho ⊢
  cases hm : mayBM b c
  · rw [hm] at ho; cases ho
  · rw [if_pos rfl]
    dsimp only
    obtain ⟨hb, hc⟩ := mayBM_card hm
    simp only [mayBM, Bool.and_eq_true, beq_iff_eq] at hm
    have hst := hm.2.2
    obtain ⟨k1, k2⟩ := isC_iff.1 hc
    obtain ⟨n, rfl⟩ : ∃ n : Nat, c = (n : Int) := ⟨c.toNat, by omega⟩
    obtain ⟨s1, s2, s3, s4⟩ := suit_small n (by omega)
    have hl := baseM_len hb
    have hi : (suitM (n : Int)).toNat < b.length := by omega
    have hb' : baseM (b.set (suitM (n : Int)).toNat (b.getD (suitM (n : Int)).toNat 0 + 1)) = true := by
      simp only [baseM, Bool.and_eq_true, decide_eq_true_eq, List.all_eq_true, List.length_set] at hb ⊢
      refine ⟨fun x hx => ?_, hl⟩
      rcases List.mem_or_eq_of_mem_set hx with e | e
      · exact hb.1 x e
      · rw [e, ← hst]; simp [inR]; omega
    refine ⟨hb', fun x => ?_, _, by omega, rfl⟩
    have key : ∀ a ∈ cards52 52, baseP (b.set (suitM (n : Int)).toNat (b.getD (suitM (n : Int)).toNat 0 + 1)) a = (baseP b a || decide (a = (n : Int))) := fun a ha => by
      obtain ⟨m, hm', rfl⟩ := List.mem_map.1 ha
      have hm' := List.mem_range.1 hm'
      obtain ⟨t1, t2, t3, t4⟩ := suit_small m hm'
      unfold baseP
      rw [getD_set hi]
      by_cases e : (suitM (n : Int)).toNat = (suitM (m : Int)).toNat
      · rw [if_pos e]
        by_cases e2 : m = n
        · subst e2
          rw [decide_eq_true (by omega), decide_eq_true rfl, Bool.or_true]
        · have hne : stepM (m : Int) ≠ stepM (n : Int) := fun h => e2 (step_suit m hm' n (by omega) (by omega) h)
          rw [decide_eq_false (by omega : ¬ (m : Int) = (n : Int)), Bool.or_false, ← e, Bool.eq_iff_iff, decide_eq_true_eq, decide_eq_true_eq]
          omega
      · rw [if_neg e, decide_eq_false (fun h : (m : Int) = (n : Int) => e (by rw [h])), Bool.or_false]
    have hno : baseP b (n : Int) = false := by
      unfold baseP
      rw [decide_eq_false]; omega
    have h52 : (cards52 52).count (n : Int) = 1 := by
      have hall : ∀ m : Nat, m < 52 → (cards52 52).count (m : Int) = 1 := by decide +kernel
      exact hall n (by omega)
    rw [baseCM, if_pos hb', baseCM, if_pos hb, List.filter_congr key]
    by_cases ex : x = (n : Int)
    · subst ex
      rw [List.count_filter (by simp), h52, List.count_eq_zero.2 (by rw [List.mem_filter]; simp [hno])]
      simp
    · have e1 : [(n : Int)].count x = 0 := by rw [List.count_eq_zero]; simp [ex]
      rw [e1, Nat.add_zero]
      cases hp : baseP b x with
      | true => rw [List.count_filter (by simp [hp]), List.count_filter hp]
      | false => rw [List.count_eq_zero.2 (by rw [List.mem_filter]; simp [hp, ex]), List.count_eq_zero.2 (by rw [List.mem_filter]; simp [hp])]
theorem moveUpM_pat (ps : List (List Int × Int)) (b st wa : List Int) (fr : Int) (h : patM ps b st wa = true) : patM (moveUpM ps b st wa fr).1 (moveUpM ps b st wa fr).2.1 (moveUpM ps b st wa fr).2.2.1 (moveUpM ps b st wa fr).2.2.2.1 = true ∧ ((moveUpM ps b st wa fr).2.2.2.2 = true → ∃ i, i < 4 ∧ (moveUpM ps b st wa fr).2.1 = b.set i (b.getD i 0 + 1)) := by
  obtain ⟨h1, h2, h3, h4⟩ := (patM_iff ps b st wa).1 h
  rw [moveUpM]
  split
  · rename_i hc
    simp only [Bool.and_eq_true] at hc
    obtain ⟨_, k1, k3, k4⟩ := hc
    simp [inR] at k1
    have hi : fr.toNat < ps.length := by omega
    obtain ⟨l1, l2⟩ := lift_ok k3
    obtain ⟨f1, f2, f3, f4, f5, f6, f7⟩ := liftM_facts k3
    obtain ⟨g1, g2, g3⟩ := built_ok k4
    refine ⟨pat_next ps b st wa h (by simp) g1 (all_set h3 l1) fun c => ?_, fun _ => g3⟩
    have e1 := cardsP_set c ps fr.toNat ((liftM (ps.getD fr.toNat ([], 0)).1 (ps.getD fr.toNat ([], 0)).2 1).1, (liftM (ps.getD fr.toNat ([], 0)).1 (ps.getD fr.toNat ([], 0)).2 1).2.1) hi
    have e3 := l2 c
    have e4 := g2 c
    have e5 : (liftM (ps.getD fr.toNat ([], 0)).1 (ps.getD fr.toNat ([], 0)).2 1).2.2.1 = [(liftM (ps.getD fr.toNat ([], 0)).1 (ps.getD fr.toNat ([], 0)).2 1).2.2.1.getD 0 0] := by
      generalize (liftM (ps.getD fr.toNat ([], 0)).1 (ps.getD fr.toNat ([], 0)).2 1).2.2.1 = l at f2
      match l, f2 with
      | [x], _ => rfl
    rw [← e5] at e4
    dsimp only at e1 ⊢
    omega
  · exact ⟨h, fun e => by cases e⟩
theorem moveUpM_no (ps : List (List Int × Int)) (b st wa : List Int) (fr : Int) (h : patM ps b st wa = false) : moveUpM ps b st wa fr = (ps, b, st, wa, false) := by rw [moveUpM, h, Bool.false_and, if_neg (by decide)]
theorem count_last {l : List Int} (h : l.length ≠ 0) (c : Int) : l.count c = (l.take (l.length - 1)).count c + [l.getD (l.length - 1) 0].count c := by
  have e := take_succ_getD (l := l) (i := l.length - 1) (d := 0) (by omega)
  rw [← List.count_append, ← e, show l.length - 1 + 1 = l.length by omega, List.take_length]
theorem moveWasteM_pat (ps : List (List Int × Int)) (b st wa : List Int) (to : Int) (h : patM ps b st wa = true) : patM (moveWasteM ps b st wa to).1 (moveWasteM ps b st wa to).2.1 (moveWasteM ps b st wa to).2.2.1 (moveWasteM ps b st wa to).2.2.2.1 = true := by
  obtain ⟨h1, h2, h3, h4⟩ := (patM_iff ps b st wa).1 h
  rw [moveWasteM, if_pos h]
  by_cases c0 : wa.length = 0
  · rw [if_pos c0]; exact h
  rw [if_neg c0]
  have hl := fun c => count_last c0 c
  cases c1 : inR to (-1) ((ps.length : Int) - 1)
  · exact h
  rw [if_pos rfl]
  simp [inR] at c1
  by_cases c2 : to = -1
  · rw [if_pos c2]
    cases c3 : (builtM b (wa.getD (wa.length - 1) 0)).2
    · exact h
    · rw [if_pos rfl]
      obtain ⟨g1, g2, _⟩ := built_ok c3
      refine pat_next ps b st wa h rfl g1 h3 fun c => ?_
      have := g2 c
      have := hl c
      dsimp only
      omega
  · rw [if_neg c2]
    cases c3 : (stackM (ps.getD to.toNat ([], 0)).1 (ps.getD to.toNat ([], 0)).2 [wa.getD (wa.length - 1) 0]).2.2
    · exact h
    · rw [if_pos rfl]
      obtain ⟨s1, s2⟩ := stack_ok (by simp) c3
      refine pat_next ps b st wa h (by simp) h2 (all_set h3 s1) fun c => ?_
      have e1 := cardsP_set c ps to.toNat ((stackM (ps.getD to.toNat ([], 0)).1 (ps.getD to.toNat ([], 0)).2 [wa.getD (wa.length - 1) 0]).1, (stackM (ps.getD to.toNat ([], 0)).1 (ps.getD to.toNat ([], 0)).2 [wa.getD (wa.length - 1) 0]).2.1) (by omega)
      have := s2 c
      have := hl c
      dsimp only at e1 ⊢
      omega
theorem moveWasteM_no (ps : List (List Int × Int)) (b st wa : List Int) (to : Int) (h : patM ps b st wa = false) : moveWasteM ps b st wa to = (ps, b, st, wa, false) := by rw [moveWasteM, if_neg (by rw [h]; decide)]
theorem full_is : ∀ i : Nat, i ≤ 52 → spec_Missing_L3 [] (i : Int) (cards52 i) = some (cards52 52) := down (by
    rw [spec_Missing_L3_eq, if_dneg (by omega)]) fun i hi ih => by
  have hh : spec_HasCard [] (i : Int) = some false := by rw [spec_HasCard_ok _ _ (Nat.zero_le _)]; rfl
  have hl := cards52_length i
  rw [spec_Missing_L3_eq, if_dpos (by omega), hh, Option.bind_some, if_pos (by decide), if_pos (by rw [hl, List.length_singleton]; omega), wrap_succ hi (by omega), ← cards52_succ]
  exact ih
theorem spec_FullDeck_ok : spec_FullDeck = some (cards52 52) := by
  rw [spec_FullDeck_eq, spec_Missing_eq]
  have h := full_is 0 (by omega)
  have h : spec_Missing_L3 [] 0 [] = some (cards52 52) := h
  rw [h]; rfl
theorem full_hand : handM (cards52 52) = true := by decide +kernel
/-- So many cards lie in the first piles. -/
def tri : Nat → Nat
  | 0 => 0
  | i + 1 => tri i + (i + 1)
theorem tri_le : ∀ i : Nat, i ≤ 7 → tri i ≤ 28 := by decide
def dealP (deck : List Int) (k : Nat) : List (List Int × Int) := (List.range k).map fun i => ((deck.take (tri (i + 1))).drop (tri i), (i : Int))
theorem dealP_succ (deck : List Int) (k : Nat) : dealP deck (k + 1) = dealP deck k ++ [((deck.take (tri (k + 1))).drop (tri k), (k : Int))] := by simp [dealP, List.range_succ]
theorem dealP_length (deck : List Int) (k : Nat) : (dealP deck k).length = k := by simp [dealP]
def newPM (deck : List Int) (n : Int) : List (List Int × Int) × List Int × List Int × List Int × Bool :=
  if handM deck && (decide (deck.length = 52) && inR n 1 7) then (dealP deck n.toNat, List.replicate 4 0, deck.drop (tri n.toNat), [], true) else ([], [], [], [], false)
theorem spec_NewPatience_ok (deck : List Int) (n : Int) (hl : deck.length ≤ 2097152) : spec_NewPatience deck n = some (newPM deck n) := by
  rw [spec_NewPatience_eq, spec_IsHand_ok _ (by omega), Option.bind_some, newPM]
  cases handM deck
  · rfl
  by_cases h52 : deck.length = 52
  · rw [if_neg (by decide), if_nneg (by omega), spec_l1In_ok, Option.bind_some, decide_eq_true h52]
    cases hr : inR n 1 7
    · rfl
    · simp [inR] at hr
      rw [if_neg (by decide), if_pos (by decide), if_pos (by decide)]
      obtain ⟨m, rfl⟩ : ∃ m : Nat, n = (m : Int) := ⟨n.toNat, by omega⟩
      rw [Int.toNat_natCast]
      have hm := tri_le m (by omega)
      have key : ∀ i : Nat, i ≤ m → 0 < i → spec_NewPatience_L6v1 deck (m : Int) (tri i : Int) ((i + 1 : Nat) : Int) (dealP deck i) (List.replicate 4 0) = some (dealP deck m, List.replicate 4 0, deck.drop (tri m), [], true) := by
        intro i hi
        refine down (P := fun i => 0 < i → spec_NewPatience_L6v1 deck (m : Int) (tri i : Int) ((i + 1 : Nat) : Int) (dealP deck i) (List.replicate 4 0) = some (dealP deck m, List.replicate 4 0, deck.drop (tri m), [], true)) (fun _ => ?_) (fun i hi ih h0 => ?_) i hi
        · rw [spec_NewPatience_L6v1_eq]
          simp (disch := (first | omega | (simp only [List.length_append, List.length_cons, List.length_nil, List.length_take, List.length_drop, List.length_set, List.length_replicate, List.length_singleton]; omega))) only [↓if_dpos, ↓if_dneg, ↓if_epos, ↓if_eneg, ↓if_npos, ↓if_nneg, ↓if_pos, ↓if_neg, Int.toNat_natCast, List.nil_append, Nat.zero_add, List.length_singleton, Option.bind_some, List.drop_zero, List.take_length, if_true, if_false]
        · have t1 := tri_le i (by omega)
          have t2 := tri_le (i + 1) (by omega)
          have e : tri (i + 1) = tri i + (i + 1) := rfl
          have w1 : IntKind.i64.wrap ((tri i : Int) + ((i + 1 : Nat) : Int)) = ((tri (i + 1) : Nat) : Int) := by rw [wrap_id (by omega) (by omega)]; omega
          have w2 : IntKind.i64.wrap (((i + 1 : Nat) : Int) - 1) = (i : Int) := by rw [wrap_id (by omega) (by omega)]; omega
          have w3 : IntKind.i64.wrap (((i + 1 : Nat) : Int) + 1) = ((i + 1 + 1 : Nat) : Int) := by rw [wrap_id (by omega) (by omega)]; omega
          have hdl := dealP_length deck i
          rw [spec_NewPatience_L6v1_eq]
          simp (disch := (first | omega | (simp only [List.length_append, List.length_cons, List.length_nil, List.length_take, List.length_drop, List.length_set, List.length_replicate, List.length_singleton]; omega))) only [↓if_dpos, ↓if_dneg, ↓if_epos, ↓if_eneg, ↓if_npos, ↓if_nneg, ↓if_pos, ↓if_neg, w1, w2, w3, Int.toNat_natCast, List.nil_append, Nat.zero_add, List.length_singleton, Option.bind_some, List.drop_zero, List.take_length, if_true, if_false]
          rw [← dealP_succ]
          exact ih (by omega)
      have t1 : tri 1 = 1 := rfl
      have w1 : IntKind.i64.wrap ((0 : Int) + 1) = ((1 : Nat) : Int) := by rw [wrap_id (by omega) (by omega)]; rfl
      have w2 : IntKind.i64.wrap ((1 : Int) - 1) = 0 := by rw [wrap_id (by omega) (by omega)]; rfl
      have w3 : IntKind.i64.wrap ((1 : Int) + 1) = ((1 + 1 : Nat) : Int) := by rw [wrap_id (by omega) (by omega)]; rfl
      rw [spec_NewPatience_L6_eq]
      simp (disch := (first | omega | (simp only [List.length_append, List.length_cons, List.length_nil, List.length_take, List.length_drop, List.length_set, List.length_replicate, List.length_singleton]; omega))) only [↓if_dpos, ↓if_dneg, ↓if_epos, ↓if_eneg, ↓if_npos, ↓if_nneg, ↓if_pos, ↓if_neg, w1, w2, w3, Int.toNat_natCast, List.nil_append, Nat.zero_add, List.length_singleton, Option.bind_some, List.drop_zero, List.take_length, if_true, if_false, Int.toNat_zero]
      exact key 1 (by omega) (by omega)
  · rw [if_neg (by decide), if_npos (by omega), decide_eq_false h52]
    rfl
theorem impl_NewPatience_ok (deck : List Int) (n : Int) (hl : deck.length ≤ 2097152) : impl_NewPatience deck n = some (newPM deck n) := by
  rw [impl_NewPatience_eq, impl_IsHand_ok _ (by omega), Option.bind_some, newPM]
  cases handM deck
  · rfl
  by_cases h52 : deck.length = 52
  · rw [if_neg (by decide), if_nneg (by omega), impl_InRange_ok, Option.bind_some, decide_eq_true h52]
    cases hr : inR n 1 7
    · rfl
    · simp [inR] at hr
      rw [if_neg (by decide), if_pos (by decide), if_pos (by decide)]
      obtain ⟨m, rfl⟩ : ∃ m : Nat, n = (m : Int) := ⟨n.toNat, by omega⟩
      rw [Int.toNat_natCast]
      have hm := tri_le m (by omega)
      have key : ∀ i : Nat, i ≤ m → 0 < i → impl_NewPatience_L5v1 deck (tri i : Int) (m : Int) (i : Int) (dealP deck i) (List.replicate 4 0) = some (dealP deck m, List.replicate 4 0, deck.drop (tri m), [], true) := by
        intro i hi
        refine down (P := fun i => 0 < i → impl_NewPatience_L5v1 deck (tri i : Int) (m : Int) (i : Int) (dealP deck i) (List.replicate 4 0) = some (dealP deck m, List.replicate 4 0, deck.drop (tri m), [], true)) (fun _ => ?_) (fun i hi ih h0 => ?_) i hi
        · have ec := impl_copyOf_ok (deck.drop (tri m)) (by rw [List.length_drop]; omega)
          rw [impl_NewPatience_L5v1_eq]
          simp (disch := (first | omega | (simp only [List.length_append, List.length_cons, List.length_nil, List.length_take, List.length_drop, List.length_set, List.length_replicate, List.length_singleton]; omega))) only [↓if_dpos, ↓if_dneg, ↓if_epos, ↓if_eneg, ↓if_npos, ↓if_nneg, ↓if_pos, ↓if_neg, Int.toNat_natCast, List.nil_append, Nat.zero_add, List.length_singleton, Option.bind_some, List.drop_zero, List.take_length, if_true, if_false, ec]
        · have t1 := tri_le i (by omega)
          have t2 := tri_le (i + 1) (by omega)
          have e : tri (i + 1) = tri i + (i + 1) := rfl
          have w0 : IntKind.i64.wrap ((tri i : Int) + (i : Int)) = ((tri i + i : Nat) : Int) := by rw [wrap_id (by omega) (by omega)]; omega
          have w1 : IntKind.i64.wrap (((tri i + i : Nat) : Int) + 1) = ((tri (i + 1) : Nat) : Int) := by rw [wrap_id (by omega) (by omega)]; omega
          have w2 : IntKind.i64.wrap ((i : Int) + 1) = ((i + 1 : Nat) : Int) := by rw [wrap_id (by omega) (by omega)]; omega
          have w3 : IntKind.i64.wrap ((tri i : Int) + ((i + 1 : Nat) : Int)) = ((tri (i + 1) : Nat) : Int) := by rw [wrap_id (by omega) (by omega)]; omega
          have hdl := dealP_length deck i
          have ec := impl_copyOf_ok ((deck.take (tri (i + 1))).drop (tri i)) (by rw [List.length_drop, List.length_take]; omega)
          rw [impl_NewPatience_L5v1_eq]
          simp (disch := (first | omega | (simp only [List.length_append, List.length_cons, List.length_nil, List.length_take, List.length_drop, List.length_set, List.length_replicate, List.length_singleton]; omega))) only [↓if_dpos, ↓if_dneg, ↓if_epos, ↓if_eneg, ↓if_npos, ↓if_nneg, ↓if_pos, ↓if_neg, w0, w1, w2, w3, Int.toNat_natCast, List.nil_append, Nat.zero_add, List.length_singleton, Option.bind_some, List.drop_zero, List.take_length, if_true, if_false, ec]
          rw [← dealP_succ]
          exact ih (by omega)
      have t1 : tri 1 = 1 := rfl
      have w0 : IntKind.i64.wrap ((0 : Int) + 0) = 0 := by rw [wrap_id (by omega) (by omega)]; rfl
      have w1 : IntKind.i64.wrap ((0 : Int) + 1) = ((1 : Nat) : Int) := by rw [wrap_id (by omega) (by omega)]; rfl
      have w3 : IntKind.i64.wrap ((0 : Int) + ((1 : Nat) : Int)) = ((1 : Nat) : Int) := by rw [wrap_id (by omega) (by omega)]; rfl
      have ec := impl_copyOf_ok ((deck.take 1)) (by rw [List.length_take]; omega)
      rw [impl_NewPatience_L5_eq]
      simp (disch := (first | omega | (simp only [List.length_append, List.length_cons, List.length_nil, List.length_take, List.length_drop, List.length_set, List.length_replicate, List.length_singleton]; omega))) only [↓if_dpos, ↓if_dneg, ↓if_epos, ↓if_eneg, ↓if_npos, ↓if_nneg, ↓if_pos, ↓if_neg, w0, w1, w3, Int.toNat_natCast, List.nil_append, Nat.zero_add, List.length_singleton, Option.bind_some, List.drop_zero, List.take_length, if_true, if_false, Int.toNat_zero, ec]
      exact key 1 (by omega) (by omega)
  · rw [if_neg (by decide), if_npos (by omega), decide_eq_false h52]
    rfl
theorem handM_part {l : List Int} (h : handM l = true) {r : List Int} (hr : r.Sublist l) : handM r = true := by
  simp only [handM, Bool.and_eq_true, decide_eq_true_eq, List.all_eq_true] at *
  exact ⟨fun x hx => h.1 x (hr.subset hx), h.2.sublist hr⟩
theorem deal_cards (deck : List Int) : ∀ k, cardsP (dealP deck k) = deck.take (tri k) := by
  intro k
  induction k with
  | zero => rfl
  | succ k ih =>
    have : cardsP (dealP deck (k + 1)) = cardsP (dealP deck k) ++ (deck.take (tri (k + 1))).drop (tri k) := by rw [dealP_succ]; simp [cardsP]
    rw [this, ih]
    conv => rhs; rw [← List.take_append_drop (tri k) (deck.take (tri (k + 1)))]
    rw [List.take_take, show min (tri k) (tri (k + 1)) = tri k by show min (tri k) (tri k + (k + 1)) = _; omega]
theorem base_zero : baseM (List.replicate 4 0) = true ∧ baseCM (List.replicate 4 0) = [] := by decide +kernel
/-- A game that was dealt is one, and it is not won. -/
theorem newPM_pat {deck : List Int} {n : Int} (ho : (newPM deck n).2.2.2.2 = true) : patM (newPM deck n).1 (newPM deck n).2.1 (newPM deck n).2.2.1 (newPM deck n).2.2.2.1 = true ∧ baseCM (newPM deck n).2.1 = [] ∧ (newPM deck n).2.1.length = 4 := by
  unfold newPM at ho ⊢
  split at ho
  · rename_i hc
    rw [if_pos hc]
    simp only [Bool.and_eq_true, decide_eq_true_eq] at hc
    obtain ⟨h1, h2, h3⟩ := hc
    simp [inR] at h3
    dsimp only
    have hm := tri_le n.toNat (by omega)
    refine ⟨(patM_iff ..).2 ⟨by rw [dealP_length]; omega, base_zero.1, ?_, ?_⟩, base_zero.2, rfl⟩
    · rw [List.all_eq_true]
      intro p hp
      obtain ⟨i, hi, rfl⟩ := List.mem_map.1 hp
      have hi := List.mem_range.1 hi
      have t := tri_le (i + 1) (by omega)
      have e : tri (i + 1) = tri i + (i + 1) := rfl
      have hl : ((deck.take (tri (i + 1))).drop (tri i)).length = i + 1 := by rw [List.length_drop, List.length_take]; omega
      have hpile : pileM ((deck.take (tri (i + 1))).drop (tri i)) (i : Int) = true := pileM_iff.2 ⟨handM_part h1 ((List.drop_sublist _ _).trans (List.take_sublist _ _)), by rw [hl]; omega, fun j hj hn => by rw [hl] at hj; omega⟩
      exact okP_of hpile fun _ => by rw [openM_of hpile, hl]; omega
    · rw [patAll, base_zero.2, deal_cards]
      have hp : (([] : List Int) ++ deck.drop (tri n.toNat) ++ [] ++ deck.take (tri n.toNat)).Perm deck := by
        rw [List.nil_append, List.append_nil]
        refine List.perm_append_comm.trans ?_
        rw [List.take_append_drop]
      rw [wholeL_perm hp, wholeL, h1, decide_eq_true h2]; rfl
  · cases ho
end Go.Proofs.Ytenojifdoofcfaa.V
