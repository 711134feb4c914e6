/- Plain laws over the shapes. -/
import Derived.Test.YtenojifdoofcfaaPPat
import Derived.Test.YtenojifdoofcfaaFIsPatience
import Derived.Test.YtenojifdoofcfaaFLifted
import Derived.Test.YtenojifdoofcfaaFMovePile
import Derived.Test.YtenojifdoofcfaaFPatiencecopied
import Derived.Test.YtenojifdoofcfaaFStacked
import Derived.Test.YtenojifdoofcfaaFl18Copy
import Derived.Test.YtenojifdoofcfaaS1
set_option linter.unusedVariables false
set_option linter.unusedSimpArgs false
set_option maxRecDepth 10000
namespace Go.Proofs.Ytenojifdoofcfaa.V
open Go
def movePileM (ps : List (List Int × Int)) (b st wa : List Int) (fr to n : Int) : List (List Int × Int) × List Int × List Int × List Int × Bool :=
  if patM ps b st wa && (!(fr == to) && (inR fr 0 ((ps.length : Int) - 1) && (inR to 0 ((ps.length : Int) - 1) && ((liftM (ps.getD fr.toNat ([], 0)).1 (ps.getD fr.toNat ([], 0)).2 n).2.2.2 && (stackM (ps.getD to.toNat ([], 0)).1 (ps.getD to.toNat ([], 0)).2 (liftM (ps.getD fr.toNat ([], 0)).1 (ps.getD fr.toNat ([], 0)).2 n).2.2.1).2.2)))) then
    ((ps.set fr.toNat ((liftM (ps.getD fr.toNat ([], 0)).1 (ps.getD fr.toNat ([], 0)).2 n).1, (liftM (ps.getD fr.toNat ([], 0)).1 (ps.getD fr.toNat ([], 0)).2 n).2.1)).set to.toNat ((stackM (ps.getD to.toNat ([], 0)).1 (ps.getD to.toNat ([], 0)).2 (liftM (ps.getD fr.toNat ([], 0)).1 (ps.getD fr.toNat ([], 0)).2 n).2.2.1).1, (stackM (ps.getD to.toNat ([], 0)).1 (ps.getD to.toNat ([], 0)).2 (liftM (ps.getD fr.toNat ([], 0)).1 (ps.getD fr.toNat ([], 0)).2 n).2.2.1).2.1), b, st, wa, true)
  else (ps, b, st, wa, false)
theorem liftM_len2 (l : List Int) (h n : Int) : (liftM l h n).1.length ≤ l.length ∧ (liftM l h n).2.2.1.length ≤ l.length := by
  unfold liftM; split
  · simp only [List.length_take, List.length_drop]; omega
  · exact ⟨Nat.le_refl _, Nat.zero_le _⟩
theorem spec_MovePile_ok (ps : List (List Int × Int)) (b st wa : List Int) (fr to n : Int) (hh : G3 ps) (hb : b.length ≤ 2097152) (h9 : st.length ≤ 2097152) (h10 : wa.length ≤ 2097152) : spec_MovePile ps b st wa fr to n = some (movePileM ps b st wa fr to n) := by
  have hl := hh.len
  have w : IntKind.i64.wrap ((ps.length : Int) - 1) = (ps.length : Int) - 1 := wrap_id (by omega) (by omega)
  have hq := hh.at' (i := fr.toNat)
  have hq2 := hh.at' (i := to.toNat)
  rw [spec_MovePile_eq, spec_l18Copy_ok ps b st wa hh hb h9 h10, Option.bind_some, spec_IsPatience_ok ps b st wa hh hb h9 h10, Option.bind_some, w, spec_l1In_ok, Option.bind_some, spec_l1In_ok, Option.bind_some, movePileM]
  cases patM ps b st wa
  · rfl
  · cases hr : inR fr 0 ((ps.length : Int) - 1)
    · cases (fr == to) <;> rfl
    · cases hs : inR to 0 ((ps.length : Int) - 1)
      · cases (fr == to) <;> rfl
      · cases (fr == to)
        · have hr2 := hr; simp [inR] at hr2
          have hs2 := hs; simp [inR] at hs2
          have hl2 := (liftM_len2 (ps.getD fr.toNat ([], 0)).1 (ps.getD fr.toNat ([], 0)).2 n).2
          rw [if_neg (by simp), if_neg (by simp), if_neg (by simp), if_neg (by simp), if_pos (by omega), if_pos (by omega), spec_Lifted_ok _ _ _ hq, Option.bind_some, if_pos (by omega), if_pos (by omega), spec_Stacked_ok _ _ _ hq2 (by omega), Option.bind_some]
          cases hk : (liftM (ps.getD fr.toNat ([], 0)).1 (ps.getD fr.toNat ([], 0)).2 n).2.2.2
          · rfl
          · rw [if_neg (by simp)]
            cases (stackM (ps.getD to.toNat ([], 0)).1 (ps.getD to.toNat ([], 0)).2 (liftM (ps.getD fr.toNat ([], 0)).1 (ps.getD fr.toNat ([], 0)).2 n).2.2.1).2.2
            · rfl
            · rw [if_neg (by simp)]; dsimp only; rw [if_pos (by omega), if_pos (by omega), if_pos (by omega), if_pos (by rw [List.length_set]; omega)]; rfl
        · rfl
theorem impl_MovePile_ok (ps : List (List Int × Int)) (b st wa : List Int) (fr to n : Int) (hh : G3 ps) (hb : b.length ≤ 2097152) (h9 : st.length ≤ 2097152) (h10 : wa.length ≤ 2097152) : impl_MovePile ps b st wa fr to n = some (movePileM ps b st wa fr to n) := by
  have hl := hh.len
  have w : IntKind.i64.wrap ((ps.length : Int) - 1) = (ps.length : Int) - 1 := wrap_id (by omega) (by omega)
  have hq := hh.at' (i := fr.toNat)
  have hq2 := hh.at' (i := to.toNat)
  rw [impl_MovePile_eq, impl_Patience_copied_ok ps b st wa hh hb h9 h10, Option.bind_some, impl_IsPatience_ok ps b st wa hh hb h9 h10, Option.bind_some, w, impl_InRange_ok, Option.bind_some, impl_InRange_ok, Option.bind_some, movePileM]
  cases patM ps b st wa
  · rfl
  · cases hr : inR fr 0 ((ps.length : Int) - 1)
    · cases (fr == to) <;> rfl
    · cases hs : inR to 0 ((ps.length : Int) - 1)
      · cases (fr == to) <;> rfl
      · cases (fr == to)
        · have hr2 := hr; simp [inR] at hr2
          have hs2 := hs; simp [inR] at hs2
          have hl2 := (liftM_len2 (ps.getD fr.toNat ([], 0)).1 (ps.getD fr.toNat ([], 0)).2 n).2
          rw [if_neg (by simp), if_neg (by simp), if_neg (by simp), if_neg (by simp), if_pos (by omega), if_pos (by omega), impl_Lifted_ok _ _ _ hq, Option.bind_some, if_pos (by omega), if_pos (by omega), impl_Stacked_ok _ _ _ hq2 (by omega), Option.bind_some]
          cases hk : (liftM (ps.getD fr.toNat ([], 0)).1 (ps.getD fr.toNat ([], 0)).2 n).2.2.2
          · rfl
          · rw [if_neg (by simp)]
            cases (stackM (ps.getD to.toNat ([], 0)).1 (ps.getD to.toNat ([], 0)).2 (liftM (ps.getD fr.toNat ([], 0)).1 (ps.getD fr.toNat ([], 0)).2 n).2.2.1).2.2
            · rfl
            · rw [if_neg (by simp)]; dsimp only; rw [if_pos (by omega), if_pos (by omega), if_pos (by omega), if_pos (by rw [List.length_set]; omega)]; rfl
        · rfl
end Go.Proofs.Ytenojifdoofcfaa.V
