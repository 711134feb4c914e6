/- Plain laws over the shapes. -/
import Derived.Test.YtenojifdoofcfaaPPat
import Derived.Test.YtenojifdoofcfaaFIsPatience
import Derived.Test.YtenojifdoofcfaaFLifted
import Derived.Test.YtenojifdoofcfaaFMoveUp
import Derived.Test.YtenojifdoofcfaaFPatiencecopied
import Derived.Test.YtenojifdoofcfaaFl18Copy
import Derived.Test.YtenojifdoofcfaaS1
import Derived.Test.YtenojifdoofcfaaS2
set_option linter.unusedVariables false
set_option linter.unusedSimpArgs false
set_option maxRecDepth 10000
namespace Go.Proofs.Ytenojifdoofcfaa.V
open Go
def moveUpM (ps : List (List Int × Int)) (b st wa : List Int) (fr : Int) : List (List Int × Int) × List Int × List Int × List Int × Bool :=
  if patM ps b st wa && (inR fr 0 ((ps.length : Int) - 1) && ((liftM (ps.getD fr.toNat ([], 0)).1 (ps.getD fr.toNat ([], 0)).2 1).2.2.2 && (builtM b ((liftM (ps.getD fr.toNat ([], 0)).1 (ps.getD fr.toNat ([], 0)).2 1).2.2.1.getD 0 0)).2)) then
    (ps.set fr.toNat ((liftM (ps.getD fr.toNat ([], 0)).1 (ps.getD fr.toNat ([], 0)).2 1).1, (liftM (ps.getD fr.toNat ([], 0)).1 (ps.getD fr.toNat ([], 0)).2 1).2.1), (builtM b ((liftM (ps.getD fr.toNat ([], 0)).1 (ps.getD fr.toNat ([], 0)).2 1).2.2.1.getD 0 0)).1, st, wa, true)
  else (ps, b, st, wa, false)
theorem lift_len {l : List Int} {h n : Int} (hk : (liftM l h n).2.2.2 = true) (hn : 1 ≤ n) : 0 < (liftM l h n).2.2.1.length := by
  unfold liftM at hk ⊢
  cases hr : inR n 1 (openM l h)
  · rw [hr] at hk; cases hk
  · rw [if_pos rfl]
    obtain ⟨_, k1, k2, k3⟩ := openM_pos hr
    simp only [List.length_drop]; omega
theorem spec_MoveUp_ok (ps : List (List Int × Int)) (b st wa : List Int) (fr : Int) (hh : G3 ps) (hb : b.length ≤ 2097152) (h9 : st.length ≤ 2097152) (h10 : wa.length ≤ 2097152) : spec_MoveUp ps b st wa fr = some (moveUpM ps b st wa fr) := by
  have hl := hh.len
  have w : IntKind.i64.wrap ((ps.length : Int) - 1) = (ps.length : Int) - 1 := wrap_id (by omega) (by omega)
  have hq := hh.at' (i := fr.toNat)
  rw [spec_MoveUp_eq, spec_l18Copy_ok ps b st wa hh hb h9 h10, Option.bind_some, spec_IsPatience_ok ps b st wa hh hb h9 h10, Option.bind_some, w, spec_l1In_ok, Option.bind_some, moveUpM]
  cases patM ps b st wa
  · rfl
  · cases hr : inR fr 0 ((ps.length : Int) - 1)
    · rfl
    · have hr2 := hr; simp [inR] at hr2
      rw [if_neg (by simp), if_neg (by simp), if_pos (by omega), if_pos (by omega), spec_Lifted_ok _ _ _ hq, Option.bind_some]
      cases hk : (liftM (ps.getD fr.toNat ([], 0)).1 (ps.getD fr.toNat ([], 0)).2 1).2.2.2
      · rfl
      · have hlen := lift_len hk (by omega)
        rw [if_neg (by simp), if_pos (by omega), spec_Built_ok _ _ hb, Option.bind_some]
        cases (builtM b ((liftM (ps.getD fr.toNat ([], 0)).1 (ps.getD fr.toNat ([], 0)).2 1).2.2.1.getD 0 0)).2
        · rfl
        · rw [if_neg (by simp)]; dsimp only; rw [if_pos (by omega), if_pos (by omega)]; rfl
theorem impl_MoveUp_ok (ps : List (List Int × Int)) (b st wa : List Int) (fr : Int) (hh : G3 ps) (hb : b.length ≤ 2097152) (h9 : st.length ≤ 2097152) (h10 : wa.length ≤ 2097152) : impl_MoveUp ps b st wa fr = some (moveUpM ps b st wa fr) := by
  have hl := hh.len
  have w : IntKind.i64.wrap ((ps.length : Int) - 1) = (ps.length : Int) - 1 := wrap_id (by omega) (by omega)
  have hq := hh.at' (i := fr.toNat)
  rw [impl_MoveUp_eq, impl_Patience_copied_ok ps b st wa hh hb h9 h10, Option.bind_some, impl_IsPatience_ok ps b st wa hh hb h9 h10, Option.bind_some, w, impl_InRange_ok, Option.bind_some, moveUpM]
  cases patM ps b st wa
  · rfl
  · cases hr : inR fr 0 ((ps.length : Int) - 1)
    · rfl
    · have hr2 := hr; simp [inR] at hr2
      rw [if_neg (by simp), if_neg (by simp), if_pos (by omega), if_pos (by omega), impl_Lifted_ok _ _ _ hq, Option.bind_some]
      cases hk : (liftM (ps.getD fr.toNat ([], 0)).1 (ps.getD fr.toNat ([], 0)).2 1).2.2.2
      · rfl
      · have hlen := lift_len hk (by omega)
        rw [if_neg (by simp), if_pos (by omega), impl_Built_ok _ _ hb, Option.bind_some]
        cases (builtM b ((liftM (ps.getD fr.toNat ([], 0)).1 (ps.getD fr.toNat ([], 0)).2 1).2.2.1.getD 0 0)).2
        · rfl
        · rw [if_neg (by simp)]; dsimp only; rw [if_pos (by omega), if_pos (by omega)]; rfl
theorem liftM_length (l : List Int) (h n : Int) : (liftM l h n).1.length ≤ l.length ∧ (liftM l h n).2.2.1.length ≤ l.length := by
  unfold liftM; split
  · simp only [List.length_take, List.length_drop]; omega
  · exact ⟨Nat.le_refl _, Nat.zero_le _⟩
end Go.Proofs.Ytenojifdoofcfaa.V
