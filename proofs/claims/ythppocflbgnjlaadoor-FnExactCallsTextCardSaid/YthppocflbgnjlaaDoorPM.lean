/- Plain laws over the shapes. -/
import Derived.Test.YthppocflbgnjlaaDoorP1
import Derived.Test.YthppocflbgnjlaaDoorM
set_option linter.unusedVariables false
set_option linter.unusedSimpArgs false
set_option maxRecDepth 10000
namespace Go.Proofs.YthppocflbgnjlaaDoor.V
open Go
theorem laws_toIntS_ok (l : List Int) (hl : l.length ≤ 2097152) : laws_toIntS l = some l := by
  have h : ∀ i, i ≤ l.length → ∀ s : List Int, s.length = l.length → s.take i = l.take i → laws_toIntS_L3 l i s = some l := down (by
      intro s h1 h2
      rw [List.take_of_length_le (by omega), List.take_of_length_le (Nat.le_refl _)] at h2
      rw [laws_toIntS_L3_eq]
      simp (disch := (first | omega | (simp only [List.length_append, List.length_cons, List.length_nil, List.length_take, List.length_drop, List.length_set, List.length_replicate, List.length_singleton]; omega))) only [↓if_dpos, ↓if_dneg, ↓if_epos, ↓if_eneg, ↓if_npos, ↓if_nneg, ↓if_pos, ↓if_neg, Int.toNat_natCast, List.nil_append, Nat.zero_add, List.length_singleton, Option.bind_some, List.drop_zero, List.take_length, if_true, if_false, ]
      rw [h2]) fun i hi ih s h1 h2 => by
    have hil : (i : Int) < (l.length : Int) := by omega
    have hw : IntKind.i64.wrap ((i : Int) + 1) = ((i + 1 : Nat) : Int) := wrap_succ hi (by omega)
    rw [laws_toIntS_L3_eq]
    simp (disch := (first | omega | (simp only [List.length_append, List.length_cons, List.length_nil, List.length_take, List.length_drop, List.length_set, List.length_replicate, List.length_singleton]; omega))) only [↓if_dpos, ↓if_dneg, ↓if_epos, ↓if_eneg, ↓if_npos, ↓if_nneg, ↓if_pos, ↓if_neg, hw, Int.toNat_natCast, List.nil_append, Nat.zero_add, List.length_singleton, Option.bind_some, List.drop_zero, List.take_length, if_true, if_false, ]
    exact ih _ (by simpa using h1) (copy_set hi h1 h2)
  rw [laws_toIntS_eq]
  simp (disch := (first | omega | (simp only [List.length_append, List.length_cons, List.length_nil, List.length_take, List.length_drop, List.length_set, List.length_replicate, List.length_singleton]; omega))) only [↓if_dpos, ↓if_dneg, ↓if_epos, ↓if_eneg, ↓if_npos, ↓if_nneg, ↓if_pos, ↓if_neg, Int.toNat_natCast, List.nil_append, Nat.zero_add, List.length_singleton, Option.bind_some, List.drop_zero, List.take_length, if_true, if_false]
  exact h 0 (Nat.zero_le _) _ (by simp) rfl
theorem laws_eqIntS_ok (l r : List Int) (hl : l.length ≤ 2097152) : laws_eqIntS l r = some (decide (l = r)) := by
  rw [laws_eqIntS_eq]
  by_cases hlen : l.length = r.length
  · rw [if_neg (by simp [hlen])]
    exact eq_loop (d := 0) (fun i => laws_eqIntS_L4 l r i) hlen (by show laws_eqIntS_L4 l r (l.length : Int) = _; rw [laws_eqIntS_L4_eq, if_neg (by simp)]) fun i hi => by
      show laws_eqIntS_L4 l r (i : Int) = _
      have hil : (i : Int) < (l.length : Int) := by omega
      have hw : IntKind.i64.wrap ((i : Int) + 1) = ((i + 1 : Nat) : Int) := wrap_succ hi (by omega)
      rw [laws_eqIntS_L4_eq]
      simp (disch := (first | omega | (simp only [List.length_append, List.length_cons, List.length_nil, List.length_take, List.length_drop, List.length_set, List.length_replicate, List.length_singleton]; omega))) only [↓if_dpos, ↓if_dneg, ↓if_epos, ↓if_eneg, ↓if_npos, ↓if_nneg, ↓if_pos, ↓if_neg, hw, Int.toNat_natCast, List.nil_append, Nat.zero_add, List.length_singleton, Option.bind_some, List.drop_zero, List.take_length, if_true, if_false, ]
      by_cases e : l.getD i 0 = r.getD i 0
      · rw [if_neg (by simpa using e), if_pos e]
      · rw [if_pos (by simpa using e), if_neg e]
  · rw [if_pos (by simp; omega), decide_eq_false (fun e => hlen (by rw [e]))]
theorem laws_eqIntS_self (l : List Int) (hb : l.length ≤ 2097152) : laws_eqIntS l l = some true := by rw [laws_eqIntS_ok l l hb]; simp
end Go.Proofs.YthppocflbgnjlaaDoor.V
