/- Plain laws over the shapes. -/
import Derived.Test.YtoioaijpdiglfaaP1
import Derived.Test.YtoioaijpdiglfaaFRotateKinds
import Derived.Test.YtoioaijpdiglfaaS1
set_option linter.unusedVariables false
set_option linter.unusedSimpArgs false
set_option maxRecDepth 10000
namespace Go.Proofs.Ytoioaijpdiglfaa.V
open Go
def rotM (l : List Int) (k : Nat) : List Int := l.drop k ++ l.take k
theorem rotM_length {l : List Int} {k : Nat} : (rotM l k).length = l.length := by
  rw [rotM, List.length_append, List.length_drop, List.length_take]; omega
theorem rotM_getD {l : List Int} {k i : Nat} (hk : k < l.length) (hi : i < l.length) : (rotM l k).getD i 0 = l.getD ((k + i) % l.length) 0 := by
  rw [rotM, List.getD_eq_getElem?_getD, List.getD_eq_getElem?_getD, List.getElem?_append, List.length_drop]
  by_cases h : i < l.length - k
  · rw [if_pos h, List.getElem?_drop, Nat.mod_eq_of_lt (by omega)]
  · rw [if_neg h, List.getElem?_take, if_pos (by omega), show (k + i) % l.length = i - (l.length - k) by
      rw [Nat.mod_eq_sub_mod (by omega), Nat.mod_eq_of_lt (by omega)]; omega]
theorem spec_RotateKinds_ok (l : List Int) (n : Int) (h : l.length ≤ 1048576) : spec_RotateKinds l n = some (if n < 0 then [] else rotM l (n.toNat % l.length)) := by
  rw [spec_RotateKinds_eq]
  by_cases hn : n < 0
  · rw [if_pos hn, spec_RotateKinds_L3_eq]
    by_cases h0 : l.length = 0
    · rw [if_dneg (by omega)]
    · rw [if_dpos (by omega), if_dneg (by omega)]
  · rw [if_neg hn]
    obtain ⟨m, rfl⟩ : ∃ m : Nat, n = (m : Int) := ⟨n.toNat, by omega⟩
    rw [Int.toNat_natCast]
    by_cases h0 : l.length = 0
    · rw [spec_RotateKinds_L3_eq, if_dneg (by omega)]
      have : l = [] := List.length_eq_zero_iff.1 h0
      subst this; simp [rotM]
    · have hk : m % l.length < l.length := Nat.mod_lt _ (by omega)
      have ht : (m : Int).tmod (l.length : Int) = ((m % l.length : Nat) : Int) := rfl
      generalize m % l.length = k at hk ht ⊢
      have : ∀ i : Nat, i ≤ l.length → spec_RotateKinds_L3 l (m : Int) (i : Int) ((rotM l k).take i) = some (rotM l k) := down (by
        rw [spec_RotateKinds_L3_eq, if_dneg (by omega), List.take_of_length_le (by rw [rotM_length]; omega)]) fun i hi ih => by
          have hw : IntKind.i64.wrap ((i : Int) + 1) = ((i + 1 : Nat) : Int) := wrap_succ hi (by omega)
          have hw2 : IntKind.i64.wrap ((k : Int) + (i : Int)) = ((k + i : Nat) : Int) := by rw [wrap_id (by omega) (by omega)]; omega
          have ht2 : (((k + i : Nat) : Int)).tmod (l.length : Int) = (((k + i) % l.length : Nat) : Int) := rfl
          have hm : (k + i) % l.length < l.length := Nat.mod_lt _ (by omega)
          have hlt : ((rotM l k).take i).length = i := by rw [List.length_take, rotM_length]; omega
          rw [spec_RotateKinds_L3_eq, if_dpos (by omega), if_dpos (by omega), if_neg (by omega), if_neg (by omega), ht, hw2, ht2, Int.toNat_natCast, if_pos (by omega), if_pos (by omega), if_pos (by rw [hlt, List.length_singleton]; omega), hw, ← rotM_getD hk hi, ← take_succ_getD (by rw [rotM_length]; exact hi)]
          exact ih
      exact this 0 (Nat.zero_le _)
theorem impl_Cut_ok (l : List Int) (k : Nat) (hk : k < l.length) (h : l.length ≤ 1048576) : impl_Cut l (k : Int) = some (rotM l k) := by
  rw [impl_Cut_eq, impl_InRange_eq, if_dpos (by omega), Option.bind_some, decide_eq_true (by omega), if_neg (by decide), if_pos (by omega), if_pos (by omega), Int.toNat_natCast, List.take_length, impl_copyOf_ok _ (by rw [List.length_drop]; omega), Option.bind_some, if_pos (by omega), if_pos (by omega), List.drop_zero, if_pos (by rw [List.length_drop, List.length_take]; omega)]
  rfl
theorem impl_RotateKinds_ok (l : List Int) (n : Int) (h : l.length ≤ 1048576) : impl_RotateKinds l n = some (if n < 0 then [] else rotM l (n.toNat % l.length)) := by
  rw [impl_RotateKinds_eq]
  by_cases h0 : l.length = 0
  · have : l = [] := List.length_eq_zero_iff.1 h0
    rw [if_epos (by omega)]
    subst this
    split <;> simp [rotM]
  · rw [if_eneg (by omega)]
    by_cases hn : n < 0
    · rw [if_dpos hn, if_pos hn]
    · rw [if_dneg hn, if_neg hn, if_neg (by omega)]
      obtain ⟨m, rfl⟩ : ∃ m : Nat, n = (m : Int) := ⟨n.toNat, by omega⟩
      rw [Int.toNat_natCast, show (m : Int).tmod (l.length : Int) = ((m % l.length : Nat) : Int) from rfl, impl_Cut_ok l _ (Nat.mod_lt _ (by omega)) h]
      rfl
end Go.Proofs.Ytoioaijpdiglfaa.V
