/- Plain laws over the shapes. -/
import Derived.Test.YthppocflbgnjlaaDoorPTx
import Derived.Test.YthppocflbgnjlaaDoorFCallsText
import Derived.Test.YthppocflbgnjlaaDoorS1
set_option linter.unusedVariables false
set_option linter.unusedSimpArgs false
set_option maxRecDepth 10000
namespace Go.Proofs.YthppocflbgnjlaaDoor.V
open Go
/-- What was called, as texts. -/
def callB (c : Int) : ByteArray := if c = 0 then ByteArray.mk #[112] else itoaB c
def callsB (l : List Int) : List ByteArray := l.map callB
theorem callB_size {c : Int} (h : I64 c) : (callB c).size ≤ 20 := by
  unfold callB
  split
  · exact (by decide : (1 : Nat) ≤ 20)
  · exact itoaB_size h
theorem callsB_get {l : List Int} {i : Nat} (h : i < l.length) : (callsB l).getD i default = callB (l.getD i 0) := by
  rw [callsB, List.getD_eq_getElem?_getD, List.getD_eq_getElem?_getD, List.getElem?_map, List.getElem?_eq_getElem h]; rfl
theorem callsB_length (l : List Int) : (callsB l).length = l.length := by simp [callsB]
theorem callsB_small {l : List Int} (h : ∀ x ∈ l, I64 x) : ∀ s ∈ callsB l, s.size ≤ 20 := fun s hs => by
  obtain ⟨x, hx, rfl⟩ := List.mem_map.1 hs
  exact callB_size (h x hx)
def callsM (l : List Int) : ByteArray := if l.length = 0 then ByteArray.mk #[45] else joinB (callsB l) (ByteArray.mk #[32])
theorem impl_CallsText_ok {l : List Int} (h : ∀ x ∈ l, I64 x) (hl : l.length ≤ 1048576) : impl_CallsText l = some (callsM l) := by
  have hn := callsB_length l
  rw [impl_CallsText_eq, callsM]
  by_cases h0 : l.length = 0
  · rw [if_epos (by omega), if_pos h0]
  rw [if_eneg (by omega), if_neg h0]
  have key : ∀ i, i ≤ l.length → impl_CallsText_L5 l (l.length : Int) (i : Int) ((callsB l).take i) = some (joinB (callsB l) (ByteArray.mk #[32])) := down (by
      rw [impl_CallsText_L5_eq, if_dneg (by omega), List.take_of_length_le (by omega), strings_Join_ok (callsB_small h) (by
        have : (callsB l).length * (20 + (ByteArray.mk #[32]).size) ≤ 1048576 * 21 := Nat.mul_le_mul (by omega) (by decide)
        omega) (by omega), Option.bind_some]) fun i hi ih => by
    rw [take_snoc (d := default) (by omega), callsB_get hi] at ih
    rw [impl_CallsText_L5_eq, if_dpos (by omega), if_pos (by omega), if_pos (by omega), Int.toNat_natCast, wrap_succ hi (by omega)]
    unfold callB at ih
    by_cases c : l.getD i 0 = 0
    · rw [if_pos c] at ih
      rw [if_epos c, if_pos (by rw [List.length_take, List.length_singleton]; omega)]
      exact ih
    · rw [if_neg c] at ih
      rw [if_eneg c, impl_FormatInt_ok (h _ (getD_mem hi)), Option.bind_some, if_pos (by rw [List.length_take, List.length_singleton]; omega)]
      exact ih
  exact key 0 (Nat.zero_le _)
theorem spec_CallsText_ok {l : List Int} (h : ∀ x ∈ l, I64 x) (hl : l.length ≤ 1048576) : spec_CallsText l = some (callsM l) := by
  have hn := callsB_length l
  have z1 : (ByteArray.mk #[32]).size = 1 := rfl
  have z2 : (ByteArray.mk #[112]).size = 1 := rfl
  have key : ∀ i, i ≤ l.length → spec_CallsText_L3 l (joinB ((callsB l).take i) (ByteArray.mk #[32])) (i : Int) = some (callsM l) := down (by
      rw [spec_CallsText_L3_eq, if_dneg (by omega), List.take_of_length_le (by omega), callsM]
      by_cases h0 : l.length = 0
      · rw [if_epos (by omega), if_pos h0]
      · rw [if_eneg (by omega), if_neg h0]) fun i hi ih => by
    have hsz := joinB_size 20 (ByteArray.mk #[32]) ((callsB l).take i) fun x hx => callsB_small h x (List.mem_of_mem_take hx)
    rw [List.length_take, z1] at hsz
    have hit := itoaB_size (h _ (getD_mem (d := 0) hi))
    rw [joinB_take (by omega), callsB_get hi] at ih
    unfold callB at ih
    rw [spec_CallsText_L3_eq, if_dpos (by omega), Int.toNat_natCast, wrap_succ hi (by omega)]
    by_cases ci : i = 0
    · rw [if_pos ci] at ih
      rw [if_dneg (by omega), if_pos (by omega), if_pos (by omega)]
      have hnil : joinB ((callsB l).take i) (ByteArray.mk #[32]) = ByteArray.mk #[] := by rw [ci]; rfl
      have happ : ∀ s : ByteArray, ByteArray.mk #[] ++ s = s := fun s => by rw [mk_list s]; exact mkB_app [] _
      rw [hnil] at hsz ⊢
      by_cases c : l.getD i 0 = 0
      · rw [if_pos c] at ih
        rw [if_epos c, if_pos (by rw [z2]; show 0 + 1 ≤ _; omega), happ]
        exact ih
      · rw [if_neg c] at ih
        rw [if_eneg c, if_pos (by omega), if_pos (by omega), spec_FormatInt_ok (h _ (getD_mem hi)), Option.bind_some, if_pos (by show 0 + _ ≤ _; omega), happ]
        exact ih
    · rw [if_neg ci] at ih
      rw [if_dpos (by omega), if_pos (by rw [z1]; omega), if_pos (by omega), if_pos (by omega)]
      by_cases c : l.getD i 0 = 0
      · rw [if_pos c] at ih
        rw [if_epos c, if_pos (by rw [ByteArray.size_append, z1, z2]; omega)]
        exact ih
      · rw [if_neg c] at ih
        rw [if_eneg c, if_pos (by omega), if_pos (by omega), spec_FormatInt_ok (h _ (getD_mem hi)), Option.bind_some, if_pos (by rw [ByteArray.size_append, z1]; omega)]
        exact ih
  rw [spec_CallsText_eq]
  exact key 0 (Nat.zero_le _)
end Go.Proofs.YthppocflbgnjlaaDoor.V
