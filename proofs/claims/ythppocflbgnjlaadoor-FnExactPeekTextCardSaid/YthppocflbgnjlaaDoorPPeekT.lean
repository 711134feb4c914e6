/- Plain laws over the shapes. -/
import Derived.Test.YthppocflbgnjlaaDoorPHand
import Derived.Test.YthppocflbgnjlaaDoorFPeekText
import Derived.Test.YthppocflbgnjlaaDoorS1
import Derived.Test.YthppocflbgnjlaaDoorS2
set_option linter.unusedVariables false
set_option linter.unusedSimpArgs false
set_option maxRecDepth 10000
namespace Go.Proofs.YthppocflbgnjlaaDoor.V
open Go
def topB (c : Int) : ByteArray := if isC c = true then cardText c else ByteArray.mk #[63]
def peekB (me : Int) (hand : List Int) (top : Int) (sz : List Int) : ByteArray := blanksB (itoaB me ++ ByteArray.mk #[58] ++ handB hand ++ ByteArray.mk #[32] ++ cardQ top) sz
theorem cardText_pos {c : Int} (h : isC c = true) : (cardText c).size = 2 := by
  obtain ⟨h1, h2⟩ := isC_iff.1 h
  unfold cardText
  rw [ByteArray.size_append, ByteArray.size_extract, ByteArray.size_extract, Int.tmod_eq_emod_of_nonneg h1, Int.tdiv_eq_ediv_of_nonneg h1]
  have z1 : (ByteArray.mk #[50, 51, 52, 53, 54, 55, 56, 57, 84, 74, 81, 75, 65]).size = 13 := rfl
  have z2 : (ByteArray.mk #[99, 100, 104, 115]).size = 4 := rfl
  omega
theorem impl_PeekText_ok (a0 : Int) (a1 : List Int) (a2 a3 a4 : Int) (a5 : List Int) (a6 a7 : Int) (h0 : I64 a0) (h1 : a1.length ≤ 2097152) (h5 : a5.length ≤ 2097152) (hi5 : ∀ x ∈ a5, I64 x) : impl_PeekText a0 a1 a2 a3 a4 a5 a6 a7 = some (peekB a0 a1 a2 a5) := by
  have z1 : (ByteArray.mk #[58]).size = 1 := rfl
  have z2 : (ByteArray.mk #[32]).size = 1 := rfl
  have s1 := itoaB_size h0
  have s2 := handB_size a1
  have s3 := cardQ_size a2
  have key : ∀ s0 : ByteArray, s0.size ≤ 4194400 → impl_PeekText_L6 s0 a5 (a5.length : Int) 0 = some (blanksB s0 a5) := fun s0 hz => by
    have key : ∀ i, i ≤ a5.length → impl_PeekText_L6 (blanksB s0 (a5.take i)) a5 (a5.length : Int) (i : Int) = some (blanksB s0 a5) := down (by
        rw [impl_PeekText_L6_eq, if_dneg (by omega), List.take_length]) fun i hi ih => by
      have hb := blanksB_size s0 hi5 i (by omega)
      have hr := hi5 _ (getD_mem (d := 0) hi)
      have s4 := itoaB_size hr
      rw [impl_PeekText_L6_eq, if_dpos (by omega), if_pos (by omega), if_pos (by omega), Int.toNat_natCast, impl_FormatInt_ok hr, Option.bind_some, if_pos (by omega), if_pos (by rw [ByteArray.size_append]; omega), wrap_succ hi (by omega), ← blanksB_take s0 hi]
      exact ih
    exact key 0 (Nat.zero_le _)
  rw [impl_PeekText_eq, impl_IsCard_ok, Option.bind_some, peekB]
  unfold cardQ at s3 ⊢
  by_cases c : isC a2 = true
  · rw [if_pos c] at s3 ⊢
    rw [if_pos c, impl_CardText_ok _ c, Option.bind_some, impl_FormatInt_ok h0, Option.bind_some, if_pos (by omega), impl_HandText_ok _ h1, Option.bind_some, if_pos (by rw [ByteArray.size_append]; omega), if_pos (by rw [ByteArray.size_append, ByteArray.size_append]; omega), if_pos (by rw [ByteArray.size_append, ByteArray.size_append, ByteArray.size_append]; omega)]
    exact key _ (by rw [ByteArray.size_append, ByteArray.size_append, ByteArray.size_append, ByteArray.size_append]; omega)
  · rw [if_neg c] at s3 ⊢
    rw [if_neg c, impl_FormatInt_ok h0, Option.bind_some, if_pos (by omega), impl_HandText_ok _ h1, Option.bind_some, if_pos (by rw [ByteArray.size_append]; omega), if_pos (by rw [ByteArray.size_append, ByteArray.size_append]; omega), if_pos (by rw [ByteArray.size_append, ByteArray.size_append, ByteArray.size_append]; omega)]
    exact key _ (by rw [ByteArray.size_append, ByteArray.size_append, ByteArray.size_append, ByteArray.size_append]; omega)
theorem toList_nil (s : ByteArray) (h : s.size ≠ 0) : (s.toList == (ByteArray.mk #[]).toList) = false := by
  rw [beq_eq_false_iff_ne]
  intro e
  have e := congrArg List.length e
  rw [ByteArray.toList_eq, ByteArray.toList_eq] at e
  exact h (by rw [ByteArray.size, ← Array.length_toList, e]; rfl)
theorem spec_PeekText_ok (a0 : Int) (a1 : List Int) (a2 a3 a4 : Int) (a5 : List Int) (a6 a7 : Int) (h0 : I64 a0) (h1 : a1.length ≤ 2097152) (h5 : a5.length ≤ 2097152) (hi5 : ∀ x ∈ a5, I64 x) : spec_PeekText a0 a1 a2 a3 a4 a5 a6 a7 = some (peekB a0 a1 a2 a5) := by
  have z1 : (ByteArray.mk #[58]).size = 1 := rfl
  have z2 : (ByteArray.mk #[32]).size = 1 := rfl
  have s1 := itoaB_size h0
  have s2 := handB_size a1
  have s3 := cardQ_size a2
  have key : ∀ s0 : ByteArray, s0.size ≤ 4194400 → spec_PeekText_L6 s0 0 a0 a1 a2 a3 a4 a5 a6 a7 = some (blanksB s0 a5) := fun s0 hz => by
    have key : ∀ i, i ≤ a5.length → spec_PeekText_L6 (blanksB s0 (a5.take i)) (i : Int) a0 a1 a2 a3 a4 a5 a6 a7 = some (blanksB s0 a5) := down (by
        rw [spec_PeekText_L6_eq, if_dneg (by omega), List.take_length]) fun i hi ih => by
      have hb := blanksB_size s0 hi5 i (by omega)
      have hr := hi5 _ (getD_mem (d := 0) hi)
      have s4 := itoaB_size hr
      rw [spec_PeekText_L6_eq, if_dpos (by omega), if_pos (by omega), if_pos (by omega), if_pos (by omega), Int.toNat_natCast, spec_FormatInt_ok hr, Option.bind_some, if_pos (by rw [ByteArray.size_append]; omega), wrap_succ hi (by omega), app_assoc, ← blanksB_take s0 hi]
      exact ih
    exact key 0 (Nat.zero_le _)
  rw [spec_PeekText_eq, spec_CardText_any, Option.bind_some, peekB]
  unfold cardQ at s3 ⊢
  unfold cardE
  by_cases c : isC a2 = true
  · have hp := cardText_pos c
    rw [if_pos c] at s3 ⊢
    rw [if_pos c, toList_nil _ (by omega), if_neg (by decide), spec_FormatInt_ok h0, Option.bind_some, if_pos (by omega), spec_HandText_ok _ h1, Option.bind_some, if_pos (by rw [ByteArray.size_append]; omega), if_pos (by rw [ByteArray.size_append, ByteArray.size_append]; omega), if_pos (by rw [ByteArray.size_append, ByteArray.size_append, ByteArray.size_append]; omega)]
    exact key _ (by rw [ByteArray.size_append, ByteArray.size_append, ByteArray.size_append, ByteArray.size_append]; omega)
  · rw [if_neg c] at s3 ⊢
    rw [if_neg c, if_pos (by exact beq_self_eq_true _), spec_FormatInt_ok h0, Option.bind_some, if_pos (by omega), spec_HandText_ok _ h1, Option.bind_some, if_pos (by rw [ByteArray.size_append]; omega), if_pos (by rw [ByteArray.size_append, ByteArray.size_append]; omega), if_pos (by rw [ByteArray.size_append, ByteArray.size_append, ByteArray.size_append]; omega)]
    exact key _ (by rw [ByteArray.size_append, ByteArray.size_append, ByteArray.size_append, ByteArray.size_append]; omega)
end Go.Proofs.YthppocflbgnjlaaDoor.V
