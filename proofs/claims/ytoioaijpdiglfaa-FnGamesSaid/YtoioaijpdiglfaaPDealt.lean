/- Plain laws over the shapes. -/
import Derived.Test.YtoioaijpdiglfaaP1
import Derived.Test.YtoioaijpdiglfaaS1
import Derived.Test.YtoioaijpdiglfaaS2
set_option linter.unusedVariables false
set_option linter.unusedSimpArgs false
set_option maxRecDepth 10000
namespace Go.Proofs.Ytoioaijpdiglfaa.V
open Go
def handN (deck : List Int) (p q n : Nat) : List Int := (List.range n).map fun (i : Nat) => deck.getD (i * p + q) 0
def handsN (deck : List Int) (p e : Nat) : List (List Int) := (List.range p).map fun (q : Nat) => handN deck p q e
theorem handN_length (deck : List Int) (p q n : Nat) : (handN deck p q n).length = n := by simp [handN]
theorem handsN_length (deck : List Int) (p e : Nat) : (handsN deck p e).length = p := by simp [handsN]
theorem handN_succ (deck : List Int) (p q n : Nat) : handN deck p q (n + 1) = handN deck p q n ++ [deck.getD (n * p + q) 0] := by simp [handN, List.range_succ]
def dealtM (deck : List Int) (p e : Int) : List (List Int) × List Int × Bool :=
  if handM deck = true ∧ inR p 1 6 = true ∧ inR e 0 20 = true ∧ p * e ≤ (deck.length : Int) then (handsN deck p.toNat e.toNat, deck.drop (p.toNat * e.toNat), true) else ([], deck, false)
theorem spec_Dealt_in (deck : List Int) (p e : Nat) (hp : p ≤ 6) (he : e ≤ 20) (hl : p * e ≤ deck.length) (hd : deck.length ≤ 2097152) : ∀ q, q ≤ p → spec_Dealt_L5 deck p e q ((List.range q).map fun (q : Nat) => handN deck p q e) = some (handsN deck p e, deck.drop (p * e), true) := by
  have hpe : p * e ≤ 120 := Nat.mul_le_mul hp he
  have wpe : IntKind.i64.wrap ((p : Int) * (e : Int)) = ((p * e : Nat) : Int) := by rw [← Int.natCast_mul, wrap_id (by omega) (by omega)]
  refine down (by
    rw [spec_Dealt_L5_eq]
    simp (disch := (first | omega | (simp only [List.length_append, List.length_cons, List.length_nil, List.length_take, List.length_drop, List.length_set, List.length_replicate, List.length_singleton]; omega))) only [↓if_dpos, ↓if_dneg, ↓if_epos, ↓if_eneg, ↓if_npos, ↓if_nneg, ↓if_pos, ↓if_neg, Int.toNat_natCast, List.nil_append, Nat.zero_add, List.length_singleton, Option.bind_some, List.drop_zero, List.take_length, if_true, if_false, wpe]
    rfl) fun q hq ih => ?_
  have hw : IntKind.i64.wrap ((q : Int) + 1) = ((q + 1 : Nat) : Int) := by rw [wrap_id (by omega) (by omega)]; omega
  have hin : ∀ i, i ≤ e → spec_Dealt_L9 deck p e q i ((List.range q).map fun (q : Nat) => handN deck p q e) (handN deck p q i) = some (handsN deck p e, deck.drop (p * e), true) := down (by
      rw [List.range_succ, List.map_append] at ih
      have hlr : ((List.range q).map fun (q : Nat) => handN deck p q e).length = q := by simp
      rw [spec_Dealt_L9_eq]
      simp (disch := (first | omega | (simp only [List.length_append, List.length_cons, List.length_nil, List.length_take, List.length_drop, List.length_set, List.length_replicate, List.length_singleton]; omega))) only [↓if_dpos, ↓if_dneg, ↓if_epos, ↓if_eneg, ↓if_npos, ↓if_nneg, ↓if_pos, ↓if_neg, Int.toNat_natCast, List.nil_append, Nat.zero_add, List.length_singleton, Option.bind_some, List.drop_zero, List.take_length, if_true, if_false, hw, hlr]
      exact ih) fun i hi jh => by
    have hi1 : IntKind.i64.wrap ((i : Int) + 1) = ((i + 1 : Nat) : Int) := by rw [wrap_id (by omega) (by omega)]; omega
    have h1 : i * p + p ≤ e * p := by rw [← Nat.succ_mul]; exact Nat.mul_le_mul_right _ hi
    rw [Nat.mul_comm e p] at h1
    have h2 : IntKind.i64.wrap ((i : Int) * (p : Int)) = ((i * p : Nat) : Int) := by rw [← Int.natCast_mul, wrap_id (by omega) (by omega)]
    have h3 : IntKind.i64.wrap (((i * p : Nat) : Int) + (q : Int)) = ((i * p + q : Nat) : Int) := by rw [wrap_id (by omega) (by omega)]; omega
    have hk := handN_length deck p q i
    rw [spec_Dealt_L9_eq]
    simp (disch := (first | omega | (simp only [List.length_append, List.length_cons, List.length_nil, List.length_take, List.length_drop, List.length_set, List.length_replicate, List.length_singleton]; omega))) only [↓if_dpos, ↓if_dneg, ↓if_epos, ↓if_eneg, ↓if_npos, ↓if_nneg, ↓if_pos, ↓if_neg, hi1, h2, h3, Int.toNat_natCast, List.nil_append, Nat.zero_add, List.length_singleton, Option.bind_some, List.drop_zero, List.take_length, if_true, if_false]
    rw [← jh, handN_succ]
  rw [spec_Dealt_L5_eq, if_pos (decide_eq_true (by omega))]
  exact hin 0 (Nat.zero_le _)
theorem spec_Dealt_ok (deck : List Int) (p e : Int) (hd : deck.length ≤ 2097152) : spec_Dealt deck p e = some (dealtM deck p e) := by
  rw [spec_Dealt_eq, spec_IsHand_ok _ (by omega), Option.bind_some, spec_l1In_ok, Option.bind_some, spec_l1In_ok, Option.bind_some, dealtM]
  have hz : (0 + deck.length) * 8 ≤ 140737488355328 := by omega
  cases hh : handM deck
  · simp; omega
  · cases h1 : inR p 1 6
    · simp; omega
    · cases h2 : inR e 0 20
      · simp; omega
      · simp [inR] at h1 h2
        have hpp : p = (p.toNat : Int) := by omega
        have hee : e = (e.toNat : Int) := by omega
        generalize p.toNat = P at hpp
        generalize e.toNat = E at hee
        subst hpp; subst hee
        have hpe : P * E ≤ 120 := Nat.mul_le_mul (by omega : P ≤ 6) (by omega : E ≤ 20)
        have wpe : IntKind.i64.wrap ((P : Int) * (E : Int)) = ((P * E : Nat) : Int) := by rw [← Int.natCast_mul, wrap_id (by omega) (by omega)]
        rw [wpe, ← Int.natCast_mul]
        simp only [Bool.not_true, Bool.false_eq_true, if_false, true_and]
        by_cases h3 : ((P * E : Nat) : Int) ≤ (deck.length : Int)
        · rw [if_neg (by simp; omega), if_pos h3]
          exact spec_Dealt_in deck P E (by omega) (by omega) (by omega) hd 0 (Nat.zero_le _)
        · rw [if_pos (by simp; omega), if_neg h3, if_pos hz]; rfl
def dealRow (deck : List Int) (p j : Nat) : List (List Int) := (List.range p).map fun (q : Nat) => handN deck p q ((j + (p - 1 - q)) / p)
theorem dealRow_length (deck : List Int) (p j : Nat) : (dealRow deck p j).length = p := by simp [dealRow]
theorem dealRow_get {deck : List Int} {p j q : Nat} (hq : q < p) : (dealRow deck p j).getD q [] = handN deck p q ((j + (p - 1 - q)) / p) := by
  rw [List.getD_eq_getElem?_getD, dealRow, List.getElem?_map, List.getElem?_range hq]; rfl
theorem div6 {p j q : Nat} (h1 : 1 ≤ p) (h6 : p ≤ 6) (hq : q < p) : (j + 1 + (p - 1 - q)) / p = (j + (p - 1 - q)) / p + (if q = j % p then 1 else 0) ∧ (q = j % p → (j + (p - 1 - q)) / p * p + q = j) := by
  have : p = 1 ∨ p = 2 ∨ p = 3 ∨ p = 4 ∨ p = 5 ∨ p = 6 := by omega
  rcases this with rfl | rfl | rfl | rfl | rfl | rfl <;> (constructor <;> (try split) <;> omega)
theorem deal_step {deck : List Int} {p j : Nat} (h1 : 1 ≤ p) (h6 : p ≤ 6) : (dealRow deck p j).set (j % p) ((dealRow deck p j).getD (j % p) [] ++ [deck.getD j 0]) = dealRow deck p (j + 1) := by
  have hq : j % p < p := Nat.mod_lt _ h1
  apply List.ext_getElem?
  intro k
  by_cases hk : k < p
  · obtain ⟨d1, d2⟩ := div6 (j := j) h1 h6 hk
    have e1 : (dealRow deck p (j + 1))[k]? = some (handN deck p k ((j + 1 + (p - 1 - k)) / p)) := by rw [dealRow, List.getElem?_map, List.getElem?_range hk]; rfl
    rw [e1, d1]
    by_cases c : k = j % p
    · rw [if_pos c, ← c, List.getElem?_set_self (by rw [dealRow_length]; exact hk), dealRow_get hk, handN_succ, d2 c]
    · rw [if_neg c, List.getElem?_set_ne (fun h => c h.symm), dealRow, List.getElem?_map, List.getElem?_range hk]; rfl
  · rw [List.getElem?_eq_none (by rw [List.length_set, dealRow_length]; omega), List.getElem?_eq_none (by rw [dealRow_length]; omega)]
theorem deal_zero (deck : List Int) {p : Nat} (h1 : 1 ≤ p) : dealRow deck p 0 = List.replicate p [] := by
  apply List.ext_getElem?
  intro k
  by_cases hk : k < p
  · rw [dealRow, List.getElem?_map, List.getElem?_range hk, List.getElem?_replicate, if_pos hk]
    have : (0 + (p - 1 - k)) / p = 0 := Nat.div_eq_of_lt (by omega)
    simp [this, handN]; omega
  · rw [List.getElem?_eq_none (by rw [dealRow_length]; omega), List.getElem?_eq_none (by simp; omega)]
theorem deal_all (deck : List Int) {p e : Nat} (h1 : 1 ≤ p) : dealRow deck p (p * e) = handsN deck p e := by
  unfold dealRow handsN
  apply List.map_congr_left
  intro q hq
  have hq := List.mem_range.1 hq
  have : (p * e + (p - 1 - q)) / p = e := by rw [Nat.mul_add_div (by omega), Nat.div_eq_of_lt (by omega)]; rfl
  rw [this]
theorem impl_Dealt_in (deck : List Int) (p e : Nat) (hp1 : 1 ≤ p) (hp : p ≤ 6) (he : e ≤ 20) (hl : p * e ≤ deck.length) (hd : deck.length ≤ 2097152) : ∀ j, j ≤ p * e → impl_Dealt_L5 deck p e (deck.take (p * e)) ((p * e : Nat) : Int) j (dealRow deck p j) = some (handsN deck p e, deck.drop (p * e), true) := by
  have hpe : p * e ≤ 120 := Nat.mul_le_mul hp he
  have wpe : IntKind.i64.wrap ((p : Int) * (e : Int)) = ((p * e : Nat) : Int) := by rw [← Int.natCast_mul, wrap_id (by omega) (by omega)]
  have hc := impl_copyOf_ok (deck.drop (p * e)) (by simp; omega)
  refine down (by
    rw [deal_all deck hp1]
    rw [impl_Dealt_L5_eq]
    simp (disch := (first | omega | (simp only [List.length_append, List.length_cons, List.length_nil, List.length_take, List.length_drop, List.length_set, List.length_replicate, List.length_singleton]; omega))) only [↓if_dpos, ↓if_dneg, ↓if_epos, ↓if_eneg, ↓if_npos, ↓if_nneg, ↓if_pos, ↓if_neg, Int.toNat_natCast, List.nil_append, Nat.zero_add, List.length_singleton, Option.bind_some, List.drop_zero, List.take_length, if_true, if_false, wpe, hc]) fun j hj ih => ?_
  have hw : IntKind.i64.wrap ((j : Int) + 1) = ((j + 1 : Nat) : Int) := by rw [wrap_id (by omega) (by omega)]; omega
  have hm : (j : Int).tmod (p : Int) = ((j % p : Nat) : Int) := by rw [Int.tmod_eq_emod_of_nonneg (by omega)]; rfl
  have hq : j % p < p := Nat.mod_lt _ hp1
  have hk := dealRow_length deck p j
  have hdp : (j + (p - 1 - j % p)) / p ≤ j + p := Nat.le_trans (Nat.div_le_self _ _) (by omega)
  have hg : ((dealRow deck p j).getD (j % p) []).length ≤ j + p := by rw [dealRow_get hq, handN_length]; exact hdp
  have ht : (deck.take (p * e)).length = p * e := by simp; omega
  have htg : (deck.take (p * e)).getD j 0 = deck.getD j 0 := by
    rw [List.getD_eq_getElem?_getD, List.getElem?_take_of_lt hj, ← List.getD_eq_getElem?_getD]
  rw [impl_Dealt_L5_eq]
  simp (disch := (first | omega | (simp only [List.length_append, List.length_cons, List.length_nil, List.length_take, List.length_drop, List.length_set, List.length_replicate, List.length_singleton]; omega))) only [↓if_dpos, ↓if_dneg, ↓if_epos, ↓if_eneg, ↓if_npos, ↓if_nneg, ↓if_pos, ↓if_neg, hw, hm, Int.toNat_natCast, List.nil_append, Nat.zero_add, List.length_singleton, Option.bind_some, List.drop_zero, List.take_length, if_true, if_false, ht, htg, Nat.beq_refl, Bool.and_self, cond_true, List.set_set]
  rw [deal_step hp1 hp]
  exact ih
theorem impl_Dealt_ok (deck : List Int) (p e : Int) (hd : deck.length ≤ 2097152) : impl_Dealt deck p e = some (dealtM deck p e) := by
  rw [impl_Dealt_eq, impl_IsHand_ok _ (by omega), Option.bind_some, impl_InRange_ok, Option.bind_some, impl_InRange_ok, Option.bind_some, impl_copyOf_ok _ (by omega), Option.bind_some, dealtM]
  cases hh : handM deck
  · simp
  · cases h1 : inR p 1 6
    · simp
    · cases h2 : inR e 0 20
      · simp
      · simp [inR] at h1 h2
        have hpp : p = (p.toNat : Int) := by omega
        have hee : e = (e.toNat : Int) := by omega
        generalize p.toNat = P at hpp
        generalize e.toNat = E at hee
        subst hpp; subst hee
        have hpe : P * E ≤ 120 := Nat.mul_le_mul (by omega : P ≤ 6) (by omega : E ≤ 20)
        have wpe : IntKind.i64.wrap ((P : Int) * (E : Int)) = ((P * E : Nat) : Int) := by rw [← Int.natCast_mul, wrap_id (by omega) (by omega)]
        rw [wpe, ← Int.natCast_mul]
        simp only [Bool.not_true, Bool.false_eq_true, if_false, true_and]
        by_cases h3 : ((P * E : Nat) : Int) ≤ (deck.length : Int)
        · rw [if_neg (by simp; omega), if_pos h3]
          have ht : (deck.take (P * E)).length = P * E := by simp; omega
          simp (disch := (first | omega | (simp only [List.length_append, List.length_cons, List.length_nil, List.length_take, List.length_drop, List.length_set, List.length_replicate, List.length_singleton]; omega))) only [↓if_dpos, ↓if_dneg, ↓if_epos, ↓if_eneg, ↓if_npos, ↓if_nneg, ↓if_pos, ↓if_neg, Int.toNat_natCast, List.nil_append, Nat.zero_add, List.length_singleton, Option.bind_some, List.drop_zero, List.take_length, if_true, if_false, ht]
          rw [← deal_zero deck (by omega)]
          exact impl_Dealt_in deck P E (by omega) (by omega) (by omega) (by omega) hd 0 (Nat.zero_le _)
        · rw [if_pos (by simp; omega), if_neg h3]
end Go.Proofs.Ytoioaijpdiglfaa.V
