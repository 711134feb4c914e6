/- Plain laws over the shapes. -/
import Derived.Test.YtoioaijpdiglfaaPPT
import Derived.Test.YtoioaijpdiglfaaS1
import Derived.Test.YtoioaijpdiglfaaS2
import Derived.Test.YtoioaijpdiglfaaS4
set_option linter.unusedVariables false
set_option linter.unusedSimpArgs false
set_option maxRecDepth 10000
namespace Go.Proofs.Ytoioaijpdiglfaa.V
open Go
def handN (deck : List Int) (p q n : Nat) : List Int := (List.range n).map fun (i : Nat) => deck.getD (i * p + q) 0
def handsN (deck : List Int) (p e : Nat) : List (List Int) := (List.range p).map fun (q : Nat) => handN deck p q e
theorem handN_length (deck : List Int) (p q n : Nat) : (handN deck p q n).length = n := by simp [handN]
theorem handsN_length (deck : List Int) (p e : Nat) : (handsN deck p e).length = p := by simp [handsN]
theorem handN_succ (deck : List Int) (p q n : Nat) : handN deck p q (n + 1) = handN deck p q n ++ [deck.getD (n * p + q) 0] := by simp [handN, List.range_succ]
def dealtM (deck : List Int) (p e : Int) : List (List Int) × List Int × Bool :=
  if handM deck = true ∧ inR p 1 6 = true ∧ inR e 0 20 = true ∧ p * e ≤ (deck.length : Int) then (handsN deck p.toNat e.toNat, deck.drop (p.toNat * e.toNat), true) else ([], deck, false)
theorem spec_Dealt_in (deck : List Int) (p e : Nat) (hp : p ≤ 6) (he : e ≤ 20) (hl : p * e ≤ deck.length) (hd : deck.length ≤ 2097152) : ∀ q, q ≤ p → spec_Dealt_L5 deck p e q ((List.range q).map fun (q : Nat) => handN deck p q e) = some (handsN deck p e, deck.drop (p * e), true) := by
  have hpe : p * e ≤ 120 := Nat.mul_le_mul hp he
  have wpe : IntKind.i64.wrap ((p : Int) * (e : Int)) = ((p * e : Nat) : Int) := by rw [← Int.natCast_mul, wrap_id (by omega) (by omega)]
  refine down (by
    rw [spec_Dealt_L5_eq]
    simp (disch := (first | omega | (simp only [List.length_append, List.length_cons, List.length_nil, List.length_take, List.length_drop, List.length_set, List.length_replicate, List.length_singleton]; omega))) only [↓if_dpos, ↓if_dneg, ↓if_epos, ↓if_eneg, ↓if_npos, ↓if_nneg, ↓if_pos, ↓if_neg, Int.toNat_natCast, List.nil_append, Nat.zero_add, List.length_singleton, Option.bind_some, List.drop_zero, List.take_length, if_true, if_false, wpe]
    rfl) fun q hq ih => ?_
  have hw : IntKind.i64.wrap ((q : Int) + 1) = ((q + 1 : Nat) : Int) := by rw [wrap_id (by omega) (by omega)]; omega
  have hin : ∀ i, i ≤ e → spec_Dealt_L9 deck p e q i ((List.range q).map fun (q : Nat) => handN deck p q e) (handN deck p q i) = some (handsN deck p e, deck.drop (p * e), true) := down (by
      rw [List.range_succ, List.map_append] at ih
      have hlr : ((List.range q).map fun (q : Nat) => handN deck p q e).length = q := by simp
      rw [spec_Dealt_L9_eq]
      simp (disch := (first | omega | (simp only [List.length_append, List.length_cons, List.length_nil, List.length_take, List.length_drop, List.length_set, List.length_replicate, List.length_singleton]; omega))) only [↓if_dpos, ↓if_dneg, ↓if_epos, ↓if_eneg, ↓if_npos, ↓if_nneg, ↓if_pos, ↓if_neg, Int.toNat_natCast, List.nil_append, Nat.zero_add, List.length_singleton, Option.bind_some, List.drop_zero, List.take_length, if_true, if_false, hw, hlr]
      exact ih) fun i hi jh => by
    have hi1 : IntKind.i64.wrap ((i : Int) + 1) = ((i + 1 : Nat) : Int) := by rw [wrap_id (by omega) (by omega)]; omega
    have h1 : i * p + p ≤ e * p := by rw [← Nat.succ_mul]; exact Nat.mul_le_mul_right _ hi
    rw [Nat.mul_comm e p] at h1
    have h2 : IntKind.i64.wrap ((i : Int) * (p : Int)) = ((i * p : Nat) : Int) := by rw [← Int.natCast_mul, wrap_id (by omega) (by omega)]
    have h3 : IntKind.i64.wrap (((i * p : Nat) : Int) + (q : Int)) = ((i * p + q : Nat) : Int) := by rw [wrap_id (by omega) (by omega)]; omega
    have hk := handN_length deck p q i
    rw [spec_Dealt_L9_eq]
    simp (disch := (first | omega | (simp only [List.length_append, List.length_cons, List.length_nil, List.length_take, List.length_drop, List.length_set, List.length_replicate, List.length_singleton]; omega))) only [↓if_dpos, ↓if_dneg, ↓if_epos, ↓if_eneg, ↓if_npos, ↓if_nneg, ↓if_pos, ↓if_neg, hi1, h2, h3, Int.toNat_natCast, List.nil_append, Nat.zero_add, List.length_singleton, Option.bind_some, List.drop_zero, List.take_length, if_true, if_false]
    rw [← jh, handN_succ]
  rw [spec_Dealt_L5_eq, if_pos (decide_eq_true (by omega))]
  exact hin 0 (Nat.zero_le _)
theorem spec_Dealt_ok (deck : List Int) (p e : Int) (hd : deck.length ≤ 2097152) : spec_Dealt deck p e = some (dealtM deck p e) := by
  rw [spec_Dealt_eq, spec_IsHand_ok _ (by omega), Option.bind_some, spec_l1In_ok, Option.bind_some, spec_l1In_ok, Option.bind_some, dealtM]
  have hz : (0 + deck.length) * 8 ≤ 140737488355328 := by omega
  cases hh : handM deck
  · simp; omega
  · cases h1 : inR p 1 6
    · simp; omega
    · cases h2 : inR e 0 20
      · simp; omega
      · simp [inR] at h1 h2
        have hpp : p = (p.toNat : Int) := by omega
        have hee : e = (e.toNat : Int) := by omega
        generalize p.toNat = P at hpp
        generalize e.toNat = E at hee
        subst hpp; subst hee
        have hpe : P * E ≤ 120 := Nat.mul_le_mul (by omega : P ≤ 6) (by omega : E ≤ 20)
        have wpe : IntKind.i64.wrap ((P : Int) * (E : Int)) = ((P * E : Nat) : Int) := by rw [← Int.natCast_mul, wrap_id (by omega) (by omega)]
        rw [wpe, ← Int.natCast_mul]
        simp only [Bool.not_true, Bool.false_eq_true, if_false, true_and]
        by_cases h3 : ((P * E : Nat) : Int) ≤ (deck.length : Int)
        · rw [if_neg (by simp; omega), if_pos h3]
          exact spec_Dealt_in deck P E (by omega) (by omega) (by omega) hd 0 (Nat.zero_le _)
        · rw [if_pos (by simp; omega), if_neg h3, if_pos hz]; rfl
def dealRow (deck : List Int) (p j : Nat) : List (List Int) := (List.range p).map fun (q : Nat) => handN deck p q ((j + (p - 1 - q)) / p)
theorem dealRow_length (deck : List Int) (p j : Nat) : (dealRow deck p j).length = p := by simp [dealRow]
theorem dealRow_get {deck : List Int} {p j q : Nat} (hq : q < p) : (dealRow deck p j).getD q [] = handN deck p q ((j + (p - 1 - q)) / p) := by
  rw [List.getD_eq_getElem?_getD, dealRow, List.getElem?_map, List.getElem?_range hq]; rfl
theorem div6 {p j q : Nat} (h1 : 1 ≤ p) (h6 : p ≤ 6) (hq : q < p) : (j + 1 + (p - 1 - q)) / p = (j + (p - 1 - q)) / p + (if q = j % p then 1 else 0) ∧ (q = j % p → (j + (p - 1 - q)) / p * p + q = j) := by
  have : p = 1 ∨ p = 2 ∨ p = 3 ∨ p = 4 ∨ p = 5 ∨ p = 6 := by omega
  rcases this with rfl | rfl | rfl | rfl | rfl | rfl <;> (constructor <;> (try split) <;> omega)
theorem deal_step {deck : List Int} {p j : Nat} (h1 : 1 ≤ p) (h6 : p ≤ 6) : (dealRow deck p j).set (j % p) ((dealRow deck p j).getD (j % p) [] ++ [deck.getD j 0]) = dealRow deck p (j + 1) := by
  have hq : j % p < p := Nat.mod_lt _ h1
  apply List.ext_getElem?
  intro k
  by_cases hk : k < p
  · obtain ⟨d1, d2⟩ := div6 (j := j) h1 h6 hk
    have e1 : (dealRow deck p (j + 1))[k]? = some (handN deck p k ((j + 1 + (p - 1 - k)) / p)) := by rw [dealRow, List.getElem?_map, List.getElem?_range hk]; rfl
    rw [e1, d1]
    by_cases c : k = j % p
    · rw [if_pos c, ← c, List.getElem?_set_self (by rw [dealRow_length]; exact hk), dealRow_get hk, handN_succ, d2 c]
    · rw [if_neg c, List.getElem?_set_ne (fun h => c h.symm), dealRow, List.getElem?_map, List.getElem?_range hk]; rfl
  · rw [List.getElem?_eq_none (by rw [List.length_set, dealRow_length]; omega), List.getElem?_eq_none (by rw [dealRow_length]; omega)]
theorem deal_zero (deck : List Int) {p : Nat} (h1 : 1 ≤ p) : dealRow deck p 0 = List.replicate p [] := by
  apply List.ext_getElem?
  intro k
  by_cases hk : k < p
  · rw [dealRow, List.getElem?_map, List.getElem?_range hk, List.getElem?_replicate, if_pos hk]
    have : (0 + (p - 1 - k)) / p = 0 := Nat.div_eq_of_lt (by omega)
    simp [this, handN]; omega
  · rw [List.getElem?_eq_none (by rw [dealRow_length]; omega), List.getElem?_eq_none (by simp; omega)]
theorem deal_all (deck : List Int) {p e : Nat} (h1 : 1 ≤ p) : dealRow deck p (p * e) = handsN deck p e := by
  unfold dealRow handsN
  apply List.map_congr_left
  intro q hq
  have hq := List.mem_range.1 hq
  have : (p * e + (p - 1 - q)) / p = e := by rw [Nat.mul_add_div (by omega), Nat.div_eq_of_lt (by omega)]; rfl
  rw [this]
theorem impl_Dealt_in (deck : List Int) (p e : Nat) (hp1 : 1 ≤ p) (hp : p ≤ 6) (he : e ≤ 20) (hl : p * e ≤ deck.length) (hd : deck.length ≤ 2097152) : ∀ j, j ≤ p * e → impl_Dealt_L5 deck p e (deck.take (p * e)) ((p * e : Nat) : Int) j (dealRow deck p j) = some (handsN deck p e, deck.drop (p * e), true) := by
  have hpe : p * e ≤ 120 := Nat.mul_le_mul hp he
  have wpe : IntKind.i64.wrap ((p : Int) * (e : Int)) = ((p * e : Nat) : Int) := by rw [← Int.natCast_mul, wrap_id (by omega) (by omega)]
  have hc := impl_copyOf_ok (deck.drop (p * e)) (by simp; omega)
  refine down (by
    rw [deal_all deck hp1]
    rw [impl_Dealt_L5_eq]
    simp (disch := (first | omega | (simp only [List.length_append, List.length_cons, List.length_nil, List.length_take, List.length_drop, List.length_set, List.length_replicate, List.length_singleton]; omega))) only [↓if_dpos, ↓if_dneg, ↓if_epos, ↓if_eneg, ↓if_npos, ↓if_nneg, ↓if_pos, ↓if_neg, Int.toNat_natCast, List.nil_append, Nat.zero_add, List.length_singleton, Option.bind_some, List.drop_zero, List.take_length, if_true, if_false, wpe, hc]) fun j hj ih => ?_
  have hw : IntKind.i64.wrap ((j : Int) + 1) = ((j + 1 : Nat) : Int) := by rw [wrap_id (by omega) (by omega)]; omega
  have hm : (j : Int).tmod (p : Int) = ((j % p : Nat) : Int) := by rw [Int.tmod_eq_emod_of_nonneg (by omega)]; rfl
  have hq : j % p < p := Nat.mod_lt _ hp1
  have hk := dealRow_length deck p j
  have hdp : (j + (p - 1 - j % p)) / p ≤ j + p := Nat.le_trans (Nat.div_le_self _ _) (by omega)
  have hg : ((dealRow deck p j).getD (j % p) []).length ≤ j + p := by rw [dealRow_get hq, handN_length]; exact hdp
  have ht : (deck.take (p * e)).length = p * e := by simp; omega
  have htg : (deck.take (p * e)).getD j 0 = deck.getD j 0 := by
    rw [List.getD_eq_getElem?_getD, List.getElem?_take_of_lt hj, ← List.getD_eq_getElem?_getD]
  rw [impl_Dealt_L5_eq]
  simp (disch := (first | omega | (simp only [List.length_append, List.length_cons, List.length_nil, List.length_take, List.length_drop, List.length_set, List.length_replicate, List.length_singleton]; omega))) only [↓if_dpos, ↓if_dneg, ↓if_epos, ↓if_eneg, ↓if_npos, ↓if_nneg, ↓if_pos, ↓if_neg, hw, hm, Int.toNat_natCast, List.nil_append, Nat.zero_add, List.length_singleton, Option.bind_some, List.drop_zero, List.take_length, if_true, if_false, ht, htg, Nat.beq_refl, Bool.and_self, cond_true, List.set_set]
  rw [deal_step hp1 hp]
  exact ih
theorem impl_Dealt_ok (deck : List Int) (p e : Int) (hd : deck.length ≤ 2097152) : impl_Dealt deck p e = some (dealtM deck p e) := by
  rw [impl_Dealt_eq, impl_IsHand_ok _ (by omega), Option.bind_some, impl_InRange_ok, Option.bind_some, impl_InRange_ok, Option.bind_some, impl_copyOf_ok _ (by omega), Option.bind_some, dealtM]
  cases hh : handM deck
  · simp
  · cases h1 : inR p 1 6
    · simp
    · cases h2 : inR e 0 20
      · simp
      · simp [inR] at h1 h2
        have hpp : p = (p.toNat : Int) := by omega
        have hee : e = (e.toNat : Int) := by omega
        generalize p.toNat = P at hpp
        generalize e.toNat = E at hee
        subst hpp; subst hee
        have hpe : P * E ≤ 120 := Nat.mul_le_mul (by omega : P ≤ 6) (by omega : E ≤ 20)
        have wpe : IntKind.i64.wrap ((P : Int) * (E : Int)) = ((P * E : Nat) : Int) := by rw [← Int.natCast_mul, wrap_id (by omega) (by omega)]
        rw [wpe, ← Int.natCast_mul]
        simp only [Bool.not_true, Bool.false_eq_true, if_false, true_and]
        by_cases h3 : ((P * E : Nat) : Int) ≤ (deck.length : Int)
        · rw [if_neg (by simp; omega), if_pos h3]
          have ht : (deck.take (P * E)).length = P * E := by simp; omega
          simp (disch := (first | omega | (simp only [List.length_append, List.length_cons, List.length_nil, List.length_take, List.length_drop, List.length_set, List.length_replicate, List.length_singleton]; omega))) only [↓if_dpos, ↓if_dneg, ↓if_epos, ↓if_eneg, ↓if_npos, ↓if_nneg, ↓if_pos, ↓if_neg, Int.toNat_natCast, List.nil_append, Nat.zero_add, List.length_singleton, Option.bind_some, List.drop_zero, List.take_length, if_true, if_false, ht]
          rw [← deal_zero deck (by omega)]
          exact impl_Dealt_in deck P E (by omega) (by omega) (by omega) (by omega) hd 0 (Nat.zero_le _)
        · rw [if_pos (by simp; omega), if_neg h3]
theorem perm_of_count {a b : List Int} (h : ∀ c, a.count c = b.count c) : a.Perm b := List.perm_iff_count.2 h
theorem flat_set (c : Int) : ∀ (hs : List (List Int)) (i : Nat) (r : List Int), i < hs.length → (hs.set i r).flatten.count c + (hs.getD i []).count c = hs.flatten.count c + r.count c
  | [], i, r, h => by simp at h
  | q :: hs, 0, r, h => by
    rw [List.set_cons_zero, List.flatten_cons, List.flatten_cons, List.count_append, List.count_append, List.getD_cons_zero]; omega
  | q :: hs, i + 1, r, h => by
    have := flat_set c hs i r (by simpa using h)
    rw [List.set_cons_succ, List.flatten_cons, List.flatten_cons, List.count_append, List.count_append, List.getD_cons_succ]; omega
theorem inR_iff {x a b : Int} : inR x a b = true ↔ a ≤ x ∧ x ≤ b := by simp [inR]
theorem gameM_iff (a0 a1 : Int) (a2 a3 : Bool) (a4 a5 : List Int) (a6 a7 : Int) (hs : List (List Int)) (st hp : List Int) (tu mo pa : Int) : gameM a0 a1 a2 a3 a4 a5 a6 a7 hs st hp tu mo pa = true ↔ rulesM a0 a1 a2 a3 a4 a5 a6 a7 = true ∧ (hs.length : Int) = a0 ∧ 0 < hp.length ∧ (0 ≤ tu ∧ tu ≤ a0 - 1) ∧ (0 ≤ mo ∧ mo ≤ a7) ∧ (0 ≤ pa ∧ pa ≤ mo) ∧ wholeL (allM hs st hp) = true := by
  simp only [gameM, Bool.and_eq_true, decide_eq_true_eq, inR_iff]
theorem allM_count (c : Int) (hs : List (List Int)) (st hp : List Int) : (allM hs st hp).count c = st.count c + hp.count c + hs.flatten.count c := by simp only [allM, List.count_append]
/-- A game of the same cards. -/
theorem game_next (a0 a1 : Int) (a2 a3 : Bool) (a4 a5 : List Int) (a6 a7 : Int) (hs : List (List Int)) (st hp : List Int) (tu mo pa : Int) {hs' : List (List Int)} {st' hp' : List Int} {tu' mo' pa' : Int} (h : gameM a0 a1 a2 a3 a4 a5 a6 a7 hs st hp tu mo pa = true) (hl : hs'.length = hs.length) (h0 : 0 < hp'.length) (h1 : 0 ≤ tu' ∧ tu' ≤ a0 - 1) (h2 : 0 ≤ mo' ∧ mo' ≤ a7) (h3 : 0 ≤ pa' ∧ pa' ≤ mo')
    (hc : ∀ c, st'.count c + hp'.count c + hs'.flatten.count c = st.count c + hp.count c + hs.flatten.count c) : gameM a0 a1 a2 a3 a4 a5 a6 a7 hs' st' hp' tu' mo' pa' = true := by
  obtain ⟨k1, k2, k3, k4, k5, k6, k7⟩ := (gameM_iff a0 a1 a2 a3 a4 a5 a6 a7 hs st hp tu mo pa).1 h
  refine (gameM_iff ..).2 ⟨k1, by rw [hl]; exact k2, h0, h1, h2, h3, ?_⟩
  rw [← k7]
  exact wholeL_perm (perm_of_count fun c => by rw [allM_count, allM_count]; exact hc c)
theorem tmod_turn {x p : Int} (hx : 0 ≤ x) (hp : 2 ≤ p) : 0 ≤ x.tmod p ∧ x.tmod p ≤ p - 1 := by
  rw [Int.tmod_eq_emod_of_nonneg hx]
  have := Int.emod_nonneg x (by omega : p ≠ 0)
  have := Int.emod_lt_of_pos x (by omega : 0 < p)
  omega
theorem over_no {a0 a7 : Int} {hs : List (List Int)} {mo pa : Int} (h : overM a0 a7 hs mo pa = false) : fstM hs 0 < 0 ∧ mo ≠ a7 ∧ pa < a0 := by
  simp only [overM, Bool.or_eq_false_iff, decide_eq_false_iff_not, beq_eq_false_iff_ne] at h
  exact ⟨by omega, h.2.1, by omega⟩
theorem row_sub {hs : List (List Int)} {i : Nat} (hi : i < hs.length) : (hs.getD i []).Sublist hs.flatten := by
  rw [List.getD_eq_getElem?_getD, List.getElem?_eq_getElem hi]
  exact List.sublist_flatten_of_mem (List.getElem_mem hi)
theorem game_row_nodup (a0 a1 : Int) (a2 a3 : Bool) (a4 a5 : List Int) (a6 a7 : Int) (hs : List (List Int)) (st hp : List Int) (tu mo pa : Int) (h : gameM a0 a1 a2 a3 a4 a5 a6 a7 hs st hp tu mo pa = true) {i : Nat} (hi : i < hs.length) : (hs.getD i []).Nodup := by
  have v := gameM_valid a0 a1 a2 a3 a4 a5 a6 a7 hs st hp tu mo pa h
  have hh := v.hand
  simp only [handM, Bool.and_eq_true, decide_eq_true_eq] at hh
  exact hh.2.sublist ((row_sub hi).trans (by unfold allM; exact List.sublist_append_right _ _))
theorem without_count {l : List Int} (hn : l.Nodup) {c : Int} (hc : c ∈ l) (x : Int) : (withoutM l c).count x + [c].count x = l.count x := by
  unfold withoutM
  have h1 : l.count c = 1 := by
    have := List.nodup_iff_count.1 hn c
    have := List.count_pos_iff.2 hc
    omega
  by_cases e : x = c
  · subst e
    rw [h1, List.count_eq_zero.2 (by rw [List.mem_filter]; simp)]
    simp
  · rw [List.count_filter (by simpa using e), (show [c].count x = 0 from List.count_eq_zero.2 (by simpa using e))]; omega
theorem without_length {l : List Int} (hn : l.Nodup) {c : Int} (hc : c ∈ l) : (withoutM l c).length + 1 = l.length := by
  have : (withoutM l c ++ [c]).Perm l := perm_of_count fun x => by rw [List.count_append]; exact without_count hn hc x
  have := this.length_eq
  rwa [List.length_append, List.length_singleton] at this
/-- What is known of a game behind a play. -/
theorem play_game (a0 a1 : Int) (a2 a3 : Bool) (a4 a5 : List Int) (a6 a7 : Int) (hs : List (List Int)) (st hp : List Int) (tu mo pa : Int) {c : Int} (hc : hasM (playM a0 a1 a2 a3 a4 a5 a6 a7 hs st hp tu mo pa) c = true) : gameM a0 a1 a2 a3 a4 a5 a6 a7 (hs.set tu.toNat (withoutM (hs.getD tu.toNat []) c)) st (hp ++ [c]) ((tu + (if skipM a0 a1 a2 a3 a4 a5 a6 a7 c = true then 2 else 1)).tmod a0) (mo + 1) 0 = true ∧ (withoutM (hs.getD tu.toNat []) c).length + 1 = (hs.getD tu.toNat []).length ∧ tu.toNat < hs.length := by
  obtain ⟨hg, ho, hm⟩ := playM_has a0 a1 a2 a3 a4 a5 a6 a7 hs st hp tu mo pa hc
  obtain ⟨k1, k2, k3, k4, k5, k6, k7⟩ := (gameM_iff a0 a1 a2 a3 a4 a5 a6 a7 hs st hp tu mo pa).1 hg
  obtain ⟨o1, o2, o3⟩ := over_no ho
  have hp0 := rulesM_players a0 a1 a2 a3 a4 a5 a6 a7 hs st hp tu mo pa k1
  have hi : tu.toNat < hs.length := by omega
  have hn := game_row_nodup a0 a1 a2 a3 a4 a5 a6 a7 hs st hp tu mo pa hg hi
  refine ⟨game_next a0 a1 a2 a3 a4 a5 a6 a7 hs st hp tu mo pa hg (by simp) (by simp) (tmod_turn (by split <;> omega) hp0.1) (by omega) (by omega) fun x => ?_, without_length hn hm, hi⟩
  have e1 := flat_set x hs tu.toNat (withoutM (hs.getD tu.toNat []) c) hi
  have e2 := without_count hn hm x
  rw [List.count_append]
  omega
theorem takeR_count (x : Int) (tu : Nat) : ∀ n t (hs : List (List Int)) (st hp : List Int), tu < hs.length → 0 < hp.length → (takeR tu n t hs st hp).2.2.1.count x + (takeR tu n t hs st hp).2.2.2.count x + (takeR tu n t hs st hp).2.1.flatten.count x = st.count x + hp.count x + hs.flatten.count x ∧ 0 < (takeR tu n t hs st hp).2.2.2.length ∧ (takeR tu n t hs st hp).2.1.length = hs.length ∧ (hs.getD tu []).length ≤ ((takeR tu n t hs st hp).2.1.getD tu []).length ∧ ((takeR tu n t hs st hp).2.1.getD tu []).length ≤ (hs.getD tu []).length + n := by
  have at' : ∀ {hs : List (List Int)} {r : List Int}, tu < hs.length → (hs.set tu r).getD tu [] = r := fun h => by
    rw [List.getD_eq_getElem?_getD, List.getElem?_set_self h]; rfl
  intro n
  induction n with
  | zero => intro t hs st hp h1 h2; exact ⟨rfl, h2, rfl, Nat.le_refl _, Nat.le_refl _⟩
  | succ n ih =>
    intro t hs st hp h1 h2
    rw [takeR]
    by_cases c1 : st.length = 0
    · have hst : st = [] := List.length_eq_zero_iff.1 c1
      rw [if_pos c1]
      have hsplit : hp.count x = (hp.take (hp.length - 1)).count x + (hp.drop (hp.length - 1)).count x := by
        rw [← List.count_append, List.take_append_drop]
      by_cases c2 : hp.length - 1 = 0
      · rw [if_pos c2]
        refine ⟨?_, by show 0 < (hp.drop _).length; rw [List.length_drop]; omega, rfl, Nat.le_refl _, by dsimp only; omega⟩
        subst hst
        dsimp only
        rw [hsplit]; simp
      · rw [if_neg c2]
        have hne : 0 < (hp.take (hp.length - 1)).length := by rw [List.length_take]; omega
        obtain ⟨k1, k2, k3, k4, k5⟩ := ih (t + 1) (hs.set tu (hs.getD tu [] ++ [(hp.take (hp.length - 1)).getD 0 0])) ((hp.take (hp.length - 1)).drop 1) (hp.drop (hp.length - 1)) (by rw [List.length_set]; exact h1) (by rw [List.length_drop]; omega)
        rw [at' h1, List.length_append, List.length_singleton] at k4 k5
        refine ⟨?_, k2, by rw [k3, List.length_set], by omega, by omega⟩
        rw [k1]
        have e1 := flat_set x hs tu (hs.getD tu [] ++ [(hp.take (hp.length - 1)).getD 0 0]) h1
        have e2 : (hp.take (hp.length - 1)).count x = [(hp.take (hp.length - 1)).getD 0 0].count x + ((hp.take (hp.length - 1)).drop 1).count x := by
          rw [← List.count_append]
          congr 1
          exact (getD_drop (i := 0) (d := 0) hne)
        rw [List.count_append] at e1
        subst hst
        simp only [List.count_nil]
        omega
    · rw [if_neg c1]
      have hne : 0 < st.length := by omega
      obtain ⟨k1, k2, k3, k4, k5⟩ := ih (t + 1) (hs.set tu (hs.getD tu [] ++ [st.getD 0 0])) (st.drop 1) hp (by rw [List.length_set]; exact h1) h2
      rw [at' h1, List.length_append, List.length_singleton] at k4 k5
      refine ⟨?_, k2, by rw [k3, List.length_set], by omega, by omega⟩
      rw [k1]
      have e1 := flat_set x hs tu (hs.getD tu [] ++ [st.getD 0 0]) h1
      have e2 : st.count x = [st.getD 0 0].count x + (st.drop 1).count x := by
        rw [← List.count_append]
        congr 1
        exact (getD_drop (i := 0) (d := 0) hne)
      rw [List.count_append] at e1
      omega
/-- What is known of a game behind a taking. -/
theorem take_game (a0 a1 : Int) (a2 a3 : Bool) (a4 a5 : List Int) (a6 a7 : Int) (hs : List (List Int)) (st hp : List Int) (tu mo pa : Int) (hg : gameM a0 a1 a2 a3 a4 a5 a6 a7 hs st hp tu mo pa = true) (ho : overM a0 a7 hs mo pa = false) : gameM a0 a1 a2 a3 a4 a5 a6 a7 (takeR tu.toNat a6.toNat 0 hs st hp).2.1 (takeR tu.toNat a6.toNat 0 hs st hp).2.2.1 (takeR tu.toNat a6.toNat 0 hs st hp).2.2.2 ((tu + 1).tmod a0) (mo + 1) (passM pa (takeR tu.toNat a6.toNat 0 hs st hp).1) = true ∧ (hs.getD tu.toNat []).length ≤ ((takeR tu.toNat a6.toNat 0 hs st hp).2.1.getD tu.toNat []).length ∧ ((takeR tu.toNat a6.toNat 0 hs st hp).2.1.getD tu.toNat []).length ≤ (hs.getD tu.toNat []).length + a6.toNat ∧ tu.toNat < hs.length := by
  obtain ⟨k1, k2, k3, k4, k5, k6, k7⟩ := (gameM_iff a0 a1 a2 a3 a4 a5 a6 a7 hs st hp tu mo pa).1 hg
  obtain ⟨o1, o2, o3⟩ := over_no ho
  have hp0 := rulesM_players a0 a1 a2 a3 a4 a5 a6 a7 hs st hp tu mo pa k1
  have hi : tu.toNat < hs.length := by omega
  have hr := fun x => takeR_count x tu.toNat a6.toNat 0 hs st hp hi k3
  obtain ⟨_, r2, r3, r4, r5⟩ := hr 0
  have hpm : 0 ≤ passM pa (takeR tu.toNat a6.toNat 0 hs st hp).1 ∧ passM pa (takeR tu.toNat a6.toNat 0 hs st hp).1 ≤ mo + 1 := by
    unfold passM
    split <;> omega
  exact ⟨game_next a0 a1 a2 a3 a4 a5 a6 a7 hs st hp tu mo pa hg r3 r2 (tmod_turn (by omega) hp0.1) (by omega) hpm fun x => (hr x).1, r4, r5, hi⟩
def idxN (p e : Nat) : List (List Nat) := (List.range p).map fun q => (List.range e).map fun i => i * p + q
theorem idx_perm : ∀ p : Nat, p < 7 → ∀ e : Nat, e < 9 → (idxN p e).flatten.Perm (List.range (p * e)) := by decide +kernel
theorem map_range (deck : List Int) : ∀ n : Nat, n ≤ deck.length → (List.range n).map (fun i => deck.getD i 0) = deck.take n := by
  intro n
  induction n with
  | zero => intro _; rfl
  | succ n ih =>
    intro h
    rw [List.range_succ, List.map_append, ih (by omega), take_succ_getD (d := 0) (by omega)]; rfl
theorem hands_perm (deck : List Int) {p e : Nat} (hp : p < 7) (he : e < 9) (hl : p * e ≤ deck.length) : (handsN deck p e).flatten.Perm (deck.take (p * e)) := by
  have e1 : handsN deck p e = (idxN p e).map (List.map fun i => deck.getD i 0) := by
    simp [handsN, idxN, handN, Function.comp_def]
  rw [e1, ← List.map_flatten, ← map_range deck _ hl]
  exact (idx_perm p hp e he).map _
theorem fstM_none : ∀ (hs : List (List Int)) (i : Int), (∀ r ∈ hs, r.length ≠ 0) → fstM hs i = -1
  | [], i, h => rfl
  | r :: hs, i, h => by
    rw [fstM, if_neg (h r List.mem_cons_self)]
    exact fstM_none hs (i + 1) fun q hq => h q (List.mem_cons_of_mem _ hq)
/-- Small: so many cards at most. -/
def Sm (n : Nat) (a4 a5 : List Int) (hs : List (List Int)) (st hp : List Int) : Prop := a4.length ≤ 1000 ∧ a5.length ≤ 1000 ∧ hs.length ≤ 6 ∧ st.length + hp.length + hs.flatten.length ≤ n
theorem Sm.g2 {n : Nat} {a4 a5 : List Int} {hs : List (List Int)} {st hp : List Int} (h : Sm n a4 a5 hs st hp) (hn : n ≤ 1000) : G2 hs := G2.small (by have := h.2.2.1; omega) (n := n) (by have := h.2.2.2; omega) (by omega)
theorem Sm.mono {n m : Nat} {a4 a5 : List Int} {hs : List (List Int)} {st hp : List Int} (h : Sm n a4 a5 hs st hp) (hn : n ≤ m) : Sm m a4 a5 hs st hp := ⟨h.1, h.2.1, h.2.2.1, Nat.le_trans h.2.2.2 hn⟩
theorem game_small (a0 a1 : Int) (a2 a3 : Bool) (a4 a5 : List Int) (a6 a7 : Int) (hs : List (List Int)) (st hp : List Int) (tu mo pa : Int) (h : gameM a0 a1 a2 a3 a4 a5 a6 a7 hs st hp tu mo pa = true) (h4 : a4.length ≤ 1000) (h5 : a5.length ≤ 1000) : Sm 52 a4 a5 hs st hp := by
  have v := gameM_valid a0 a1 a2 a3 a4 a5 a6 a7 hs st hp tu mo pa h
  have v1 := v.all
  have v2 := v.players
  have v3 := v.p2
  exact ⟨h4, h5, by omega, by omega⟩
theorem newGame_ex (a0 a1 : Int) (a2 a3 : Bool) (a4 a5 : List Int) (a6 a7 : Int) (deck : List Int) (h4 : a4.length ≤ 1000) (h5 : a5.length ≤ 1000) (hd : deck.length ≤ 1000) :
    ∃ r, spec_NewGame a0 a1 a2 a3 a4 a5 a6 a7 deck = some r ∧ impl_NewGame a0 a1 a2 a3 a4 a5 a6 a7 deck = some r ∧ (r.2.2.2.2.2.2.2.2.2.2.2.2.2.2 = true → gameM r.1 r.2.1 r.2.2.1 r.2.2.2.1 r.2.2.2.2.1 r.2.2.2.2.2.1 r.2.2.2.2.2.2.1 r.2.2.2.2.2.2.2.1 r.2.2.2.2.2.2.2.2.1 r.2.2.2.2.2.2.2.2.2.1 r.2.2.2.2.2.2.2.2.2.2.1 r.2.2.2.2.2.2.2.2.2.2.2.1 r.2.2.2.2.2.2.2.2.2.2.2.2.1 r.2.2.2.2.2.2.2.2.2.2.2.2.2.1 = true ∧ overM r.1 r.2.2.2.2.2.2.2.1 r.2.2.2.2.2.2.2.2.1 r.2.2.2.2.2.2.2.2.2.2.2.2.1 r.2.2.2.2.2.2.2.2.2.2.2.2.2.1 = false) ∧ Sm 52 r.2.2.2.2.1 r.2.2.2.2.2.1 r.2.2.2.2.2.2.2.2.1 r.2.2.2.2.2.2.2.2.2.1 r.2.2.2.2.2.2.2.2.2.2.1 := by
  have sm0 : Sm 52 [] [] [] [] [] := ⟨Nat.zero_le _, Nat.zero_le _, Nat.zero_le _, Nat.zero_le _⟩
  rw [spec_NewGame_eq, impl_NewGame_eq, spec_IsRules_ok _ _ _ _ _ _ _ _ (by omega) (by omega), impl_IsRules_ok _ _ _ _ _ _ _ _ (by omega) (by omega), Option.bind_some, Option.bind_some, spec_IsHand_ok _ (by omega), impl_IsHand_ok _ (by omega), spec_l22Copy_ok _ _ _ _ _ _ _ _ (by omega) (by omega), impl_Rules_copied_ok _ _ _ _ _ _ _ _ (by omega) (by omega), spec_Dealt_ok _ _ _ (by omega), impl_Dealt_ok _ _ _ (by omega)]
  cases hr : rulesM a0 a1 a2 a3 a4 a5 a6 a7
  · exact ⟨_, rfl, rfl, (fun h => by cases h), sm0⟩
  · simp only [Bool.not_true, Bool.false_eq_true, if_false, Option.bind_some]
    cases hh : handM deck
    · exact ⟨_, rfl, rfl, (fun h => by cases h), sm0⟩
    · simp only [Bool.not_true, Bool.false_eq_true, if_false]
      by_cases hl : deck.length = 52
      · have k := hr
        simp only [rulesM, Bool.and_eq_true, inR_iff] at k
        obtain ⟨k1, k2, _, _, _, _, k7⟩ := k
        have j1 : inR a0 1 6 = true := inR_iff.2 (by omega)
        have j2 : inR a1 0 20 = true := inR_iff.2 (by omega)
        have hpe : a0.toNat * a1.toNat ≤ 48 := Nat.mul_le_mul (by omega : a0.toNat ≤ 6) (by omega : a1.toNat ≤ 8)
        have hpi : a0 * a1 = ((a0.toNat * a1.toNat : Nat) : Int) := by
          rw [Int.natCast_mul, Int.toNat_of_nonneg (by omega), Int.toNat_of_nonneg (by omega)]
        have e : dealtM deck a0 a1 = (handsN deck a0.toNat a1.toNat, deck.drop (a0.toNat * a1.toNat), true) := by
          rw [dealtM, if_pos ⟨hh, j1, j2, by omega⟩]
        have hperm := hands_perm deck (p := a0.toNat) (e := a1.toNat) (by omega) (by omega) (by omega)
        have hlen : (deck.drop (a0.toNat * a1.toNat)).length = 52 - a0.toNat * a1.toNat := by rw [List.length_drop, hl]
        have hcut : deck.take (a0.toNat * a1.toNat) ++ deck.drop (a0.toNat * a1.toNat) = deck := List.take_append_drop _ _
        have hrow : ∀ r ∈ handsN deck a0.toNat a1.toNat, r.length ≠ 0 := fun r hr2 => by
          unfold handsN at hr2
          obtain ⟨q, hq, e3⟩ := List.mem_map.1 hr2
          rw [← e3, handN_length]; omega
        have hhl := handsN_length deck a0.toNat a1.toNat
        rw [e]
        generalize deck.drop (a0.toNat * a1.toNat) = rest at *
        generalize handsN deck a0.toNat a1.toNat = hs at *
        have ht : rest.take 1 = [rest.getD 0 0] := by
          have hne : 0 < rest.length := by omega
          have := take_succ_getD (d := 0) hne
          simpa using this
        have ec := impl_copyOf_ok (rest.drop 1) (by rw [List.length_drop]; omega)
        rw [if_neg (by simp [hl])]
        dsimp only
        simp (disch := (first | omega | (simp only [List.length_append, List.length_cons, List.length_nil, List.length_take, List.length_drop, List.length_set, List.length_replicate, List.length_singleton]; omega))) only [↓if_dpos, ↓if_dneg, ↓if_epos, ↓if_eneg, ↓if_npos, ↓if_nneg, ↓if_pos, ↓if_neg, Int.toNat_natCast, List.nil_append, Nat.zero_add, List.length_singleton, Option.bind_some, List.drop_zero, List.take_length, if_true, if_false, ec, ht]
        have hgame : gameM a0 a1 a2 a3 a4 a5 a6 a7 hs (rest.drop 1) [rest.getD 0 0] 0 0 0 = true := by
          refine (gameM_iff ..).2 ⟨hr, by omega, Nat.zero_lt_one, by omega, by omega, by omega, ?_⟩
          have hp2 : (allM hs (rest.drop 1) [rest.getD 0 0]).Perm deck := perm_of_count fun c => by
            rw [allM_count, ← hcut, List.count_append, hperm.count_eq]
            have e2 : rest.count c = [rest.getD 0 0].count c + (rest.drop 1).count c := by
              rw [← List.count_append]
              congr 1
              exact getD_drop (i := 0) (d := 0) (by omega)
            omega
          rw [wholeL_perm hp2, wholeL, hh, decide_eq_true hl]; rfl
        refine ⟨_, rfl, rfl, fun _ => ⟨hgame, ?_⟩, game_small _ _ _ _ _ _ _ _ _ _ _ _ _ _ hgame h4 h5⟩
        dsimp only
        rw [overM, fstM_none hs 0 hrow]
        simp; omega
      · have hn : ((deck.length : Int) != 52) = true := by rw [bne_iff_ne]; omega
        simp only [hn, if_true]
        exact ⟨_, rfl, rfl, (fun h => by cases h), sm0⟩
end Go.Proofs.Ytoioaijpdiglfaa.V
