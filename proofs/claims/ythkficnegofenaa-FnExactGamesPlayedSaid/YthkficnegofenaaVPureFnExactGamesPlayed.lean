/- Plain laws over the shapes. -/
import Derived.Test.YthkficnegofenaaEWords
import Derived.Test.YthkficnegofenaaVShapeFnExactGamesPlayed
set_option linter.unusedVariables false
set_option linter.unusedSimpArgs false
namespace Go.Proofs.Ythkficnegofenaa.V
open Go
theorem laws_szIntS_ok (l : List Int) (b : Int) (hl : l.length ≤ 140737488355328) (hb : 0 ≤ b) (hb' : b ≤ 1048576) : laws_szIntS l b = some (if b < l.length then -1 else b - l.length) := by
  rw [laws_szIntS_eq, wrap_id (by omega) (by omega)]
  by_cases h : b < l.length
  · rw [if_pos (by simpa using (by omega : b - (l.length : Int) < 0)), if_pos h]
  · rw [if_neg (by simpa using (by omega : ¬ b - (l.length : Int) < 0)), if_neg h]
theorem laws_szIntS_sp (l : List Int) (b : Int) (hl : F1 l) (hb : 0 ≤ b) (hb' : b ≤ 1048576) : ∃ c, laws_szIntS l b = some c ∧ (c < 0 ∨ (0 ≤ c ∧ c ≤ b ∧ B1 b l)) := by
  unfold F1 at hl
  refine ⟨_, laws_szIntS_ok l b (by omega) hb hb', ?_⟩
  unfold B1
  split <;> omega
theorem laws_toIntS_ok (l : List Int) (hb : B1 1048576 l) : laws_toIntS l = some l := by
  have hl := hb.nat
  have h : ∀ i, i ≤ l.length → ∀ s : List Int, s.length = l.length → s.take i = l.take i → laws_toIntS_L3 l i s = some l := down (by
      intro s h1 h2
      rw [List.take_of_length_le (by omega), List.take_of_length_le (Nat.le_refl _)] at h2
      rw [laws_toIntS_L3_eq, if_neg (by simp), h2]) fun i hi ih s h1 h2 => by
    rw [laws_toIntS_L3_eq, if_pos (by simpa using hi), if_pos (by omega), if_pos (by omega), if_pos (by omega), if_pos (by omega), wrap_succ hi (by omega), Int.toNat_natCast]
    exact ih _ (by simpa using h1) (copy_set hi h1 h2)
  rw [laws_toIntS_eq, if_pos rfl, if_pos (by omega), if_pos (by rw [Int.toNat_natCast]; omega), Int.toNat_natCast]
  exact h 0 (Nat.zero_le _) _ (by simp) rfl
theorem laws_eqIntS_ok (l r : List Int) (hl : l.length ≤ 1048576) : laws_eqIntS l r = some (decide (l = r)) := by
  rw [laws_eqIntS_eq]
  by_cases hlen : l.length = r.length
  · rw [if_neg (by simp [hlen])]
    exact eq_loop (d := 0) (fun i => laws_eqIntS_L4 l r i) hlen (by show laws_eqIntS_L4 l r (l.length : Int) = _; rw [laws_eqIntS_L4_eq, if_neg (by simp)]) fun i hi => by
      show laws_eqIntS_L4 l r (i : Int) = _
      rw [laws_eqIntS_L4_eq, if_pos (by simpa using hi), if_pos (by omega), if_pos (by omega), if_pos (by omega), if_pos (by omega), wrap_succ hi (by omega), Int.toNat_natCast]
      by_cases e : l.getD i 0 = r.getD i 0
      · rw [if_neg (by simpa using e), if_pos e]
      · rw [if_pos (by simpa using e), if_neg e]
  · rw [if_pos (by simp; omega), decide_eq_false (fun e => hlen (by rw [e]))]
theorem laws_eqIntS_self (l : List Int) (hb : B1 1048576 l) : laws_eqIntS l l = some true := by rw [laws_eqIntS_ok l l hb.nat]; simp
theorem laws_szIntSS_sp (l : List (List Int)) (b : Int) (hl : F2 l) (hb : 0 ≤ b) (hb' : b ≤ 1048576) : ∃ c, laws_szIntSS l b = some c ∧ (c < 0 ∨ (0 ≤ c ∧ c ≤ b ∧ B2 b l)) := by
  have hl1 := hl.1
  rw [laws_szIntSS_eq, wrap_id (by omega) (by omega)]
  by_cases h : b - (l.length : Int) < 0
  · exact ⟨-1, by rw [if_pos (decide_eq_true h)], .inl (by decide)⟩
  rw [if_neg (by simpa using h)]
  have key : ∀ i, i ≤ l.length → ∀ c : Int, 0 ≤ c → c ≤ b → ∃ c', laws_szIntSS_L5 l c i = some c' ∧ (c' < 0 ∨ (0 ≤ c' ∧ c' ≤ b ∧ ∀ r ∈ l.drop i, (r.length : Int) ≤ b)) := down (by
      intro c h1 h2
      rw [laws_szIntSS_L5_eq, if_neg (by simp)]
      exact ⟨c, rfl, .inr ⟨h1, h2, by simp⟩⟩) fun i hi ih c h1 h2 => by
    obtain ⟨c1, e1, g⟩ := laws_szIntS_sp (l.getD i []) c (hl.2 _ (getD_mem hi)) h1 (by omega)
    rw [laws_szIntSS_L5_eq, if_pos (by simpa using hi), if_pos (by omega), if_pos (by omega), wrap_succ hi (by omega), Int.toNat_natCast, e1, Option.bind_some]
    rcases g with g | ⟨g1, g2, g3⟩
    · exact ⟨-1, by rw [if_pos (decide_eq_true g)], .inl (by decide)⟩
    rw [if_neg (by simp; omega)]
    obtain ⟨c2, e2, g⟩ := ih c1 g1 (by omega)
    refine ⟨c2, e2, g.imp id fun ⟨k1, k2, k3⟩ => ⟨k1, k2, ?_⟩⟩
    rw [getD_drop (d := []) hi]
    intro r hr
    rcases List.mem_cons.1 hr with e | e
    · rw [e]; exact Int.le_trans g3 h2
    · exact k3 r e
  obtain ⟨c', e, g⟩ := key 0 (Nat.zero_le _) (b - l.length) (by omega) (by omega)
  rw [Int.natCast_zero] at e
  exact ⟨c', e, g.imp id fun ⟨k1, k2, k3⟩ => ⟨k1, k2, by omega, by simpa using k3⟩⟩
theorem laws_toIntSS_ok (l : List (List Int)) (hb : B2 1048576 l) : laws_toIntSS l = some l := by
  have hl : l.length ≤ 1048576 := by have := hb.1; omega
  have h : ∀ i, i ≤ l.length → ∀ s : List (List Int), s.length = l.length → s.take i = l.take i → laws_toIntSS_L3 l i s = some l := down (by
      intro s h1 h2
      rw [List.take_of_length_le (by omega), List.take_of_length_le (Nat.le_refl _)] at h2
      rw [laws_toIntSS_L3_eq, if_neg (by simp), h2]) fun i hi ih s h1 h2 => by
    rw [laws_toIntSS_L3_eq, if_pos (by simpa using hi), if_pos (by omega), if_pos (by omega), Int.toNat_natCast, laws_toIntS_ok _ (hb.2 _ (getD_mem hi)), Option.bind_some, if_pos (by omega), if_pos (by omega), wrap_succ hi (by omega)]
    exact ih _ (by simpa using h1) (copy_set hi h1 h2)
  rw [laws_toIntSS_eq, if_pos rfl, if_pos (by omega), if_pos (by rw [Int.toNat_natCast]; omega), Int.toNat_natCast]
  exact h 0 (Nat.zero_le _) _ (by simp) rfl
theorem laws_eqIntSS_self (l : List (List Int)) (hb : B2 1048576 l) : laws_eqIntSS l l = some true := by
  have hl : l.length ≤ 1048576 := by have := hb.1; omega
  rw [laws_eqIntSS_eq, if_neg (by simp)]
  have h : ∀ i, i ≤ l.length → laws_eqIntSS_L4 l l i = some true := down (by rw [laws_eqIntSS_L4_eq, if_neg (by simp)]) fun i hi ih => by
    rw [laws_eqIntSS_L4_eq, if_pos (by simpa using hi), if_pos (by omega), if_pos (by omega), if_pos (by omega), if_pos (by omega), Int.toNat_natCast, laws_eqIntS_self _ (hb.2 _ (getD_mem hi)), Option.bind_some, if_neg (by simp), wrap_succ hi (by omega)]
    exact ih
  exact h 0 (Nat.zero_le _)
theorem laws_eqRules_self (a0_0 : Int) (a0_1 : Int) (a0_2 : Bool) (a0_3 : Bool) (a0_4 : List Int) (a0_5 : List Int) (a0_6 : Int) (a0_7 : Int) (ba0_4 : B1 1048576 a0_4) (ba0_5 : B1 1048576 a0_5) : laws_eqRules a0_0 a0_1 a0_2 a0_3 a0_4 a0_5 a0_6 a0_7 a0_0 a0_1 a0_2 a0_3 a0_4 a0_5 a0_6 a0_7 = some true := by
  rw [laws_eqRules_eq, laws_eqIntS_self a0_4 ba0_4, laws_eqIntS_self a0_5 ba0_5]
  simp

theorem laws_eqGame_self (a0_0 : Int) (a0_1 : Int) (a0_2 : Bool) (a0_3 : Bool) (a0_4 : List Int) (a0_5 : List Int) (a0_6 : Int) (a0_7 : Int) (a0_8 : List (List Int)) (a0_9 : List Int) (a0_10 : List Int) (a0_11 : Int) (a0_12 : Int) (a0_13 : Int) (ba0_4 : B1 1048576 a0_4) (ba0_5 : B1 1048576 a0_5) (ba0_8 : B2 1048576 a0_8) (ba0_9 : B1 1048576 a0_9) (ba0_10 : B1 1048576 a0_10) : laws_eqGame a0_0 a0_1 a0_2 a0_3 a0_4 a0_5 a0_6 a0_7 a0_8 a0_9 a0_10 a0_11 a0_12 a0_13 a0_0 a0_1 a0_2 a0_3 a0_4 a0_5 a0_6 a0_7 a0_8 a0_9 a0_10 a0_11 a0_12 a0_13 = some true := by
  rw [laws_eqGame_eq, laws_eqRules_self a0_0 a0_1 a0_2 a0_3 a0_4 a0_5 a0_6 a0_7 ba0_4 ba0_5, laws_eqIntSS_self a0_8 ba0_8, laws_eqIntS_self a0_9 ba0_9, laws_eqIntS_self a0_10 ba0_10]
  simp

theorem laws_eqTable_self (a0_0 : Int) (a0_1 : Int) (a0_2 : Bool) (a0_3 : Bool) (a0_4 : List Int) (a0_5 : List Int) (a0_6 : Int) (a0_7 : Int) (a0_8 : List Int) (a0_9 : Bool) (a0_10 : List Int) (a0_11 : Int) (a0_12 : Int) (a0_13 : Bool) (a0_14 : Bool) (a0_15 : List Int) (a0_16 : List Int) (a0_17 : Int) (a0_18 : Int) (a0_19 : List (List Int)) (a0_20 : List Int) (a0_21 : List Int) (a0_22 : Int) (a0_23 : Int) (a0_24 : Int) (a0_25 : List Int) (a0_26 : List (List Int)) (ba0_4 : B1 1048576 a0_4) (ba0_5 : B1 1048576 a0_5) (ba0_8 : B1 1048576 a0_8) (ba0_10 : B1 1048576 a0_10) (ba0_15 : B1 1048576 a0_15) (ba0_16 : B1 1048576 a0_16) (ba0_19 : B2 1048576 a0_19) (ba0_20 : B1 1048576 a0_20) (ba0_21 : B1 1048576 a0_21) (ba0_25 : B1 1048576 a0_25) (ba0_26 : B2 1048576 a0_26) : laws_eqTable a0_0 a0_1 a0_2 a0_3 a0_4 a0_5 a0_6 a0_7 a0_8 a0_9 a0_10 a0_11 a0_12 a0_13 a0_14 a0_15 a0_16 a0_17 a0_18 a0_19 a0_20 a0_21 a0_22 a0_23 a0_24 a0_25 a0_26 a0_0 a0_1 a0_2 a0_3 a0_4 a0_5 a0_6 a0_7 a0_8 a0_9 a0_10 a0_11 a0_12 a0_13 a0_14 a0_15 a0_16 a0_17 a0_18 a0_19 a0_20 a0_21 a0_22 a0_23 a0_24 a0_25 a0_26 = some true := by
  rw [laws_eqTable_eq, laws_eqRules_self a0_0 a0_1 a0_2 a0_3 a0_4 a0_5 a0_6 a0_7 ba0_4 ba0_5, laws_eqIntS_self a0_8 ba0_8, laws_eqIntS_self a0_10 ba0_10, laws_eqGame_self a0_11 a0_12 a0_13 a0_14 a0_15 a0_16 a0_17 a0_18 a0_19 a0_20 a0_21 a0_22 a0_23 a0_24 ba0_15 ba0_16 ba0_19 ba0_20 ba0_21, laws_eqIntS_self a0_25 ba0_25, laws_eqIntSS_self a0_26 ba0_26]
  simp

theorem laws_szRules_sp (a0_0 : Int) (a0_1 : Int) (a0_2 : Bool) (a0_3 : Bool) (a0_4 : List Int) (a0_5 : List Int) (a0_6 : Int) (a0_7 : Int) (a1 : Int) (fa0_4 : F1 a0_4) (fa0_5 : F1 a0_5) (hb : 0 ≤ a1) (hb' : a1 ≤ 1048576) :
    ∃ c, laws_szRules a0_0 a0_1 a0_2 a0_3 a0_4 a0_5 a0_6 a0_7 a1 = some c ∧ (c < 0 ∨ (0 ≤ c ∧ c ≤ a1 ∧ B1 a1 a0_4 ∧ B1 a1 a0_5)) := by
  rw [laws_szRules_eq]
  obtain ⟨c1, e1, h⟩ := laws_szIntS_sp a0_4 a1 fa0_4 (by omega) (by omega)
  rw [e1, Option.bind_some]
  rcases h with h | ⟨p1, q1, ra0_4⟩
  · exact ⟨-1, by rw [if_pos (decide_eq_true h)], .inl (by decide)⟩
  rw [if_neg (by simp; omega)]
  obtain ⟨c2, e2, h⟩ := laws_szIntS_sp a0_5 c1 fa0_5 (by omega) (by omega)
  rw [e2, Option.bind_some]
  rcases h with h | ⟨p2, q2, ra0_5⟩
  · exact ⟨-1, by rw [if_pos (decide_eq_true h)], .inl (by decide)⟩
  rw [if_neg (by simp; omega)]
  exact ⟨_, rfl, .inr ⟨by omega, by omega, ra0_4.mono (by omega), ra0_5.mono (by omega)⟩⟩

theorem laws_szGame_sp (a0_0 : Int) (a0_1 : Int) (a0_2 : Bool) (a0_3 : Bool) (a0_4 : List Int) (a0_5 : List Int) (a0_6 : Int) (a0_7 : Int) (a0_8 : List (List Int)) (a0_9 : List Int) (a0_10 : List Int) (a0_11 : Int) (a0_12 : Int) (a0_13 : Int) (a1 : Int) (fa0_4 : F1 a0_4) (fa0_5 : F1 a0_5) (fa0_8 : F2 a0_8) (fa0_9 : F1 a0_9) (fa0_10 : F1 a0_10) (hb : 0 ≤ a1) (hb' : a1 ≤ 1048576) :
    ∃ c, laws_szGame a0_0 a0_1 a0_2 a0_3 a0_4 a0_5 a0_6 a0_7 a0_8 a0_9 a0_10 a0_11 a0_12 a0_13 a1 = some c ∧ (c < 0 ∨ (0 ≤ c ∧ c ≤ a1 ∧ B1 a1 a0_4 ∧ B1 a1 a0_5 ∧ B2 a1 a0_8 ∧ B1 a1 a0_9 ∧ B1 a1 a0_10)) := by
  rw [laws_szGame_eq]
  obtain ⟨c1, e1, h⟩ := laws_szRules_sp a0_0 a0_1 a0_2 a0_3 a0_4 a0_5 a0_6 a0_7 a1 fa0_4 fa0_5 (by omega) (by omega)
  rw [e1, Option.bind_some]
  rcases h with h | ⟨p1, q1, ra0_4, ra0_5⟩
  · exact ⟨-1, by rw [if_pos (decide_eq_true h)], .inl (by decide)⟩
  rw [if_neg (by simp; omega)]
  obtain ⟨c2, e2, h⟩ := laws_szIntSS_sp a0_8 c1 fa0_8 (by omega) (by omega)
  rw [e2, Option.bind_some]
  rcases h with h | ⟨p2, q2, ra0_8⟩
  · exact ⟨-1, by rw [if_pos (decide_eq_true h)], .inl (by decide)⟩
  rw [if_neg (by simp; omega)]
  obtain ⟨c3, e3, h⟩ := laws_szIntS_sp a0_9 c2 fa0_9 (by omega) (by omega)
  rw [e3, Option.bind_some]
  rcases h with h | ⟨p3, q3, ra0_9⟩
  · exact ⟨-1, by rw [if_pos (decide_eq_true h)], .inl (by decide)⟩
  rw [if_neg (by simp; omega)]
  obtain ⟨c4, e4, h⟩ := laws_szIntS_sp a0_10 c3 fa0_10 (by omega) (by omega)
  rw [e4, Option.bind_some]
  rcases h with h | ⟨p4, q4, ra0_10⟩
  · exact ⟨-1, by rw [if_pos (decide_eq_true h)], .inl (by decide)⟩
  rw [if_neg (by simp; omega)]
  exact ⟨_, rfl, .inr ⟨by omega, by omega, ra0_4.mono (by omega), ra0_5.mono (by omega), ra0_8.mono (by omega), ra0_9.mono (by omega), ra0_10.mono (by omega)⟩⟩

theorem laws_szTable_sp (a0_0 : Int) (a0_1 : Int) (a0_2 : Bool) (a0_3 : Bool) (a0_4 : List Int) (a0_5 : List Int) (a0_6 : Int) (a0_7 : Int) (a0_8 : List Int) (a0_9 : Bool) (a0_10 : List Int) (a0_11 : Int) (a0_12 : Int) (a0_13 : Bool) (a0_14 : Bool) (a0_15 : List Int) (a0_16 : List Int) (a0_17 : Int) (a0_18 : Int) (a0_19 : List (List Int)) (a0_20 : List Int) (a0_21 : List Int) (a0_22 : Int) (a0_23 : Int) (a0_24 : Int) (a0_25 : List Int) (a0_26 : List (List Int)) (a1 : Int) (fa0_4 : F1 a0_4) (fa0_5 : F1 a0_5) (fa0_8 : F1 a0_8) (fa0_10 : F1 a0_10) (fa0_15 : F1 a0_15) (fa0_16 : F1 a0_16) (fa0_19 : F2 a0_19) (fa0_20 : F1 a0_20) (fa0_21 : F1 a0_21) (fa0_25 : F1 a0_25) (fa0_26 : F2 a0_26) (hb : 0 ≤ a1) (hb' : a1 ≤ 1048576) :
    ∃ c, laws_szTable a0_0 a0_1 a0_2 a0_3 a0_4 a0_5 a0_6 a0_7 a0_8 a0_9 a0_10 a0_11 a0_12 a0_13 a0_14 a0_15 a0_16 a0_17 a0_18 a0_19 a0_20 a0_21 a0_22 a0_23 a0_24 a0_25 a0_26 a1 = some c ∧ (c < 0 ∨ (0 ≤ c ∧ c ≤ a1 ∧ B1 a1 a0_4 ∧ B1 a1 a0_5 ∧ B1 a1 a0_8 ∧ B1 a1 a0_10 ∧ B1 a1 a0_15 ∧ B1 a1 a0_16 ∧ B2 a1 a0_19 ∧ B1 a1 a0_20 ∧ B1 a1 a0_21 ∧ B1 a1 a0_25 ∧ B2 a1 a0_26)) := by
  rw [laws_szTable_eq]
  obtain ⟨c1, e1, h⟩ := laws_szRules_sp a0_0 a0_1 a0_2 a0_3 a0_4 a0_5 a0_6 a0_7 a1 fa0_4 fa0_5 (by omega) (by omega)
  rw [e1, Option.bind_some]
  rcases h with h | ⟨p1, q1, ra0_4, ra0_5⟩
  · exact ⟨-1, by rw [if_pos (decide_eq_true h)], .inl (by decide)⟩
  rw [if_neg (by simp; omega)]
  obtain ⟨c2, e2, h⟩ := laws_szIntS_sp a0_8 c1 fa0_8 (by omega) (by omega)
  rw [e2, Option.bind_some]
  rcases h with h | ⟨p2, q2, ra0_8⟩
  · exact ⟨-1, by rw [if_pos (decide_eq_true h)], .inl (by decide)⟩
  rw [if_neg (by simp; omega)]
  obtain ⟨c3, e3, h⟩ := laws_szIntS_sp a0_10 c2 fa0_10 (by omega) (by omega)
  rw [e3, Option.bind_some]
  rcases h with h | ⟨p3, q3, ra0_10⟩
  · exact ⟨-1, by rw [if_pos (decide_eq_true h)], .inl (by decide)⟩
  rw [if_neg (by simp; omega)]
  obtain ⟨c4, e4, h⟩ := laws_szGame_sp a0_11 a0_12 a0_13 a0_14 a0_15 a0_16 a0_17 a0_18 a0_19 a0_20 a0_21 a0_22 a0_23 a0_24 c3 fa0_15 fa0_16 fa0_19 fa0_20 fa0_21 (by omega) (by omega)
  rw [e4, Option.bind_some]
  rcases h with h | ⟨p4, q4, ra0_15, ra0_16, ra0_19, ra0_20, ra0_21⟩
  · exact ⟨-1, by rw [if_pos (decide_eq_true h)], .inl (by decide)⟩
  rw [if_neg (by simp; omega)]
  obtain ⟨c5, e5, h⟩ := laws_szIntS_sp a0_25 c4 fa0_25 (by omega) (by omega)
  rw [e5, Option.bind_some]
  rcases h with h | ⟨p5, q5, ra0_25⟩
  · exact ⟨-1, by rw [if_pos (decide_eq_true h)], .inl (by decide)⟩
  rw [if_neg (by simp; omega)]
  obtain ⟨c6, e6, h⟩ := laws_szIntSS_sp a0_26 c5 fa0_26 (by omega) (by omega)
  rw [e6, Option.bind_some]
  rcases h with h | ⟨p6, q6, ra0_26⟩
  · exact ⟨-1, by rw [if_pos (decide_eq_true h)], .inl (by decide)⟩
  rw [if_neg (by simp; omega)]
  exact ⟨_, rfl, .inr ⟨by omega, by omega, ra0_4.mono (by omega), ra0_5.mono (by omega), ra0_8.mono (by omega), ra0_10.mono (by omega), ra0_15.mono (by omega), ra0_16.mono (by omega), ra0_19.mono (by omega), ra0_20.mono (by omega), ra0_21.mono (by omega), ra0_25.mono (by omega), ra0_26.mono (by omega)⟩⟩

theorem laws_toRules_ok (a0_0 : Int) (a0_1 : Int) (a0_2 : Bool) (a0_3 : Bool) (a0_4 : List Int) (a0_5 : List Int) (a0_6 : Int) (a0_7 : Int) (ba0_4 : B1 1048576 a0_4) (ba0_5 : B1 1048576 a0_5) : laws_toRules a0_0 a0_1 a0_2 a0_3 a0_4 a0_5 a0_6 a0_7 = some (a0_0, a0_1, a0_2, a0_3, a0_4, a0_5, a0_6, a0_7) := by
  rw [laws_toRules_eq, laws_toIntS_ok a0_4 ba0_4, Option.bind_some, laws_toIntS_ok a0_5 ba0_5, Option.bind_some]
  first | done | rfl

theorem laws_toGame_ok (a0_0 : Int) (a0_1 : Int) (a0_2 : Bool) (a0_3 : Bool) (a0_4 : List Int) (a0_5 : List Int) (a0_6 : Int) (a0_7 : Int) (a0_8 : List (List Int)) (a0_9 : List Int) (a0_10 : List Int) (a0_11 : Int) (a0_12 : Int) (a0_13 : Int) (ba0_4 : B1 1048576 a0_4) (ba0_5 : B1 1048576 a0_5) (ba0_8 : B2 1048576 a0_8) (ba0_9 : B1 1048576 a0_9) (ba0_10 : B1 1048576 a0_10) : laws_toGame a0_0 a0_1 a0_2 a0_3 a0_4 a0_5 a0_6 a0_7 a0_8 a0_9 a0_10 a0_11 a0_12 a0_13 = some (a0_0, a0_1, a0_2, a0_3, a0_4, a0_5, a0_6, a0_7, a0_8, a0_9, a0_10, a0_11, a0_12, a0_13) := by
  rw [laws_toGame_eq, laws_toRules_ok a0_0 a0_1 a0_2 a0_3 a0_4 a0_5 a0_6 a0_7 ba0_4 ba0_5, Option.bind_some, laws_toIntSS_ok a0_8 ba0_8, Option.bind_some, laws_toIntS_ok a0_9 ba0_9, Option.bind_some, laws_toIntS_ok a0_10 ba0_10, Option.bind_some]
  first | done | rfl

theorem laws_toTable_ok (a0_0 : Int) (a0_1 : Int) (a0_2 : Bool) (a0_3 : Bool) (a0_4 : List Int) (a0_5 : List Int) (a0_6 : Int) (a0_7 : Int) (a0_8 : List Int) (a0_9 : Bool) (a0_10 : List Int) (a0_11 : Int) (a0_12 : Int) (a0_13 : Bool) (a0_14 : Bool) (a0_15 : List Int) (a0_16 : List Int) (a0_17 : Int) (a0_18 : Int) (a0_19 : List (List Int)) (a0_20 : List Int) (a0_21 : List Int) (a0_22 : Int) (a0_23 : Int) (a0_24 : Int) (a0_25 : List Int) (a0_26 : List (List Int)) (ba0_4 : B1 1048576 a0_4) (ba0_5 : B1 1048576 a0_5) (ba0_8 : B1 1048576 a0_8) (ba0_10 : B1 1048576 a0_10) (ba0_15 : B1 1048576 a0_15) (ba0_16 : B1 1048576 a0_16) (ba0_19 : B2 1048576 a0_19) (ba0_20 : B1 1048576 a0_20) (ba0_21 : B1 1048576 a0_21) (ba0_25 : B1 1048576 a0_25) (ba0_26 : B2 1048576 a0_26) : laws_toTable a0_0 a0_1 a0_2 a0_3 a0_4 a0_5 a0_6 a0_7 a0_8 a0_9 a0_10 a0_11 a0_12 a0_13 a0_14 a0_15 a0_16 a0_17 a0_18 a0_19 a0_20 a0_21 a0_22 a0_23 a0_24 a0_25 a0_26 = some (a0_0, a0_1, a0_2, a0_3, a0_4, a0_5, a0_6, a0_7, a0_8, a0_9, a0_10, a0_11, a0_12, a0_13, a0_14, a0_15, a0_16, a0_17, a0_18, a0_19, a0_20, a0_21, a0_22, a0_23, a0_24, a0_25, a0_26) := by
  rw [laws_toTable_eq, laws_toRules_ok a0_0 a0_1 a0_2 a0_3 a0_4 a0_5 a0_6 a0_7 ba0_4 ba0_5, Option.bind_some, laws_toIntS_ok a0_8 ba0_8, Option.bind_some, laws_toIntS_ok a0_10 ba0_10, Option.bind_some, laws_toGame_ok a0_11 a0_12 a0_13 a0_14 a0_15 a0_16 a0_17 a0_18 a0_19 a0_20 a0_21 a0_22 a0_23 a0_24 ba0_15 ba0_16 ba0_19 ba0_20 ba0_21, Option.bind_some, laws_toIntS_ok a0_25 ba0_25, Option.bind_some, laws_toIntSS_ok a0_26 ba0_26, Option.bind_some]
  first | done | rfl
theorem fit1 {e : Nat} {t : Ty} {l : List (den t)} (h : Fit Try.prog (.sl e t) l) (hb : 8 ≤ bytesT Try.prog e) : F1 l := by
  have h : List.length l * bytesT Try.prog e ≤ 140737488351232 := h.1
  have := Nat.le_trans (Nat.mul_le_mul_left l.length hb) h
  unfold F1; omega
theorem fit2 {e e' : Nat} {t : Ty} {l : List (List (den t))} (h : Fit Try.prog (.sl e (.sl e' t)) l) (hb : 8 ≤ bytesT Try.prog e) (hb' : 8 ≤ bytesT Try.prog e') : F2 l :=
  ⟨fit1 (t := .sl e' t) h hb, fun r hr => fit1 (h.2 r hr) hb'⟩
theorem gamesPlayed_ok (a0_0 : Int) (a0_1 : Int) (a0_2 : Bool) (a0_3 : Bool) (a0_4 : List Int) (a0_5 : List Int) (a0_6 : Int) (a0_7 : Int) (a0_8 : List Int) (a0_9 : Bool) (a0_10 : List Int) (a0_11 : Int) (a0_12 : Int) (a0_13 : Bool) (a0_14 : Bool) (a0_15 : List Int) (a0_16 : List Int) (a0_17 : Int) (a0_18 : Int) (a0_19 : List (List Int)) (a0_20 : List Int) (a0_21 : List Int) (a0_22 : Int) (a0_23 : Int) (a0_24 : Int) (a0_25 : List Int) (a0_26 : List (List Int)) (ba0_4 : B1 1048576 a0_4) (ba0_5 : B1 1048576 a0_5) (ba0_8 : B1 1048576 a0_8) (ba0_10 : B1 1048576 a0_10) (ba0_15 : B1 1048576 a0_15) (ba0_16 : B1 1048576 a0_16) (ba0_19 : B2 1048576 a0_19) (ba0_20 : B1 1048576 a0_20) (ba0_21 : B1 1048576 a0_21) (ba0_25 : B1 1048576 a0_25) (ba0_26 : B2 1048576 a0_26) :
    ∃ v, spec_GamesPlayed a0_0 a0_1 a0_2 a0_3 a0_4 a0_5 a0_6 a0_7 a0_8 a0_9 a0_10 a0_11 a0_12 a0_13 a0_14 a0_15 a0_16 a0_17 a0_18 a0_19 a0_20 a0_21 a0_22 a0_23 a0_24 a0_25 a0_26 = some v ∧ impl_GamesPlayed a0_0 a0_1 a0_2 a0_3 a0_4 a0_5 a0_6 a0_7 a0_8 a0_9 a0_10 a0_11 a0_12 a0_13 a0_14 a0_15 a0_16 a0_17 a0_18 a0_19 a0_20 a0_21 a0_22 a0_23 a0_24 a0_25 a0_26 = some v := ⟨_, spec_GamesPlayed_eq .., impl_GamesPlayed_eq ..⟩
theorem laws_FnExactGamesPlayed_ok (a0_0 : Int) (a0_1 : Int) (a0_2 : Bool) (a0_3 : Bool) (a0_4 : List Int) (a0_5 : List Int) (a0_6 : Int) (a0_7 : Int) (a0_8 : List Int) (a0_9 : Bool) (a0_10 : List Int) (a0_11 : Int) (a0_12 : Int) (a0_13 : Bool) (a0_14 : Bool) (a0_15 : List Int) (a0_16 : List Int) (a0_17 : Int) (a0_18 : Int) (a0_19 : List (List Int)) (a0_20 : List Int) (a0_21 : List Int) (a0_22 : Int) (a0_23 : Int) (a0_24 : Int) (a0_25 : List Int) (a0_26 : List (List Int)) (fa0_4 : F1 a0_4) (fa0_5 : F1 a0_5) (fa0_8 : F1 a0_8) (fa0_10 : F1 a0_10) (fa0_15 : F1 a0_15) (fa0_16 : F1 a0_16) (fa0_19 : F2 a0_19) (fa0_20 : F1 a0_20) (fa0_21 : F1 a0_21) (fa0_25 : F1 a0_25) (fa0_26 : F2 a0_26) : laws_FnExactGamesPlayed a0_0 a0_1 a0_2 a0_3 a0_4 a0_5 a0_6 a0_7 a0_8 a0_9 a0_10 a0_11 a0_12 a0_13 a0_14 a0_15 a0_16 a0_17 a0_18 a0_19 a0_20 a0_21 a0_22 a0_23 a0_24 a0_25 a0_26 = some true := by
  rw [laws_FnExactGamesPlayed_eq]
  obtain ⟨c1, e1, h⟩ := laws_szTable_sp a0_0 a0_1 a0_2 a0_3 a0_4 a0_5 a0_6 a0_7 a0_8 a0_9 a0_10 a0_11 a0_12 a0_13 a0_14 a0_15 a0_16 a0_17 a0_18 a0_19 a0_20 a0_21 a0_22 a0_23 a0_24 a0_25 a0_26 1048576 fa0_4 fa0_5 fa0_8 fa0_10 fa0_15 fa0_16 fa0_19 fa0_20 fa0_21 fa0_25 fa0_26 (by omega) (by omega)
  rw [e1, Option.bind_some]
  rcases h with h | ⟨p1, q1, ra0_4, ra0_5, ra0_8, ra0_10, ra0_15, ra0_16, ra0_19, ra0_20, ra0_21, ra0_25, ra0_26⟩
  · rw [if_pos (decide_eq_true h)]
  rw [if_neg (by simp; omega)]
  have ba0_4 := ra0_4.mono (b' := 1048576) (by omega)
  have ba0_5 := ra0_5.mono (b' := 1048576) (by omega)
  have ba0_8 := ra0_8.mono (b' := 1048576) (by omega)
  have ba0_10 := ra0_10.mono (b' := 1048576) (by omega)
  have ba0_15 := ra0_15.mono (b' := 1048576) (by omega)
  have ba0_16 := ra0_16.mono (b' := 1048576) (by omega)
  have ba0_19 := ra0_19.mono (b' := 1048576) (by omega)
  have ba0_20 := ra0_20.mono (b' := 1048576) (by omega)
  have ba0_21 := ra0_21.mono (b' := 1048576) (by omega)
  have ba0_25 := ra0_25.mono (b' := 1048576) (by omega)
  have ba0_26 := ra0_26.mono (b' := 1048576) (by omega)
  obtain ⟨v, s1, s2⟩ := gamesPlayed_ok a0_0 a0_1 a0_2 a0_3 a0_4 a0_5 a0_6 a0_7 a0_8 a0_9 a0_10 a0_11 a0_12 a0_13 a0_14 a0_15 a0_16 a0_17 a0_18 a0_19 a0_20 a0_21 a0_22 a0_23 a0_24 a0_25 a0_26 ba0_4 ba0_5 ba0_8 ba0_10 ba0_15 ba0_16 ba0_19 ba0_20 ba0_21 ba0_25 ba0_26
  simp only [laws_toTable_ok a0_0 a0_1 a0_2 a0_3 a0_4 a0_5 a0_6 a0_7 a0_8 a0_9 a0_10 a0_11 a0_12 a0_13 a0_14 a0_15 a0_16 a0_17 a0_18 a0_19 a0_20 a0_21 a0_22 a0_23 a0_24 a0_25 a0_26 ba0_4 ba0_5 ba0_8 ba0_10 ba0_15 ba0_16 ba0_19 ba0_20 ba0_21 ba0_25 ba0_26, laws_eqTable_self a0_0 a0_1 a0_2 a0_3 a0_4 a0_5 a0_6 a0_7 a0_8 a0_9 a0_10 a0_11 a0_12 a0_13 a0_14 a0_15 a0_16 a0_17 a0_18 a0_19 a0_20 a0_21 a0_22 a0_23 a0_24 a0_25 a0_26 ba0_4 ba0_5 ba0_8 ba0_10 ba0_15 ba0_16 ba0_19 ba0_20 ba0_21 ba0_25 ba0_26, Option.bind_some, s1, s2]
  simp
theorem law_FnExactGamesPlayed (x : den (parTy HH 4)) (hx : Fit Try.prog (parTy HH 4) x) : ∃ n, frun Try.prog HH n 4 x = some true := by
  obtain ⟨a0_0, a0_1, a0_2, a0_3, a0_4, a0_5, a0_6, a0_7, a0_8, a0_9, a0_10, a0_11, a0_12, a0_13, a0_14, a0_15, a0_16, a0_17, a0_18, a0_19, a0_20, a0_21, a0_22, a0_23, a0_24, a0_25, a0_26⟩ := (x : Int × Int × Bool × Bool × (List Int) × (List Int) × Int × Int × (List Int) × Bool × (List Int) × Int × Int × Bool × Bool × (List Int) × (List Int) × Int × Int × (List (List Int)) × (List Int) × (List Int) × Int × Int × Int × (List Int) × List (List Int))
  obtain ⟨ha0_0, ha0_1, ha0_2, ha0_3, ha0_4, ha0_5, ha0_6, ha0_7, ha0_8, ha0_9, ha0_10, ha0_11, ha0_12, ha0_13, ha0_14, ha0_15, ha0_16, ha0_17, ha0_18, ha0_19, ha0_20, ha0_21, ha0_22, ha0_23, ha0_24, ha0_25, ha0_26⟩ := hx
  exact run_some (laws_FnExactGamesPlayed_ok a0_0 a0_1 a0_2 a0_3 a0_4 a0_5 a0_6 a0_7 a0_8 a0_9 a0_10 a0_11 a0_12 a0_13 a0_14 a0_15 a0_16 a0_17 a0_18 a0_19 a0_20 a0_21 a0_22 a0_23 a0_24 a0_25 a0_26 (fit1 ha0_4 (of_decide_eq_true (by kernel_rfl))) (fit1 ha0_5 (of_decide_eq_true (by kernel_rfl))) (fit1 ha0_8 (of_decide_eq_true (by kernel_rfl))) (fit1 ha0_10 (of_decide_eq_true (by kernel_rfl))) (fit1 ha0_15 (of_decide_eq_true (by kernel_rfl))) (fit1 ha0_16 (of_decide_eq_true (by kernel_rfl))) (fit2 ha0_19 (of_decide_eq_true (by kernel_rfl)) (of_decide_eq_true (by kernel_rfl))) (fit1 ha0_20 (of_decide_eq_true (by kernel_rfl))) (fit1 ha0_21 (of_decide_eq_true (by kernel_rfl))) (fit1 ha0_25 (of_decide_eq_true (by kernel_rfl))) (fit2 ha0_26 (of_decide_eq_true (by kernel_rfl)) (of_decide_eq_true (by kernel_rfl))))
end Go.Proofs.Ythkficnegofenaa.V
