/- Plain laws over the shapes. -/
import Derived.Test.YtlkjkhmifhmjbaaEWords
import Derived.Test.YtlkjkhmifhmjbaaVShapeFnExactSamePeek
set_option linter.unusedVariables false
set_option linter.unusedSimpArgs false
namespace Go.Proofs.Ytlkjkhmifhmjbaa.V
open Go
theorem laws_szIntS_ok (l : List Int) (b : Int) (hl : l.length ≤ 140737488355328) (hb : 0 ≤ b) (hb' : b ≤ 1048576) : laws_szIntS l b = some (if b < l.length then -1 else b - l.length) := by
  rw [laws_szIntS_eq, wrap_id (by omega) (by omega)]
  by_cases h : b < l.length
  · rw [if_pos (by simpa using (by omega : b - (l.length : Int) < 0)), if_pos h]
  · rw [if_neg (by simpa using (by omega : ¬ b - (l.length : Int) < 0)), if_neg h]
theorem laws_toIntS_ok (l : List Int) (hl : l.length ≤ 1048576) : laws_toIntS l = some l := by
  have h : ∀ i, i ≤ l.length → ∀ s : List Int, s.length = l.length → s.take i = l.take i → laws_toIntS_L3 l i s = some l := down (by
      intro s h1 h2
      rw [List.take_of_length_le (by omega), List.take_of_length_le (Nat.le_refl _)] at h2
      rw [laws_toIntS_L3_eq, if_neg (by simp), h2]) fun i hi ih s h1 h2 => by
    rw [laws_toIntS_L3_eq, if_pos (by simpa using hi), if_pos (by omega), if_pos (by omega), if_pos (by omega), if_pos (by omega), wrap_succ hi (by omega), Int.toNat_natCast]
    exact ih _ (by simpa using h1) (copy_set hi h1 h2)
  rw [laws_toIntS_eq, if_pos rfl, if_pos (by omega), if_pos (by rw [Int.toNat_natCast]; omega), Int.toNat_natCast]
  exact h 0 (Nat.zero_le _) _ (by simp) rfl
theorem laws_eqIntS_ok (l r : List Int) (hl : l.length ≤ 1048576) : laws_eqIntS l r = some (decide (l = r)) := by
  rw [laws_eqIntS_eq]
  by_cases hlen : l.length = r.length
  · rw [if_neg (by simp [hlen])]
    exact eq_loop (d := 0) (fun i => laws_eqIntS_L4 l r i) hlen (by show laws_eqIntS_L4 l r (l.length : Int) = _; rw [laws_eqIntS_L4_eq, if_neg (by simp)]) fun i hi => by
      show laws_eqIntS_L4 l r (i : Int) = _
      rw [laws_eqIntS_L4_eq, if_pos (by simpa using hi), if_pos (by omega), if_pos (by omega), if_pos (by omega), if_pos (by omega), wrap_succ hi (by omega), Int.toNat_natCast]
      by_cases e : l.getD i 0 = r.getD i 0
      · rw [if_neg (by simpa using e), if_pos e]
      · rw [if_pos (by simpa using e), if_neg e]
  · rw [if_pos (by simp; omega), decide_eq_false (fun e => hlen (by rw [e]))]
theorem spec_EqualInts_ok (l r : List Int) (hl : l.length ≤ 1048576) : spec_EqualInts l r = some (decide (l = r)) := by
  rw [spec_EqualInts_eq]
  by_cases hlen : l.length = r.length
  · rw [if_neg (by simp [hlen])]
    exact eq_loop (d := 0) (fun i => spec_EqualInts_L4 l r i) hlen (by show spec_EqualInts_L4 l r (l.length : Int) = _; rw [spec_EqualInts_L4_eq, if_neg (by simp)]) fun i hi => by
      show spec_EqualInts_L4 l r (i : Int) = _
      rw [spec_EqualInts_L4_eq, if_pos (by simpa using hi), if_pos (by omega), if_pos (by omega), if_pos (by omega), if_pos (by omega), wrap_succ hi (by omega), Int.toNat_natCast]
      by_cases e : l.getD i 0 = r.getD i 0
      · rw [if_neg (by simpa using e), if_pos e]
      · rw [if_pos (by simpa using e), if_neg e]
  · rw [if_pos (by simp; omega), decide_eq_false (fun e => hlen (by rw [e]))]
theorem impl_EqualInts_ok (l r : List Int) (hl : l.length ≤ 1048576) : impl_EqualInts l r = some (decide (l = r)) := by
  rw [impl_EqualInts_eq]
  by_cases hlen : l.length = r.length
  · rw [if_neg (by simp [hlen])]
    exact eq_loop (d := 0) (fun i => impl_EqualInts_L4 l r l.length i) hlen (by show impl_EqualInts_L4 l r l.length (l.length : Int) = _; rw [impl_EqualInts_L4_eq, if_neg (by simp)]) fun i hi => by
      show impl_EqualInts_L4 l r l.length (i : Int) = _
      rw [impl_EqualInts_L4_eq, if_pos (by simpa using hi), if_pos (by omega), if_pos (by omega), if_pos (by omega), if_pos (by omega), wrap_succ hi (by omega), Int.toNat_natCast]
      by_cases e : l.getD i 0 = r.getD i 0
      · rw [if_neg (by simpa using e), if_pos e]
      · rw [if_pos (by simpa using e), if_neg e]
  · rw [if_pos (by simp; omega), decide_eq_false (fun e => hlen (by rw [e]))]
theorem laws_szIntS_sp (l : List Int) (b : Int) (hl : l.length ≤ 17592186044416) (hb : 0 ≤ b) (hb' : b ≤ 1048576) : ∃ c, laws_szIntS l b = some c ∧ (c < 0 ∨ (0 ≤ c ∧ c ≤ b ∧ (l.length : Int) ≤ b)) := by
  refine ⟨_, laws_szIntS_ok l b (by omega) hb hb', ?_⟩
  split <;> omega
theorem laws_szPeek_sp (a0 : Int) (a1 : List Int) (a2 a3 a4 : Int) (a5 : List Int) (a6 a7 b : Int) (h1 : a1.length ≤ 17592186044416) (h5 : a5.length ≤ 17592186044416) (hb : 0 ≤ b) (hb' : b ≤ 1048576) :
    ∃ c, laws_szPeek a0 a1 a2 a3 a4 a5 a6 a7 b = some c ∧ (c < 0 ∨ (0 ≤ c ∧ c ≤ b ∧ (a1.length : Int) ≤ b ∧ (a5.length : Int) ≤ b)) := by
  rw [laws_szPeek_eq]
  obtain ⟨c1, e1, h⟩ := laws_szIntS_sp a1 b h1 hb hb'
  rw [e1, Option.bind_some]
  rcases h with h | ⟨g1, g2, g3⟩
  · exact ⟨-1, by rw [if_pos (decide_eq_true h)], .inl (by decide)⟩
  rw [if_neg (by simp; omega)]
  obtain ⟨c2, e2, h⟩ := laws_szIntS_sp a5 c1 h5 g1 (by omega)
  rw [e2, Option.bind_some]
  rcases h with h | ⟨g4, g5, g6⟩
  · exact ⟨-1, by rw [if_pos (decide_eq_true h)], .inl (by decide)⟩
  rw [if_neg (by simp; omega)]
  exact ⟨_, rfl, .inr (by omega)⟩
theorem laws_toPeek_ok (a0 : Int) (a1 : List Int) (a2 a3 a4 : Int) (a5 : List Int) (a6 a7 : Int) (h1 : a1.length ≤ 1048576) (h5 : a5.length ≤ 1048576) : laws_toPeek a0 a1 a2 a3 a4 a5 a6 a7 = some (a0, a1, a2, a3, a4, a5, a6, a7) := by
  rw [laws_toPeek_eq, laws_toIntS_ok a1 h1, Option.bind_some, laws_toIntS_ok a5 h5, Option.bind_some]
theorem laws_eqPeek_self (a0 : Int) (a1 : List Int) (a2 a3 a4 : Int) (a5 : List Int) (a6 a7 : Int) (h1 : a1.length ≤ 1048576) (h5 : a5.length ≤ 1048576) : laws_eqPeek a0 a1 a2 a3 a4 a5 a6 a7 a0 a1 a2 a3 a4 a5 a6 a7 = some true := by
  rw [laws_eqPeek_eq, laws_eqIntS_ok a1 a1 h1, laws_eqIntS_ok a5 a5 h5]
  simp
theorem fit_ints {l : List Int} (h : Fit Try.prog (.sl 3 (.int .i64)) l) : l.length ≤ 17592186044416 := by
  have h := h.1
  rw [show bytesT Try.prog 3 = 8 by kernel_rfl] at h
  have h : List.length l * 8 ≤ 140737488351232 := h
  omega
theorem samePeek_ok (a0 : Int) (a1 : List Int) (a2 a3 a4 : Int) (a5 : List Int) (a6 a7 b0 : Int) (b1 : List Int) (b2 b3 b4 : Int) (b5 : List Int) (b6 b7 : Int) (h1 : a1.length ≤ 1048576) (h5 : a5.length ≤ 1048576) :
    ∃ v, spec_SamePeek a0 a1 a2 a3 a4 a5 a6 a7 b0 b1 b2 b3 b4 b5 b6 b7 = some v ∧ impl_SamePeek a0 a1 a2 a3 a4 a5 a6 a7 b0 b1 b2 b3 b4 b5 b6 b7 = some v := by
  refine ⟨decide (a0 = b0) && (decide (a1 = b1) && (decide (a2 = b2) && (decide (a3 = b3) && (decide (a4 = b4) && (decide (a5 = b5) && (decide (a6 = b6) && decide (a7 = b7))))))), ?_, ?_⟩
  · rw [spec_SamePeek_eq, spec_EqualInts_ok a1 b1 h1, spec_EqualInts_ok a5 b5 h5]
    by_cases e0 : a0 = b0 <;> by_cases e1 : a1 = b1 <;> by_cases e2 : a2 = b2 <;> by_cases e3 : a3 = b3 <;> by_cases e4 : a4 = b4 <;> by_cases e5 : a5 = b5 <;> by_cases e6 : a6 = b6 <;> by_cases e7 : a7 = b7 <;> simp [e0, e1, e2, e3, e4, e5, e6, e7]
  · rw [impl_SamePeek_eq, impl_EqualInts_ok a1 b1 h1, impl_EqualInts_ok a5 b5 h5]
    by_cases e0 : a0 = b0 <;> by_cases e1 : a1 = b1 <;> by_cases e2 : a2 = b2 <;> by_cases e3 : a3 = b3 <;> by_cases e4 : a4 = b4 <;> by_cases e5 : a5 = b5 <;> by_cases e6 : a6 = b6 <;> by_cases e7 : a7 = b7 <;> simp [e0, e1, e2, e3, e4, e5, e6, e7]
theorem laws_FnExactSamePeek_ok (a0 : Int) (a1 : List Int) (a2 a3 a4 : Int) (a5 : List Int) (a6 a7 b0 : Int) (b1 : List Int) (b2 b3 b4 : Int) (b5 : List Int) (b6 b7 : Int) (x1 : a1.length ≤ 17592186044416) (x5 : a5.length ≤ 17592186044416) (y1 : b1.length ≤ 17592186044416) (y5 : b5.length ≤ 17592186044416) :
    laws_FnExactSamePeek a0 a1 a2 a3 a4 a5 a6 a7 b0 b1 b2 b3 b4 b5 b6 b7 = some true := by
  rw [laws_FnExactSamePeek_eq]
  obtain ⟨c, e, h⟩ := laws_szPeek_sp a0 a1 a2 a3 a4 a5 a6 a7 1048576 x1 x5 (by decide) (by decide)
  rw [e, Option.bind_some]
  rcases h with h | ⟨g1, g2, g3, g4⟩
  · rw [if_pos (decide_eq_true h)]
  rw [if_neg (by simp; omega)]
  obtain ⟨c', e, h⟩ := laws_szPeek_sp b0 b1 b2 b3 b4 b5 b6 b7 c y1 y5 (by omega) (by omega)
  rw [e, Option.bind_some]
  rcases h with h | ⟨g5, g6, g7, g8⟩
  · rw [if_pos (decide_eq_true h)]
  rw [if_neg (by simp; omega)]
  have t := laws_toPeek_ok a0 a1 a2 a3 a4 a5 a6 a7 (by omega) (by omega)
  have t' := laws_toPeek_ok b0 b1 b2 b3 b4 b5 b6 b7 (by omega) (by omega)
  obtain ⟨v, s1, s2⟩ := samePeek_ok a0 a1 a2 a3 a4 a5 a6 a7 b0 b1 b2 b3 b4 b5 b6 b7 (by omega) (by omega)
  simp only [t, t', Option.bind_some, s1, s2, laws_eqPeek_self a0 a1 a2 a3 a4 a5 a6 a7 (by omega) (by omega), laws_eqPeek_self b0 b1 b2 b3 b4 b5 b6 b7 (by omega) (by omega)]
  simp
theorem law_FnExactSamePeek (x : den (parTy HH 6)) (hx : Fit Try.prog (parTy HH 6) x) : ∃ n, frun Try.prog HH n 6 x = some true := by
  obtain ⟨a0, a1, a2, a3, a4, a5, a6, a7, b0, b1, b2, b3, b4, b5, b6, b7⟩ := (x : Int × List Int × Int × Int × Int × List Int × Int × Int × Int × List Int × Int × Int × Int × List Int × Int × Int)
  obtain ⟨_, x1, _, _, _, x5, _, _, _, y1, _, _, _, y5, _, _⟩ := hx
  exact run_some (laws_FnExactSamePeek_ok a0 a1 a2 a3 a4 a5 a6 a7 b0 b1 b2 b3 b4 b5 b6 b7 (fit_ints x1) (fit_ints x5) (fit_ints y1) (fit_ints y5))
end Go.Proofs.Ytlkjkhmifhmjbaa.V
