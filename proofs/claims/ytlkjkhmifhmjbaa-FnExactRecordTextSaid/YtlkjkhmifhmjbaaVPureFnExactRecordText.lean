/- Plain laws over the shapes. -/
import Derived.Test.YtlkjkhmifhmjbaaEWords
import Derived.Test.YtlkjkhmifhmjbaaVShapeFnExactRecordText
set_option linter.unusedVariables false
set_option linter.unusedSimpArgs false
namespace Go.Proofs.Ytlkjkhmifhmjbaa.V
open Go
theorem laws_toIntS_ok (l : List Int) (hl : l.length ≤ 1048576) : laws_toIntS l = some l := by
  have h : ∀ i, i ≤ l.length → ∀ s : List Int, s.length = l.length → s.take i = l.take i → laws_toIntS_L3 l i s = some l := down (by
      intro s h1 h2
      rw [List.take_of_length_le (by omega), List.take_of_length_le (Nat.le_refl _)] at h2
      rw [laws_toIntS_L3_eq, if_neg (by simp), h2]) fun i hi ih s h1 h2 => by
    rw [laws_toIntS_L3_eq, if_pos (by simpa using hi), if_pos (by omega), if_pos (by omega), if_pos (by omega), if_pos (by omega), wrap_succ hi (by omega), Int.toNat_natCast]
    exact ih _ (by simpa using h1) (copy_set hi h1 h2)
  rw [laws_toIntS_eq, if_pos rfl, if_pos (by omega), if_pos (by rw [Int.toNat_natCast]; omega), Int.toNat_natCast]
  exact h 0 (Nat.zero_le _) _ (by simp) rfl
theorem laws_eqIntS_ok (l r : List Int) (hl : l.length ≤ 1048576) : laws_eqIntS l r = some (decide (l = r)) := by
  rw [laws_eqIntS_eq]
  by_cases hlen : l.length = r.length
  · rw [if_neg (by simp [hlen])]
    exact eq_loop (d := 0) (fun i => laws_eqIntS_L4 l r i) hlen (by show laws_eqIntS_L4 l r (l.length : Int) = _; rw [laws_eqIntS_L4_eq, if_neg (by simp)]) fun i hi => by
      show laws_eqIntS_L4 l r (i : Int) = _
      rw [laws_eqIntS_L4_eq, if_pos (by simpa using hi), if_pos (by omega), if_pos (by omega), if_pos (by omega), if_pos (by omega), wrap_succ hi (by omega), Int.toNat_natCast]
      by_cases e : l.getD i 0 = r.getD i 0
      · rw [if_neg (by simpa using e), if_pos e]
      · rw [if_pos (by simpa using e), if_neg e]
  · rw [if_pos (by simp; omega), decide_eq_false (fun e => hlen (by rw [e]))]
def isC (c : Int) : Bool := decide (0 ≤ c) && decide (c ≤ 51)
theorem spec_IsCard_ok (c : Int) : spec_IsCard c = some (isC c) := by
  rw [spec_IsCard_eq, spec_l1In_eq, isC]
  by_cases h : (0 : Int) ≤ c
  · rw [if_pos (decide_eq_true h), decide_eq_true h, Bool.true_and]; rfl
  · rw [if_neg (by simpa using h), decide_eq_false h, Bool.false_and]; rfl
theorem impl_IsCard_ok (c : Int) : impl_IsCard c = some (isC c) := by
  rw [impl_IsCard_eq, impl_InRange_eq, isC]
  by_cases h : (0 : Int) ≤ c
  · rw [if_pos (decide_eq_true h), decide_eq_true h, Bool.true_and]; rfl
  · rw [if_neg (by simpa using h), decide_eq_false h, Bool.false_and]; rfl
theorem isC_iff {c : Int} : isC c = true ↔ 0 ≤ c ∧ c ≤ 51 := by simp [isC]
def cardText (c : Int) : ByteArray := ((ByteArray.mk #[50, 51, 52, 53, 54, 55, 56, 57, 84, 74, 81, 75, 65]).extract (c.tmod 13).toNat ((c.tmod 13) + 1).toNat) ++ ((ByteArray.mk #[99, 100, 104, 115]).extract (c.tdiv 13).toNat ((c.tdiv 13) + 1).toNat)
theorem cardText_size (c : Int) (h : 0 ≤ c) : (cardText c).size ≤ 2 := by
  unfold cardText
  rw [ByteArray.size_append, ByteArray.size_extract, ByteArray.size_extract, Int.tmod_eq_emod_of_nonneg h, Int.tdiv_eq_ediv_of_nonneg h]
  omega
theorem spec_CardText_ok (c : Int) (h : isC c = true) : spec_CardText c = some (cardText c) := by
  obtain ⟨h1, h2⟩ := isC_iff.1 h
  have e1 := Int.tmod_eq_emod_of_nonneg (b := 13) h1
  have e2 := Int.tdiv_eq_ediv_of_nonneg (b := 13) h1
  have hr : spec_RankOf c = some (c.tmod 13) := by rw [spec_RankOf_eq, spec_IsCard_ok, h, Option.bind_some, if_neg (by simp)]
  have hs : spec_SuitOf c = some (c.tdiv 13) := by rw [spec_SuitOf_eq, spec_IsCard_ok, h, Option.bind_some, if_neg (by simp), wrap_id (by omega) (by omega)]
  rw [spec_CardText_eq, spec_IsCard_ok, h, Option.bind_some, if_neg (by simp), hr, Option.bind_some, hs, Option.bind_some, wrap_id (by omega) (by omega), wrap_id (by omega) (by omega)]
  have z1 : (ByteArray.mk #[50, 51, 52, 53, 54, 55, 56, 57, 84, 74, 81, 75, 65]).size = 13 := rfl
  have z2 : (ByteArray.mk #[99, 100, 104, 115]).size = 4 := rfl
  have hsz := cardText_size c h1
  unfold cardText at hsz
  rw [ByteArray.size_append] at hsz
  rw [if_pos (by omega), if_pos (by omega), if_pos (by omega), if_pos (by omega), if_pos (by omega), if_pos (by omega), if_pos (by omega), if_pos (by omega), if_pos (by omega)]
  rfl
theorem impl_CardText_ok (c : Int) (h : isC c = true) : impl_CardText c = some (cardText c) := by
  obtain ⟨h1, h2⟩ := isC_iff.1 h
  have e1 := Int.tmod_eq_emod_of_nonneg (b := 13) h1
  have e2 := Int.tdiv_eq_ediv_of_nonneg (b := 13) h1
  have w1 : IntKind.i64.wrap (c.tdiv 13) = c.tdiv 13 := wrap_id (by omega) (by omega)
  have w2 : IntKind.i64.wrap (c.tdiv 13 + 1) = c.tdiv 13 + 1 := wrap_id (by omega) (by omega)
  have w3 : IntKind.i64.wrap (c.tmod 13 + 1) = c.tmod 13 + 1 := wrap_id (by omega) (by omega)
  rw [impl_CardText_eq, impl_IsCard_ok, h, Option.bind_some, if_neg (by simp), w1, w2, w3]
  have z1 : (ByteArray.mk #[50, 51, 52, 53, 54, 55, 56, 57, 84, 74, 81, 75, 65]).size = 13 := rfl
  have z2 : (ByteArray.mk #[99, 100, 104, 115]).size = 4 := rfl
  have hsz := cardText_size c h1
  unfold cardText at hsz
  rw [ByteArray.size_append] at hsz
  rw [if_pos (by omega), if_pos (by omega), if_pos (by omega), if_pos (by omega), if_pos (by omega), if_pos (by omega), if_pos (by omega), if_pos (by omega), if_pos (by omega)]
  rfl
/-- The text of one place of a record. -/
def recPiece (c : Int) : ByteArray := if isC c = true then cardText c else if c = -1 then ByteArray.mk #[42] else ByteArray.mk #[63]
theorem recPiece_size (c : Int) : (recPiece c).size ≤ 2 := by
  unfold recPiece
  split
  · rename_i h; exact cardText_size c (isC_iff.1 h).1
  · split
    · exact (by decide : (1 : Nat) ≤ 2)
    · exact (by decide : (1 : Nat) ≤ 2)
def recText (l : List Int) : ByteArray := if l.length = 0 then ByteArray.mk #[45] else l.foldl (fun s c => s ++ recPiece c) (ByteArray.mk #[])
theorem spec_RecordText_ok (l : List Int) (hl : l.length ≤ 1048576) : spec_RecordText l = some (recText l) := by
  rw [spec_RecordText_eq]
  have h : ∀ i, i ≤ l.length → ∀ s : ByteArray, s.size ≤ 2 * i → spec_RecordText_L3 l s i = some (if l.length = 0 then ByteArray.mk #[45] else (l.drop i).foldl (fun s c => s ++ recPiece c) s) := down (by
      intro s hs
      rw [spec_RecordText_L3_eq, if_neg (by simp)]
      by_cases h0 : l.length = 0
      · rw [if_pos (by simpa using h0), if_pos h0]
      · rw [if_neg (by simpa using h0), if_neg h0]; simp) fun i hi ih s hs => by
    have hz := recPiece_size (l.getD i 0)
    have done : spec_RecordText_L3 l (s ++ recPiece (l.getD i 0)) ((i + 1 : Nat) : Int) = some (if l.length = 0 then ByteArray.mk #[45] else (l.drop i).foldl (fun s c => s ++ recPiece c) s) := by
      rw [ih _ (by rw [ByteArray.size_append]; omega), getD_drop (d := 0) hi]; rfl
    rw [spec_RecordText_L3_eq, if_pos (by simpa using hi), if_pos (by omega), if_pos (by omega), wrap_succ hi (by omega), Int.toNat_natCast, ← done]
    unfold recPiece at hz ⊢
    have hi0 : (0 : Int) ≤ (i : Int) := by omega
    have hil : (i : Int) < (l.length : Int) := by omega
    by_cases hc : isC (l.getD i 0) = true
    · have hne : l.getD i 0 ≠ -1 := fun e => by rw [e] at hc; exact absurd hc (by decide)
      rw [if_pos hc] at hz ⊢
      rw [if_neg (by simpa using hne), if_pos hi0, if_pos hil, spec_IsCard_ok, Option.bind_some, if_pos hc, if_pos hi0, if_pos hil, spec_CardText_ok _ hc, Option.bind_some, if_pos (by omega)]
    · rw [if_neg hc] at hz ⊢
      by_cases he : l.getD i 0 = -1
      · rw [if_pos he] at hz ⊢
        rw [if_pos (by simpa using he), if_pos (by omega)]
      · rw [if_neg he] at hz ⊢
        rw [if_neg (by simpa using he), if_pos hi0, if_pos hil, spec_IsCard_ok, Option.bind_some, if_neg hc, if_pos (by omega)]
  exact h 0 (Nat.zero_le _) _ (by decide)
theorem impl_RecordText_ok (l : List Int) (hl : l.length ≤ 1048576) : impl_RecordText l = some (recText l) := by
  rw [impl_RecordText_eq, impl_listText_eq]
  have h : ∀ i, i ≤ l.length → ∀ s : ByteArray, s.size ≤ 2 * i → impl_listText_L5 (-1) (ByteArray.mk #[42]) s l l.length i = some ((l.drop i).foldl (fun s c => s ++ recPiece c) s) := down (by
      intro s hs
      rw [impl_listText_L5_eq, if_neg (by simp)]; simp) fun i hi ih s hs => by
    have hz := recPiece_size (l.getD i 0)
    have done : impl_listText_L5 (-1) (ByteArray.mk #[42]) (s ++ recPiece (l.getD i 0)) l l.length ((i + 1 : Nat) : Int) = some ((l.drop i).foldl (fun s c => s ++ recPiece c) s) := by
      rw [ih _ (by rw [ByteArray.size_append]; omega), getD_drop (d := 0) hi]; rfl
    rw [impl_listText_L5_eq, if_pos (by simpa using hi), if_pos (by omega), if_pos (by omega), wrap_succ hi (by omega), Int.toNat_natCast, ← done]
    unfold recPiece at hz ⊢
    by_cases hc : isC (l.getD i 0) = true
    · rw [if_pos hc] at hz ⊢
      rw [impl_IsCard_ok, Option.bind_some, if_pos hc, impl_CardText_ok _ hc, Option.bind_some, if_pos (by omega)]
    · rw [if_neg hc] at hz ⊢
      rw [impl_IsCard_ok, Option.bind_some, if_neg hc]
      by_cases he : l.getD i 0 = -1
      · rw [if_pos he] at hz ⊢
        rw [if_pos (by simpa using he), if_pos (by omega)]
      · rw [if_neg he] at hz ⊢
        rw [if_neg (by simpa using he), if_pos (by omega)]
  unfold recText
  by_cases h0 : l.length = 0
  · rw [if_pos (by simpa using h0), if_pos h0]; rfl
  · rw [if_neg (by simpa using h0), if_neg h0]
    have := h 0 (Nat.zero_le _) (ByteArray.mk #[]) (by decide)
    rw [Int.natCast_zero] at this
    rw [this]; rfl
theorem laws_FnExactRecordText_ok (l : List Int) : laws_FnExactRecordText l = some true := by
  rw [laws_FnExactRecordText_eq]
  by_cases h : (l.length : Int) > 1048576
  · rw [if_pos (decide_eq_true h)]
  have hl : l.length ≤ 1048576 := by omega
  rw [if_neg (by simpa using h)]
  simp only [laws_toIntS_ok l hl, Option.bind_some, spec_RecordText_ok l hl, impl_RecordText_ok l hl, laws_eqIntS_ok l l hl]
  simp
theorem law_FnExactRecordText (x : den (parTy HH 4)) (hx : Fit Try.prog (parTy HH 4) x) : ∃ n, frun Try.prog HH n 4 x = some true := run_some (laws_FnExactRecordText_ok x)
end Go.Proofs.Ytlkjkhmifhmjbaa.V
