/- FnExactMayHold, over data: the program's MayHold and the reference's answer the same. -/
import Derived.Test.YtlkjkhmifhmjbaaVShapeMayHold
import Derived.Test.YtlkjkhmifhmjbaaVWords
set_option linter.unusedVariables false
namespace Go.Proofs.Ytlkjkhmifhmjbaa.V
open Go
theorem drop_lt {α : Type} {xs : List α} {i : Nat} {x : α} {r : List α} (h : xs.drop i = x :: r) : i < xs.length := by
  rcases Nat.lt_or_ge i xs.length with h' | h'
  · exact h'
  · rw [List.drop_eq_nil_of_le h'] at h; cases h
theorem drop_succ {α : Type} {xs : List α} {i : Nat} {x : α} {r : List α} (h : xs.drop i = x :: r) : xs.drop (i + 1) = r := by
  have : xs.drop (i + 1) = (xs.drop i).drop 1 := by rw [List.drop_drop]
  rw [this, h]; rfl
theorem drop_get {α : Type} {xs : List α} {i : Nat} {x : α} {r : List α} (h : xs.drop i = x :: r) : xs[i]? = some x := by
  have : (xs.drop i)[0]? = some x := by rw [h]; rfl
  rw [List.getElem?_drop] at this; simpa using this
theorem drop_getD {α : Type} {xs : List α} {i : Nat} {x d : α} {r : List α} (h : xs.drop i = x :: r) : xs.getD i d = x := by
  rw [List.getD_eq_getElem?_getD, drop_get h]; rfl
theorem wrap_succ {i n : Nat} (h : i < n) (hn : n ≤ 9223372036854775807) : IntKind.i64.wrap ((i : Int) + 1) = ((i + 1 : Nat) : Int) := by
  rw [wrap_id (by omega) (by omega)]; omega
theorem laws_toIntS_loop (l : List Int) (hl : l.length ≤ 9223372036854775807) : ∀ (r : List Int) (i : Nat) (s : List Int), l.drop i = r → s.length = l.length → s.take i = l.take i → Evl (fun m n => laws_toIntS_L3 m n l i s) l
  | [], i, s, hd, h1, h2 => by
    have hi : l.length ≤ i := by rcases Nat.lt_or_ge i l.length with h | h; · rw [List.drop_eq_getElem_cons h] at hd; cases hd
                                 · exact h
    have hs : s = l := by rw [List.take_of_length_le (by omega), List.take_of_length_le hi] at h2; exact h2
    refine Evl.succ ?_
    simp only [laws_toIntS_L3_eq]
    refine Evl.neg (by simpa using hi) ?_
    rw [hs]; exact Evl.now l
  | x :: r, i, s, hd, h1, h2 => by
    have hi := drop_lt hd
    refine Evl.succ ?_
    simp only [laws_toIntS_L3_eq]
    refine Evl.pos (by simpa using hi) (Evl.pos (by omega) (Evl.pos (by omega) (Evl.pos (by omega) (Evl.pos (by omega) ?_))))
    rw [wrap_succ hi hl, Int.toNat_natCast, drop_getD hd]
    refine laws_toIntS_loop l hl r (i + 1) _ (drop_succ hd) (by simpa using h1) ?_
    rw [List.take_succ_eq_append_getElem (by simpa using (by omega : i < s.length)), List.take_set_of_le (Nat.le_refl i), h2, List.take_add_one, drop_get hd]
    simp
theorem laws_toIntS_ok (l : List Int) (hl : l.length ≤ 17592186044416) : Evr (fun n => laws_toIntS n l) l := by
  refine Evr.succ ?_
  simp only [laws_toIntS_eq]
  refine Evr.pos trivial (Evr.pos (by omega) (Evr.pos (by rw [Int.toNat_natCast]; omega) ?_))
  rw [Int.toNat_natCast]
  have h := (laws_toIntS_loop l (by omega) l 0 (List.replicate l.length 0) rfl (by simp) rfl).both
  rw [Int.natCast_zero] at h
  exact h
theorem laws_eqIntS_loop (a b : List Int) (hl : a.length ≤ 9223372036854775807) (hab : a.length = b.length) : ∀ (r : List Int) (i : Nat), a.drop i = r → a.take i = b.take i → Evl (fun m n => laws_eqIntS_L4 m n a b i) (decide (a = b))
  | [], i, hd, h2 => by
    have hi : a.length ≤ i := by rcases Nat.lt_or_ge i a.length with h | h; · rw [List.drop_eq_getElem_cons h] at hd; cases hd
                                 · exact h
    have hs : a = b := by rw [List.take_of_length_le hi, List.take_of_length_le (by omega)] at h2; exact h2
    refine Evl.succ ?_
    simp only [laws_eqIntS_L4_eq]
    refine Evl.neg (by simpa using hi) ?_
    rw [decide_eq_true hs]; exact Evl.now true
  | x :: r, i, hd, h2 => by
    have hi := drop_lt hd
    refine Evl.succ ?_
    simp only [laws_eqIntS_L4_eq]
    refine Evl.pos (by simpa using hi) (Evl.pos (by omega) (Evl.pos (by omega) (Evl.pos (by omega) (Evl.pos (by omega) ?_))))
    rw [wrap_succ hi hl, Int.toNat_natCast, drop_getD hd]
    have hb : b[i]? = some (b.getD i 0) := by rw [List.getD_eq_getElem?_getD, List.getElem?_eq_getElem (by omega)]; rfl
    by_cases e : x = b.getD i 0
    · refine Evl.neg (by simp [e]) ?_
      refine laws_eqIntS_loop a b hl hab r (i + 1) (drop_succ hd) ?_
      rw [List.take_add_one, List.take_add_one, h2, drop_get hd, hb, e]
    · refine Evl.pos (by simpa using e) ?_
      have : a ≠ b := fun h => e (by rw [← h, drop_getD hd])
      rw [decide_eq_false this]; exact Evl.now false
theorem laws_eqIntS_ok (a b : List Int) (hl : a.length ≤ 9223372036854775807) : Evr (fun n => laws_eqIntS n a b) (decide (a = b)) := by
  refine Evr.succ ?_
  simp only [laws_eqIntS_eq]
  by_cases hab : a.length = b.length
  · refine Evr.neg (by simp [hab]) ?_
    have h := (laws_eqIntS_loop a b hl hab a 0 rfl rfl).both
    rw [Int.natCast_zero] at h
    exact h
  · refine Evr.pos (by simp only [bne_iff_ne, ne_eq]; omega) ?_
    have : a ≠ b := fun h => hab (by rw [h])
    rw [decide_eq_false this]; exact Evr.now false
theorem spec_IsCard_ok (x : Int) : Evr (fun n => spec_IsCard n x) (decide (0 ≤ x ∧ x ≤ 51)) := by
  refine Evr.succ ?_
  simp only [spec_IsCard_eq]
  refine Evr.bind (a := decide (0 ≤ x ∧ x ≤ 51)) ?_ (Evr.now _)
  refine Evr.succ ?_
  simp only [spec_l1In_eq]
  by_cases h : 0 ≤ x
  · exact Evr.pos (by simpa using h) ((Evr.now _).to (by simp [h]))
  · exact Evr.neg (by simpa using h) ((Evr.now _).to (by simp [h]))
theorem impl_IsCard_ok (x : Int) : Evr (fun n => impl_IsCard n x) (decide (0 ≤ x ∧ x ≤ 51)) := by
  refine Evr.succ ?_
  simp only [impl_IsCard_eq]
  refine Evr.bind (a := decide (0 ≤ x ∧ x ≤ 51)) ?_ (Evr.now _)
  refine Evr.succ ?_
  simp only [impl_InRange_eq]
  by_cases h : 0 ≤ x
  · exact Evr.pos (by simpa using h) ((Evr.now _).to (by simp [h]))
  · exact Evr.neg (by simpa using h) ((Evr.now _).to (by simp [h]))
theorem spec_HasCard_loop (a : List Int) (c : Int) (hl : a.length ≤ 9223372036854775807) : ∀ (r : List Int) (i : Nat), a.drop i = r → Evl (fun m n => spec_HasCard_L2 m n a c i) (decide (c ∈ r))
  | [], i, hd => by
    have hi : a.length ≤ i := by rcases Nat.lt_or_ge i a.length with h | h; · rw [List.drop_eq_getElem_cons h] at hd; cases hd
                                 · exact h
    refine Evl.succ ?_
    simp only [spec_HasCard_L2_eq]
    refine Evl.neg (by simpa using hi) ?_
    rw [decide_eq_false (by simp)]; exact Evl.now false
  | x :: r, i, hd => by
    have hi := drop_lt hd
    refine Evl.succ ?_
    simp only [spec_HasCard_L2_eq]
    refine Evl.pos (by simpa using hi) (Evl.pos (by omega) (Evl.pos (by omega) ?_))
    rw [wrap_succ hi hl, Int.toNat_natCast, drop_getD hd]
    by_cases e : x = c
    · refine Evl.pos (by simp [e]) ?_
      rw [decide_eq_true (by simp [e])]; exact Evl.now true
    · refine Evl.neg (by simp [e]) ?_
      have h := spec_HasCard_loop a c hl r (i + 1) (drop_succ hd)
      rw [show decide (c ∈ x :: r) = decide (c ∈ r) by simp [show c ≠ x from fun h => e h.symm]]
      exact h
theorem spec_HasCard_ok (a : List Int) (c : Int) (hl : a.length ≤ 9223372036854775807) : Evr (fun n => spec_HasCard n a c) (decide (c ∈ a)) := by
  refine Evr.succ ?_
  simp only [spec_HasCard_eq]
  have h := (spec_HasCard_loop a c hl a 0 rfl).both
  rw [Int.natCast_zero] at h
  exact h
theorem impl_PlaceOf_loop (a : List Int) (c : Int) (hl : a.length ≤ 9223372036854775807) : ∀ (r : List Int) (i : Nat), a.drop i = r → ∃ p, Evl (fun m n => impl_PlaceOf_L2 m n c a (a.length : Int) i) p ∧ decide (p ≥ 0) = decide (c ∈ r)
  | [], i, hd => by
    have hi : a.length ≤ i := by rcases Nat.lt_or_ge i a.length with h | h; · rw [List.drop_eq_getElem_cons h] at hd; cases hd
                                 · exact h
    refine ⟨-1, Evl.succ ?_, by simp⟩
    simp only [impl_PlaceOf_L2_eq]
    exact Evl.neg (by simpa using hi) (Evl.now (-1))
  | x :: r, i, hd => by
    have hi := drop_lt hd
    by_cases e : x = c
    · refine ⟨i, Evl.succ ?_, by simp [e]⟩
      simp only [impl_PlaceOf_L2_eq]
      refine Evl.pos (by simpa using hi) (Evl.pos (by omega) (Evl.pos (by omega) ?_))
      rw [Int.toNat_natCast, drop_getD hd]
      exact Evl.pos (by simp [e]) (Evl.now _)
    · obtain ⟨p, h, hp⟩ := impl_PlaceOf_loop a c hl r (i + 1) (drop_succ hd)
      refine ⟨p, Evl.succ ?_, by rw [hp]; simp [show c ≠ x from fun h => e h.symm]⟩
      simp only [impl_PlaceOf_L2_eq]
      refine Evl.pos (by simpa using hi) (Evl.pos (by omega) (Evl.pos (by omega) ?_))
      rw [wrap_succ hi hl, Int.toNat_natCast, drop_getD hd]
      exact Evl.neg (by simp [e]) h
theorem impl_HasCard_ok (a : List Int) (c : Int) (hl : a.length ≤ 9223372036854775807) : Evr (fun n => impl_HasCard n a c) (decide (c ∈ a)) := by
  obtain ⟨p, h, hp⟩ := impl_PlaceOf_loop a c hl a 0 rfl
  refine Evr.succ ?_
  simp only [impl_HasCard_eq]
  refine Evr.bind (a := p) (Evr.succ ?_) ((Evr.now _).to hp)
  simp only [impl_PlaceOf_eq]
  have h := h.both
  rw [Int.natCast_zero] at h
  exact h
theorem laws_szIntS_ok (a : List Int) (x : Int) : ∃ v, Evr (fun n => laws_szIntS n a x) v := by
  by_cases h : IntKind.i64.wrap (x - (a.length : Int)) < 0
  · refine ⟨-1, Evr.succ ?_⟩
    simp only [laws_szIntS_eq]
    exact Evr.pos (by simpa using h) (Evr.now _)
  · refine ⟨IntKind.i64.wrap (x - (a.length : Int)), Evr.succ ?_⟩
    simp only [laws_szIntS_eq]
    exact Evr.neg (by simpa using h) (Evr.now _)
theorem laws_szPeek_ok (b0 : Int) (b1 : List Int) (b2 b3 b4 : Int) (b5 : List Int) (b6 b7 x : Int) : ∃ v, Evr (fun n => laws_szPeek n b0 b1 b2 b3 b4 b5 b6 b7 x) v := by
  obtain ⟨v, hv⟩ := laws_szIntS_ok b1 x
  obtain ⟨u, hu⟩ := laws_szIntS_ok b5 v
  by_cases h : v < 0
  · refine ⟨-1, Evr.succ ?_⟩
    simp only [laws_szPeek_eq]
    exact Evr.bind hv (Evr.pos (by simpa using h) (Evr.now _))
  · by_cases h' : u < 0
    · refine ⟨-1, Evr.succ ?_⟩
      simp only [laws_szPeek_eq]
      exact Evr.bind hv (Evr.neg (by simpa using h) (Evr.bind hu (Evr.pos (by simpa using h') (Evr.now _))))
    · refine ⟨u, Evr.succ ?_⟩
      simp only [laws_szPeek_eq]
      exact Evr.bind hv (Evr.neg (by simpa using h) (Evr.bind hu (Evr.neg (by simpa using h') (Evr.now _))))
theorem laws_toPeek_ok (b0 : Int) (b1 : List Int) (b2 b3 b4 : Int) (b5 : List Int) (b6 b7 : Int) (h1 : b1.length ≤ 17592186044416) (h5 : b5.length ≤ 17592186044416) : Evr (fun n => laws_toPeek n b0 b1 b2 b3 b4 b5 b6 b7) (b0, (b1, (b2, (b3, (b4, (b5, (b6, b7))))))) := by
  refine Evr.succ ?_
  simp only [laws_toPeek_eq]
  exact Evr.bind (laws_toIntS_ok b1 h1) (Evr.bind (laws_toIntS_ok b5 h5) (Evr.now _))
theorem laws_eqPeek_ok (b0 : Int) (b1 : List Int) (b2 b3 b4 : Int) (b5 : List Int) (b6 b7 : Int) (h1 : b1.length ≤ 17592186044416) (h5 : b5.length ≤ 17592186044416) : Evr (fun n => laws_eqPeek n b0 b1 b2 b3 b4 b5 b6 b7 b0 b1 b2 b3 b4 b5 b6 b7) true := by
  refine Evr.succ ?_
  simp only [laws_eqPeek_eq, bne_self_eq_false, Bool.false_eq_true, if_false]
  refine Evr.bind ((laws_eqIntS_ok b1 b1 (by omega)).to (decide_eq_true rfl)) ?_
  refine Evr.neg (by simp) ?_
  refine Evr.bind ((laws_eqIntS_ok b5 b5 (by omega)).to (decide_eq_true rfl)) ?_
  exact Evr.neg (by simp) (Evr.now _)
theorem mayHold_ok (b0 : Int) (b1 : List Int) (b2 b3 b4 : Int) (b5 : List Int) (b6 b7 c : Int) (h1 : b1.length ≤ 17592186044416) : ∃ v, Evr (fun n => spec_MayHold n b0 b1 b2 b3 b4 b5 b6 b7 c) v ∧ Evr (fun n => impl_MayHold n b0 b1 b2 b3 b4 b5 b6 b7 c) v := by
  by_cases h : 0 ≤ c ∧ c ≤ 51
  · by_cases h' : c ∈ b1
    · refine ⟨false, Evr.succ ?_, Evr.succ ?_⟩
      · simp only [spec_MayHold_eq]
        exact Evr.bind (spec_IsCard_ok c) (Evr.pos (by simpa using h) (Evr.bind (spec_HasCard_ok b1 c (by omega)) (Evr.neg (by simpa using h') (Evr.now _))))
      · simp only [impl_MayHold_eq]
        exact Evr.bind (impl_IsCard_ok c) (Evr.pos (by simpa using h) (Evr.bind (impl_HasCard_ok b1 c (by omega)) (Evr.neg (by simpa using h') (Evr.now _))))
    · refine ⟨c != b2, Evr.succ ?_, Evr.succ ?_⟩
      · simp only [spec_MayHold_eq]
        exact Evr.bind (spec_IsCard_ok c) (Evr.pos (by simpa using h) (Evr.bind (spec_HasCard_ok b1 c (by omega)) (Evr.pos (by simpa using h') (Evr.now _))))
      · simp only [impl_MayHold_eq]
        exact Evr.bind (impl_IsCard_ok c) (Evr.pos (by simpa using h) (Evr.bind (impl_HasCard_ok b1 c (by omega)) (Evr.pos (by simpa using h') (Evr.now _))))
  · refine ⟨false, Evr.succ ?_, Evr.succ ?_⟩
    · simp only [spec_MayHold_eq]
      exact Evr.bind (spec_IsCard_ok c) (Evr.neg (by simpa using h) (Evr.now _))
    · simp only [impl_MayHold_eq]
      exact Evr.bind (impl_IsCard_ok c) (Evr.neg (by simpa using h) (Evr.now _))
theorem laws_FnExactMayHold_ok (b0 : Int) (b1 : List Int) (b2 b3 b4 : Int) (b5 : List Int) (b6 b7 c : Int) (h1 : b1.length ≤ 17592186044416) (h5 : b5.length ≤ 17592186044416) : Evr (fun n => laws_FnExactMayHold n b0 b1 b2 b3 b4 b5 b6 b7 c) true := by
  refine Evr.succ ?_
  simp only [laws_FnExactMayHold_eq]
  obtain ⟨v, hv⟩ := laws_szPeek_ok b0 b1 b2 b3 b4 b5 b6 b7 1048576
  refine Evr.bind hv ?_
  by_cases h : v < 0
  · exact Evr.pos (by simpa using h) (Evr.now _)
  refine Evr.neg (by simpa using h) ?_
  obtain ⟨u, hu, hu'⟩ := mayHold_ok b0 b1 b2 b3 b4 b5 b6 b7 c h1
  have tp := laws_toPeek_ok b0 b1 b2 b3 b4 b5 b6 b7 h1 h5
  refine Evr.bind tp (Evr.bind hu (Evr.bind tp (Evr.bind hu' (Evr.neg (by simp) (Evr.bind tp (Evr.bind (laws_eqPeek_ok b0 b1 b2 b3 b4 b5 b6 b7 h1 h5) (Evr.neg (by simp) (Evr.now _))))))))
theorem law_FnExactMayHold (x : den (parTy HH 5)) (hx : Fit Try.prog (parTy HH 5) x) : ∃ n, frun Try.prog HH n 5 x = some true := by
  obtain ⟨b0, b1, b2, b3, b4, b5, b6, b7, c⟩ := (x : Int × List Int × Int × Int × Int × List Int × Int × Int × Int)
  have h : Fit Try.prog (.pair (.int .i64) (.pair (.sl 3 (.int .i64)) (.pair (.int .i64) (.pair (.int .i64) (.pair (.int .i64) (.pair (.sl 3 (.int .i64)) (.pair (.int .i64) (.pair (.int .i64) (.int .i64))))))))) (b0, b1, b2, b3, b4, b5, b6, b7, c) := hx
  obtain ⟨_, ⟨g1, _⟩, _, _, _, ⟨g5, _⟩, _⟩ := h
  have hb : bytesT Try.prog 3 = 8 := by kernel_rfl
  rw [hb] at g1 g5
  have hr : reachBytes = 140737488351232 := rfl
  rw [hr] at g1 g5
  have g1 : b1.length * 8 ≤ 140737488351232 := g1
  have g5 : b5.length * 8 ≤ 140737488351232 := g5
  obtain ⟨n, hn⟩ := laws_FnExactMayHold_ok b0 b1 b2 b3 b4 b5 b6 b7 c (by omega) (by omega)
  exact ⟨n, hn n (Nat.le_refl _)⟩
end Go.Proofs.Ytlkjkhmifhmjbaa.V
