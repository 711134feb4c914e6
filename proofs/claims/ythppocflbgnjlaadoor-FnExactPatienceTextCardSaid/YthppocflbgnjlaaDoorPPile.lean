/- Plain laws over the shapes. -/
import Derived.Test.YthppocflbgnjlaaDoorP1
import Derived.Test.YthppocflbgnjlaaDoorFIsPile
import Derived.Test.YthppocflbgnjlaaDoorS1
import Derived.Test.YthppocflbgnjlaaDoorS2
import Derived.Test.YthppocflbgnjlaaDoorS3
set_option linter.unusedVariables false
set_option linter.unusedSimpArgs false
set_option maxRecDepth 10000
namespace Go.Proofs.YthppocflbgnjlaaDoor.V
open Go
theorem rankM_bound (c : Int) : -1 ≤ rankM c ∧ rankM c ≤ 12 := by
  unfold rankM
  by_cases h : isC c = true
  · rw [if_pos h]
    obtain ⟨h1, h2⟩ := isC_iff.1 h
    rw [Int.tmod_eq_emod_of_nonneg h1]; omega
  · rw [if_neg h]; omega
theorem suitM_card {c : Int} (h : isC c = true) : 0 ≤ suitM c ∧ suitM c ≤ 3 := by
  obtain ⟨h1, h2⟩ := isC_iff.1 h
  unfold suitM
  have e := Int.tdiv_eq_ediv_of_nonneg (b := 13) h1
  rw [if_pos h, wrap_id (by omega) (by omega), e]
  omega
/-- May c lie on u? -/
def onM (u c : Int) : Bool := decide (rankM c = rankM u - 1) && (redM c != redM u)
theorem spec_l16Step_ok (u c : Int) : spec_l16Step u c = some (onM u c) := by
  obtain ⟨b1, b2⟩ := rankM_bound c
  have w : IntKind.i64.wrap (rankM c + 1) = rankM c + 1 := wrap_id (by omega) (by omega)
  rw [spec_l16Step_eq]
  simp only [spec_RankOf_ok, spec_IsRed_ok, Option.bind_some, w, onM]
  by_cases h : rankM u = rankM c + 1
  · rw [if_pos (by simpa using h), decide_eq_true (by omega), Bool.true_and]
    cases redM u <;> cases redM c <;> rfl
  · rw [if_neg (by simpa using h), decide_eq_false (by omega), Bool.false_and]
theorem impl_goesOn_ok (u c : Int) : impl_goesOn u c = some (onM u c) := by
  obtain ⟨b1, b2⟩ := rankM_bound u
  have w : IntKind.i64.wrap (rankM u - 1) = rankM u - 1 := wrap_id (by omega) (by omega)
  rw [impl_goesOn_eq]
  simp only [impl_RankOf_ok, impl_IsRed_ok, Option.bind_some, w, onM]
  by_cases h : rankM c = rankM u - 1
  · rw [if_pos (by simpa using h), decide_eq_true h, Bool.true_and]
  · rw [if_neg (by simpa using h), decide_eq_false h, Bool.false_and]
/-- From place n on: does each card lie well on the one before? -/
def chainM (l : List Int) (n : Nat) : Bool := (List.range l.length).all fun i => !decide (n ≤ i) || onM (l.getD (i - 1) 0) (l.getD i 0)
theorem chain_step {l : List Int} {n : Nat} (h : n < l.length) : chainM l n = (onM (l.getD (n - 1) 0) (l.getD n 0) && chainM l (n + 1)) := by
  unfold chainM
  rw [Bool.eq_iff_iff]
  simp only [Bool.and_eq_true, List.all_eq_true, List.mem_range, Bool.or_eq_true, Bool.not_eq_true', decide_eq_false_iff_not]
  constructor
  · intro k
    exact ⟨(k n h).resolve_left (by omega), fun i hi => (k i hi).imp (by omega) id⟩
  · intro ⟨k1, k2⟩ i hi
    by_cases e : i = n
    · subst e; exact .inr k1
    · exact (k2 i hi).imp (by omega) id
theorem chain_end {l : List Int} {n : Nat} (h : l.length ≤ n) : chainM l n = true := by
  unfold chainM
  rw [List.all_eq_true]
  intro i hi
  have := List.mem_range.1 hi
  rw [decide_eq_false (by omega)]; rfl
def pileM (l : List Int) (h : Int) : Bool := handM l && (inR h 0 (l.length : Int) && chainM l (h + 1).toNat)
theorem spec_IsPile_ok (l : List Int) (h : Int) (hl : l.length ≤ 4398046511104) : spec_IsPile l h = some (pileM l h) := by
  have key : ∀ d i : Nat, i + d = l.length → 0 < i → spec_IsPile_L4 i l h = some (chainM l i) := by
    intro d
    induction d with
    | zero =>
      intro i hi h0
      rw [chain_end (by omega), spec_IsPile_L4_eq, if_neg (by simp; omega)]
    | succ d ih =>
      intro i hi h0
      have hil : i < l.length := by omega
      have w1 : IntKind.i64.wrap ((i : Int) + 1) = ((i + 1 : Nat) : Int) := by rw [wrap_id (by omega) (by omega)]; omega
      have w2 : IntKind.i64.wrap ((i : Int) - 1) = ((i - 1 : Nat) : Int) := by rw [wrap_id (by omega) (by omega)]; omega
      rw [spec_IsPile_L4_eq, chain_step hil]
      simp (disch := (first | omega | (simp only [List.length_append, List.length_cons, List.length_nil, List.length_take, List.length_drop, List.length_set, List.length_replicate, List.length_singleton]; omega))) only [↓if_dpos, ↓if_dneg, ↓if_epos, ↓if_eneg, ↓if_npos, ↓if_nneg, ↓if_pos, ↓if_neg, w1, w2, Int.toNat_natCast, List.nil_append, Nat.zero_add, List.length_singleton, Option.bind_some, List.drop_zero, List.take_length, if_true, if_false, spec_l16Step_ok, ih (i + 1) (by omega) (by omega)]
      cases onM (l.getD (i - 1) 0) (l.getD i 0) <;> rfl
  rw [spec_IsPile_eq, spec_IsHand_ok _ (by omega), Option.bind_some, spec_l1In_ok, pileM]
  cases handM l
  · rfl
  · cases hr : inR h 0 (l.length : Int)
    · rfl
    · simp [inR] at hr
      have w1 : IntKind.i64.wrap (h + 1) = (((h + 1).toNat : Nat) : Int) := by rw [wrap_id (by omega) (by omega)]; omega
      simp only [Bool.not_true, Bool.false_eq_true, if_false, Option.bind_some, Bool.true_and, w1]
      by_cases c : (h + 1).toNat ≤ l.length
      · exact key (l.length - (h + 1).toNat) _ (by omega) (by omega)
      · rw [chain_end (by omega), spec_IsPile_L4_eq, if_neg (by simp; omega)]
theorem impl_IsPile_ok (l : List Int) (h : Int) (hl : l.length ≤ 4398046511104) : impl_IsPile l h = some (pileM l h) := by
  have key : ∀ d i : Nat, i + d = l.length → 0 < i → impl_IsPile_L4 i l h = some (chainM l i) := by
    intro d
    induction d with
    | zero =>
      intro i hi h0
      rw [chain_end (by omega), impl_IsPile_L4_eq, if_neg (by simp; omega)]
    | succ d ih =>
      intro i hi h0
      have hil : i < l.length := by omega
      have w1 : IntKind.i64.wrap ((i : Int) + 1) = ((i + 1 : Nat) : Int) := by rw [wrap_id (by omega) (by omega)]; omega
      have w2 : IntKind.i64.wrap ((i : Int) - 1) = ((i - 1 : Nat) : Int) := by rw [wrap_id (by omega) (by omega)]; omega
      rw [impl_IsPile_L4_eq, chain_step hil]
      simp (disch := (first | omega | (simp only [List.length_append, List.length_cons, List.length_nil, List.length_take, List.length_drop, List.length_set, List.length_replicate, List.length_singleton]; omega))) only [↓if_dpos, ↓if_dneg, ↓if_epos, ↓if_eneg, ↓if_npos, ↓if_nneg, ↓if_pos, ↓if_neg, w1, w2, Int.toNat_natCast, List.nil_append, Nat.zero_add, List.length_singleton, Option.bind_some, List.drop_zero, List.take_length, if_true, if_false, impl_goesOn_ok, ih (i + 1) (by omega) (by omega)]
      cases onM (l.getD (i - 1) 0) (l.getD i 0) <;> rfl
  rw [impl_IsPile_eq, impl_IsHand_ok _ (by omega), Option.bind_some, impl_InRange_ok, pileM]
  cases handM l
  · rfl
  · cases hr : inR h 0 (l.length : Int)
    · rfl
    · simp [inR] at hr
      have w1 : IntKind.i64.wrap (h + 1) = (((h + 1).toNat : Nat) : Int) := by rw [wrap_id (by omega) (by omega)]; omega
      simp only [Bool.not_true, Bool.false_eq_true, if_false, Option.bind_some, Bool.true_and, w1]
      by_cases c : (h + 1).toNat ≤ l.length
      · exact key (l.length - (h + 1).toNat) _ (by omega) (by omega)
      · rw [chain_end (by omega), impl_IsPile_L4_eq, if_neg (by simp; omega)]
theorem pileM_hid {l : List Int} {h : Int} (hp : pileM l h = true) : 0 ≤ h ∧ h ≤ (l.length : Int) := by
  simp only [pileM, Bool.and_eq_true] at hp
  simpa [inR] using hp.2.1
def topM (l : List Int) : Int := if l.length = 0 then -1 else l.getD (l.length - 1) 0
def openM (l : List Int) (h : Int) : Int := if pileM l h = true then (l.length : Int) - h else 0
theorem impl_OpenCards_ok (l : List Int) (h : Int) (hl : l.length ≤ 4398046511104) : impl_OpenCards l h = some (openM l h) := by
  rw [impl_OpenCards_eq, impl_IsPile_ok l h hl, Option.bind_some, openM]
  cases hp : pileM l h
  · rfl
  · have := pileM_hid hp
    rw [wrap_id (by omega) (by omega)]; rfl
def mayM (l : List Int) (h c : Int) : Bool := pileM l h && (isC c && (!hasM l c && (if l.length = 0 then decide (rankM c = 11) else (decide (h < (l.length : Int)) && onM (topM l) c))))
/-- Cards put on one after the other; told of the pile as it was, if one may not be put. -/
def stackR (l0 : List Int) (h : Int) : List Int → List Int → List Int × Int × Bool
  | [], l => (l, h, true)
  | c :: cs, l => if mayM l h c = true then stackR l0 h cs (l ++ [c]) else (l0, h, false)
def stackM (l : List Int) (h : Int) (cs : List Int) : List Int × Int × Bool := stackR l h cs l
theorem stackR_length (l0 : List Int) (h : Int) : ∀ cs l, (stackR l0 h cs l).1.length ≤ max l0.length (l.length + cs.length) := by
  intro cs
  induction cs with
  | nil => intro l; simp only [stackR, List.length_nil]; omega
  | cons c cs ih =>
    intro l
    rw [stackR]
    split
    · have := ih (l ++ [c]); simp only [List.length_append, List.length_cons, List.length_nil] at *; omega
    · simp only [List.length_cons]; omega
def hidM (h : Int) (at' : Nat) : Int := if 0 < at' ∧ h = (at' : Int) then h - 1 else h
def liftM (l : List Int) (h n : Int) : List Int × Int × List Int × Bool :=
  if inR n 1 (openM l h) = true then (l.take (l.length - n.toNat), hidM h (l.length - n.toNat), l.drop (l.length - n.toNat), true) else (l, h, [], false)
theorem openM_pos {l : List Int} {h n : Int} (hn : inR n 1 (openM l h) = true) : pileM l h = true ∧ 1 ≤ n ∧ n ≤ (l.length : Int) - h ∧ 0 ≤ h := by
  unfold openM at hn
  cases hp : pileM l h
  · rw [hp] at hn; simp [inR] at hn; omega
  · rw [hp] at hn
    have := pileM_hid hp
    simp [inR] at hn
    exact ⟨rfl, by omega, by omega, by omega⟩
theorem liftM_size (l : List Int) (h n : Int) : (liftM l h n).1.length ≤ l.length ∧ (liftM l h n).2.2.1.length ≤ l.length := by
  unfold liftM; split
  · simp only [List.length_take, List.length_drop]; omega
  · exact ⟨Nat.le_refl _, Nat.zero_le _⟩
end Go.Proofs.YthppocflbgnjlaaDoor.V
