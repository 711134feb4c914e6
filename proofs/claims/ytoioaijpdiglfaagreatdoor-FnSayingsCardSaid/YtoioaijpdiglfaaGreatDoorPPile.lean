/- Plain laws over the shapes. -/
import Derived.Test.YtoioaijpdiglfaaGreatDoorEWords
import Derived.Test.YtoioaijpdiglfaaGreatDoorS3
import Derived.Test.YtoioaijpdiglfaaGreatDoorS7
import Derived.Test.YtoioaijpdiglfaaGreatDoorLFnSayings
set_option linter.unusedVariables false
set_option linter.unusedSimpArgs false
set_option maxRecDepth 10000
namespace Go.Proofs.YtoioaijpdiglfaaGreatDoor.V
open Go
theorem bindF {α β : Type} {x : Option α} {v : α} (h : x = some v) (k : α → Option β) : x.bind k = k v := by rw [h]; rfl
theorem if_dpos {α : Type} {p : Prop} [Decidable p] {a b : α} (h : p) : (if decide p = true then a else b) = a := if_pos (decide_eq_true h)
theorem if_dneg {α : Type} {p : Prop} [Decidable p] {a b : α} (h : ¬ p) : (if decide p = true then a else b) = b := if_neg (by simpa using h)
theorem if_epos {α : Type} {x y : Int} {a b : α} (h : x = y) : (if (x == y) = true then a else b) = a := if_pos (by simpa using h)
theorem if_eneg {α : Type} {x y : Int} {a b : α} (h : ¬ x = y) : (if (x == y) = true then a else b) = b := if_neg (by simpa using h)
theorem if_npos {α : Type} {x y : Int} {a b : α} (h : ¬ x = y) : (if (x != y) = true then a else b) = a := if_pos (by simpa using h)
theorem if_nneg {α : Type} {x y : Int} {a b : α} (h : x = y) : (if (x != y) = true then a else b) = b := if_neg (by simpa using h)
theorem take_succ_getD {α : Type} {l : List α} {i : Nat} {d : α} (h : i < l.length) : l.take (i + 1) = l.take i ++ [l.getD i d] := by
  rw [List.take_succ_eq_append_getElem h, List.getD_eq_getElem?_getD, List.getElem?_eq_getElem h]; rfl
theorem impl_copyOf_ok (l : List Int) (h : l.length ≤ 17592186044416) : impl_copyOf l = some l := by
  rw [impl_copyOf_eq]
  simp (disch := (first | omega | (simp only [List.length_append, List.length_cons, List.length_nil, List.length_take, List.length_drop, List.length_set, List.length_replicate, List.length_singleton]; omega))) only [↓if_dpos, ↓if_dneg, ↓if_epos, ↓if_eneg, ↓if_npos, ↓if_nneg, ↓if_pos, ↓if_neg, Int.toNat_natCast, List.nil_append, Nat.zero_add, List.length_singleton, Option.bind_some, List.drop_zero, List.take_length, if_true, if_false]
theorem impl_copyRows_ok (l : List (List Int)) (h : l.length ≤ 2097152) (hr : ∀ r ∈ l, r.length ≤ 17592186044416) : impl_copyRows l = some l := by
  have h : ∀ i, i ≤ l.length → impl_copyRows_L3 l l.length i (l.take i) = some l := down (by
      rw [impl_copyRows_L3_eq]
      simp (disch := (first | omega | (simp only [List.length_append, List.length_cons, List.length_nil, List.length_take, List.length_drop, List.length_set, List.length_replicate, List.length_singleton]; omega))) only [↓if_dpos, ↓if_dneg, ↓if_epos, ↓if_eneg, ↓if_npos, ↓if_nneg, ↓if_pos, ↓if_neg, Int.toNat_natCast, List.nil_append, Nat.zero_add, List.length_singleton, Option.bind_some, List.drop_zero, List.take_length, if_true, if_false, ]) fun i hi ih => by
    have e := impl_copyOf_ok _ (hr _ (getD_mem (d := []) hi))
    have hil : (i : Int) < (l.length : Int) := by omega
    have hw : IntKind.i64.wrap ((i : Int) + 1) = ((i + 1 : Nat) : Int) := wrap_succ hi (by omega)
    rw [impl_copyRows_L3_eq]
    simp (disch := (first | omega | (simp only [List.length_append, List.length_cons, List.length_nil, List.length_take, List.length_drop, List.length_set, List.length_replicate, List.length_singleton]; omega))) only [↓if_dpos, ↓if_dneg, ↓if_epos, ↓if_eneg, ↓if_npos, ↓if_nneg, ↓if_pos, ↓if_neg, hw, Int.toNat_natCast, List.nil_append, Nat.zero_add, List.length_singleton, Option.bind_some, List.drop_zero, List.take_length, if_true, if_false, e]
    rw [← ih, take_succ_getD (d := []) hi]
  rw [impl_copyRows_eq]
  exact h 0 (Nat.zero_le _)
theorem spec_l15Copy_ok (l : List (List Int)) (h : l.length ≤ 2097152) (hr : ∀ r ∈ l, r.length ≤ 17592186044416) : spec_l15Copy l = some l := by
  have h : ∀ i, i ≤ l.length → spec_l15Copy_L3 l i (l.take i) = some l := down (by
      rw [spec_l15Copy_L3_eq]
      simp (disch := (first | omega | (simp only [List.length_append, List.length_cons, List.length_nil, List.length_take, List.length_drop, List.length_set, List.length_replicate, List.length_singleton]; omega))) only [↓if_dpos, ↓if_dneg, ↓if_epos, ↓if_eneg, ↓if_npos, ↓if_nneg, ↓if_pos, ↓if_neg, Int.toNat_natCast, List.nil_append, Nat.zero_add, List.length_singleton, Option.bind_some, List.drop_zero, List.take_length, if_true, if_false, ]) fun i hi ih => by
    have e := hr _ (getD_mem (d := []) hi)
    have hil : (i : Int) < (l.length : Int) := by omega
    have hw : IntKind.i64.wrap ((i : Int) + 1) = ((i + 1 : Nat) : Int) := wrap_succ hi (by omega)
    rw [spec_l15Copy_L3_eq]
    simp (disch := (first | omega | (simp only [List.length_append, List.length_cons, List.length_nil, List.length_take, List.length_drop, List.length_set, List.length_replicate, List.length_singleton]; omega))) only [↓if_dpos, ↓if_dneg, ↓if_epos, ↓if_eneg, ↓if_npos, ↓if_nneg, ↓if_pos, ↓if_neg, hw, Int.toNat_natCast, List.nil_append, Nat.zero_add, List.length_singleton, Option.bind_some, List.drop_zero, List.take_length, if_true, if_false, ]
    rw [← ih, take_succ_getD (d := []) hi]
  rw [spec_l15Copy_eq]
  exact h 0 (Nat.zero_le _)
def inR (a b c : Int) : Bool := decide (b ≤ a) && decide (a ≤ c)
theorem spec_l1In_ok (a b c : Int) : spec_l1In a b c = some (inR a b c) := by
  rw [spec_l1In_eq, inR]
  by_cases h : b ≤ a
  · rw [if_pos (decide_eq_true h), decide_eq_true h, Bool.true_and]
  · rw [if_neg (by simpa using h), decide_eq_false h, Bool.false_and]
theorem impl_InRange_ok (a b c : Int) : impl_InRange a b c = some (inR a b c) := by
  rw [impl_InRange_eq, inR]
  by_cases h : b ≤ a
  · rw [if_pos (decide_eq_true h), decide_eq_true h, Bool.true_and]
  · rw [if_neg (by simpa using h), decide_eq_false h, Bool.false_and]
def isC (c : Int) : Bool := decide (0 ≤ c) && decide (c ≤ 51)
theorem spec_IsCard_ok (c : Int) : spec_IsCard c = some (isC c) := by rw [spec_IsCard_eq, spec_l1In_ok, Option.bind_some]; rfl
theorem impl_IsCard_ok (c : Int) : impl_IsCard c = some (isC c) := by rw [impl_IsCard_eq, impl_InRange_ok, Option.bind_some]; rfl
theorem isC_iff {c : Int} : isC c = true ↔ 0 ≤ c ∧ c ≤ 51 := by simp [isC]
/-- A loop over a row, its states kept by I, told by a recursion M over the row. -/
theorem over {α σ R : Type} {l : List α} {d : α} {g : Nat → σ → Option R} {M : List α → σ → R} (I : Nat → σ → Prop)
    (hend : ∀ s, I l.length s → g l.length s = some (M [] s))
    (hstep : ∀ i s, i < l.length → I i s → (∀ s', I (i + 1) s' → g (i + 1) s' = some (M (l.drop (i + 1)) s')) → g i s = some (M (l.getD i d :: l.drop (i + 1)) s)) :
    ∀ s, I 0 s → g 0 s = some (M l s) := fun s hs => by
  have h : ∀ i, i ≤ l.length → ∀ s, I i s → g i s = some (M (l.drop i) s) := down (by
    intro s hs; rw [List.drop_of_length_le (Nat.le_refl _)]; exact hend s hs) fun i hi ih s hs => by
    rw [getD_drop (d := d) hi]; exact hstep i s hi hs ih
  simpa using h 0 (Nat.zero_le _) s hs
def hasM (l : List Int) (c : Int) : Bool := decide (c ∈ l)
def withoutM (l : List Int) (c : Int) : List Int := l.filter fun x => x != c
def kG (p : Int → Bool) (out : List Int) : Nat → Nat
  | 0 => 0
  | k + 1 => if p (out.getD k 0) = true then kG p out k else k + 1
def insG (p : Int → Bool) (out : List Int) (c : Int) : List Int := out.take (kG p out out.length) ++ c :: out.drop (kG p out out.length)
theorem insG_perm (p : Int → Bool) (out : List Int) (c : Int) : (insG p out c).Perm (c :: out) := by
  unfold insG
  refine List.perm_middle.trans ?_
  rw [List.take_append_drop]
def insM (out : List Int) (c : Int) : List Int := insG (fun x => decide (x > c)) out c
def sortM (l : List Int) : List Int := l.foldl insM []
theorem foldl_insM_perm (l : List Int) : ∀ out, (l.foldl insM out).Perm (l ++ out) := by
  induction l with
  | nil => intro out; exact List.Perm.refl _
  | cons c l ih =>
    intro out
    refine (ih _).trans ?_
    refine ((insG_perm _ out c).append_left l).trans ?_
    exact List.perm_middle
theorem sortM_perm (l : List Int) : (sortM l).Perm l := by
  have := foldl_insM_perm l []; rw [List.append_nil] at this; exact this
theorem sortM_length (l : List Int) : (sortM l).length = l.length := (sortM_perm l).length_eq
theorem sortM_mem {l : List Int} {c : Int} : c ∈ sortM l ↔ c ∈ l := (sortM_perm l).mem_iff
theorem foldl_take {α β : Type} {f : β → α → β} {a : β} {l : List α} {i : Nat} {d : α} (hi : i < l.length) : (l.take (i + 1)).foldl f a = f ((l.take i).foldl f a) (l.getD i d) := by
  have : l.take (i + 1) = l.take i ++ [l.getD i d] := by
    rw [List.take_succ_eq_append_getElem hi, List.getD_eq_getElem?_getD, List.getElem?_eq_getElem hi]; rfl
  rw [this, List.foldl_append]; rfl
theorem flat_len_le {l : List (List Int)} {n m : Nat} (h : ∀ r ∈ l, r.length ≤ m) (hl : l.length ≤ n) : l.flatten.length ≤ n * m := by
  have : l.flatten.length ≤ l.length * m := by
    clear hl
    induction l with
    | nil => simp
    | cons x l ih =>
      have h1 := h x (by simp); have h2 := ih fun r hr => h r (by simp [hr])
      simp [Nat.add_mul] at *; omega
  exact Nat.le_trans this (Nat.mul_le_mul_right _ hl)
def handM (l : List Int) : Bool := l.all isC && decide l.Nodup
theorem handM_perm {a b : List Int} (h : a.Perm b) : handM a = handM b := by
  unfold handM
  rw [Bool.eq_iff_iff]
  simp only [Bool.and_eq_true, decide_eq_true_eq, List.all_eq_true]
  exact and_congr ⟨fun k x hx => k x (h.mem_iff.2 hx), fun k x hx => k x (h.mem_iff.1 hx)⟩ h.nodup_iff
def handR (pre : List Int) : List Int → Bool
  | [] => true
  | x :: l => isC x && (!hasM pre x && handR (pre ++ [x]) l)
theorem handR_eq (l : List Int) : ∀ pre, handR pre l = (handM l && decide (∀ x ∈ l, x ∉ pre)) := by
  induction l with
  | nil => intro pre; simp [handR, handM]
  | cons x l ih =>
    intro pre
    rw [handR, ih]
    unfold handM hasM
    rw [Bool.eq_iff_iff]
    simp only [Bool.and_eq_true, decide_eq_true_eq, List.all_eq_true, List.mem_append, List.mem_singleton, List.nodup_cons, List.mem_cons, Bool.not_eq_true', decide_eq_false_iff_not]
    constructor
    · intro ⟨h1, h2, ⟨h3, h4⟩, h5⟩
      refine ⟨⟨fun y hy => ?_, fun hx => h5 x hx (.inr (.inl rfl)), h4⟩, fun y hy => ?_⟩
      · rcases hy with rfl | hy
        · exact h1
        · exact h3 y hy
      · rcases hy with rfl | hy
        · exact h2
        · exact fun hp => h5 y hy (.inl hp)
    · intro ⟨⟨h1, h2, h3⟩, h4⟩
      refine ⟨h1 x (.inl rfl), h4 x (.inl rfl), ⟨fun y hy => h1 y (.inr hy), h3⟩, fun y hy hp => ?_⟩
      rcases hp with hp | rfl | hp
      · exact h4 y (.inr hy) hp
      · exact h2 hy
      · cases hp
theorem handR_nil (l : List Int) : handR [] l = handM l := by rw [handR_eq]; simp
def handS (s : List Bool) : List Int → Bool
  | [] => true
  | x :: l => isC x && (!s.getD x.toNat false && handS (s.set x.toNat true) l)
theorem handS_eq (l : List Int) : ∀ pre s, s.length = 52 → (∀ c : Nat, c < 52 → s.getD c false = hasM pre c) → handS s l = handR pre l := by
  induction l with
  | nil => intro pre s _ _; rfl
  | cons x l ih =>
    intro pre s h1 h2
    rw [handS, handR]
    by_cases hx : isC x = true
    · obtain ⟨k1, k2⟩ := isC_iff.1 hx
      have e : ((x.toNat : Nat) : Int) = x := Int.toNat_of_nonneg k1
      have hn : x.toNat < 52 := by omega
      rw [h2 _ hn, e, ih (pre ++ [x]) _ (by simpa using h1)]
      intro c hc
      rw [List.getD_eq_getElem?_getD, List.getElem?_set]
      by_cases q : x.toNat = c
      · rw [if_pos q, if_pos (by omega)]; subst q; simp [hasM, e]
      · rw [if_neg q, ← List.getD_eq_getElem?_getD, h2 _ hc]
        have : (c : Int) ≠ x := by omega
        simp [hasM, this]
    · simp [hx]
theorem handS_nil (l : List Int) : handS (List.replicate 52 false) l = handM l := by
  rw [handS_eq l [] _ (by simp), handR_nil]
  intro c hc
  rw [List.getD_eq_getElem?_getD, List.getElem?_replicate, if_pos hc]
  simp [hasM]
/-- Rows of rows, bounded. -/
structure G2 (l : List (List Int)) : Prop where
  len : l.length ≤ 2097152
  row : ∀ r ∈ l, r.length ≤ 2097152
theorem G2.flat {l : List (List Int)} (h : G2 l) : l.flatten.length ≤ 4398046511104 := flat_len_le h.row h.len
theorem G2.nil : G2 [] := ⟨Nat.zero_le _, fun r hr => by cases hr⟩
theorem G2.at' {l : List (List Int)} (h : G2 l) {i : Nat} : (l.getD i []).length ≤ 2097152 := by
  by_cases hi : i < l.length
  · exact h.row _ (getD_mem hi)
  · rw [List.getD_eq_getElem?_getD, List.getElem?_eq_none (by omega)]; exact Nat.zero_le _
theorem flat_take {l : List (List Int)} {i : Nat} (hi : i < l.length) : (l.take (i + 1)).flatten = (l.take i).flatten ++ l.getD i [] := by
  have : l.take (i + 1) = l.take i ++ [l.getD i []] := by
    rw [List.take_succ_eq_append_getElem hi, List.getD_eq_getElem?_getD, List.getElem?_eq_getElem hi]; rfl
  rw [this, List.flatten_append]; simp
theorem flat_take_le (l : List (List Int)) (i : Nat) : (l.take i).flatten.length ≤ l.flatten.length := by
  have : l.flatten = (l.take i).flatten ++ (l.drop i).flatten := by rw [← List.flatten_append, List.take_append_drop]
  rw [this, List.length_append]; omega
def sumW (l : List Int) : Int := l.foldl (fun n x => IntKind.i64.wrap (n + x)) 0
theorem G2.set {l : List (List Int)} (h : G2 l) {i : Nat} {r : List Int} (hr : r.length ≤ 2097152) : G2 (l.set i r) := ⟨by rw [List.length_set]; exact h.len, fun x hx => by
  rcases List.mem_or_eq_of_mem_set hx with h1 | h1
  · exact h.row x h1
  · rw [h1]; exact hr⟩
theorem G2.small {l : List (List Int)} {n : Nat} (h1 : l.length ≤ 2097152) (h2 : l.flatten.length ≤ n) (hn : n ≤ 2097152) : G2 l := ⟨h1, fun x hx => by
  have : x.length ≤ l.flatten.length := by
    clear h1 h2
    induction l with
    | nil => cases hx
    | cons y l ih =>
      rw [List.flatten_cons, List.length_append]
      rcases List.mem_cons.1 hx with e | e
      · subst e; omega
      · have := ih e; omega
  omega⟩
/-- Rows of piles, bounded. -/
structure G3 (l : List (List Int × Int)) : Prop where
  len : l.length ≤ 2097152
  row : ∀ r ∈ l, r.1.length ≤ 2097152
theorem G3.at' {l : List (List Int × Int)} (h : G3 l) {i : Nat} : (l.getD i ([], 0)).1.length ≤ 2097152 := by
  by_cases hi : i < l.length
  · exact h.row _ (getD_mem hi)
  · rw [List.getD_eq_getElem?_getD, List.getElem?_eq_none (by omega)]; exact Nat.zero_le _
theorem G3.set {l : List (List Int × Int)} (h : G3 l) {i : Nat} {r : List Int × Int} (hr : r.1.length ≤ 2097152) : G3 (l.set i r) := ⟨by rw [List.length_set]; exact h.len, fun x hx => by
  rcases List.mem_or_eq_of_mem_set hx with h1 | h1
  · exact h.row x h1
  · rw [h1]; exact hr⟩
def cardsP (ps : List (List Int × Int)) : List Int := (ps.map fun p => p.1).flatten
theorem cardsP_take {l : List (List Int × Int)} {i : Nat} (hi : i < l.length) : cardsP (l.take (i + 1)) = cardsP (l.take i) ++ (l.getD i ([], 0)).1 := by
  have : l.take (i + 1) = l.take i ++ [l.getD i ([], 0)] := by
    rw [List.take_succ_eq_append_getElem hi, List.getD_eq_getElem?_getD, List.getElem?_eq_getElem hi]; rfl
  rw [cardsP, this, List.map_append, List.flatten_append]; simp [cardsP]
theorem cardsP_take_le (l : List (List Int × Int)) (i : Nat) : (cardsP (l.take i)).length ≤ (cardsP l).length := by
  have : cardsP l = cardsP (l.take i) ++ cardsP (l.drop i) := by rw [cardsP, cardsP, cardsP, ← List.flatten_append, ← List.map_append, List.take_append_drop]
  rw [this, List.length_append]; omega
theorem G3.cards {l : List (List Int × Int)} (h : G3 l) : (cardsP l).length ≤ 4398046511104 := by
  unfold cardsP
  refine flat_len_le (n := 2097152) (m := 2097152) (fun r hr => ?_) (by simpa using h.len)
  obtain ⟨p, hp, e⟩ := List.mem_map.1 hr
  rw [← e]; exact h.row p hp
theorem hasM_drop {l : List Int} {c : Int} {i : Nat} (hi : i < l.length) : hasM (l.drop i) c = (decide (l.getD i 0 = c) || hasM (l.drop (i + 1)) c) := by
  rw [getD_drop (d := 0) hi]
  unfold hasM
  rw [Bool.eq_iff_iff]
  simp only [List.mem_cons, decide_eq_true_eq, Bool.or_eq_true]
  exact or_congr eq_comm Iff.rfl
theorem spec_HasCard_ok (l : List Int) (c : Int) (h : l.length ≤ 17592186044416) : spec_HasCard l c = some (hasM l c) := by
  have h : ∀ i, i ≤ l.length → spec_HasCard_L2 l c i = some (hasM (l.drop i) c) := down (by
      rw [spec_HasCard_L2_eq]
      simp (disch := (first | omega | (simp only [List.length_append, List.length_cons, List.length_nil, List.length_take, List.length_drop, List.length_set, List.length_replicate, List.length_singleton]; omega))) only [↓if_dpos, ↓if_dneg, ↓if_epos, ↓if_eneg, ↓if_npos, ↓if_nneg, ↓if_pos, ↓if_neg, Int.toNat_natCast, List.nil_append, Nat.zero_add, List.length_singleton, Option.bind_some, List.drop_zero, List.take_length, if_true, if_false, ]
      simp [hasM]) fun i hi ih => by
    have hil : (i : Int) < (l.length : Int) := by omega
    have hw : IntKind.i64.wrap ((i : Int) + 1) = ((i + 1 : Nat) : Int) := wrap_succ hi (by omega)
    rw [spec_HasCard_L2_eq]
    simp (disch := (first | omega | (simp only [List.length_append, List.length_cons, List.length_nil, List.length_take, List.length_drop, List.length_set, List.length_replicate, List.length_singleton]; omega))) only [↓if_dpos, ↓if_dneg, ↓if_epos, ↓if_eneg, ↓if_npos, ↓if_nneg, ↓if_pos, ↓if_neg, hw, Int.toNat_natCast, List.nil_append, Nat.zero_add, List.length_singleton, Option.bind_some, List.drop_zero, List.take_length, if_true, if_false, ih]
    rw [hasM_drop hi]
    by_cases e : l.getD i 0 = c
    · rw [if_pos (by simpa using e), decide_eq_true e, Bool.true_or]
    · rw [if_neg (by simpa using e), decide_eq_false e, Bool.false_or]
  rw [spec_HasCard_eq]
  exact h 0 (Nat.zero_le _)
theorem spec_IsHand_ok (l : List Int) (h : l.length ≤ 17592186044416) : spec_IsHand l = some (handM l) := by
  have h : ∀ i, i ≤ l.length → spec_IsHand_L2 l i = some (handR (l.take i) (l.drop i)) := down (by
      rw [spec_IsHand_L2_eq]
      simp (disch := (first | omega | (simp only [List.length_append, List.length_cons, List.length_nil, List.length_take, List.length_drop, List.length_set, List.length_replicate, List.length_singleton]; omega))) only [↓if_dpos, ↓if_dneg, ↓if_epos, ↓if_eneg, ↓if_npos, ↓if_nneg, ↓if_pos, ↓if_neg, Int.toNat_natCast, List.nil_append, Nat.zero_add, List.length_singleton, Option.bind_some, List.drop_zero, List.take_length, if_true, if_false, ]
      rw [List.drop_of_length_le (Nat.le_refl _)]; rfl) fun i hi ih => by
    have e := spec_HasCard_ok (l.take i) (l.getD i 0) (by simp; omega)
    have hil : (i : Int) < (l.length : Int) := by omega
    have hw : IntKind.i64.wrap ((i : Int) + 1) = ((i + 1 : Nat) : Int) := wrap_succ hi (by omega)
    rw [spec_IsHand_L2_eq]
    simp (disch := (first | omega | (simp only [List.length_append, List.length_cons, List.length_nil, List.length_take, List.length_drop, List.length_set, List.length_replicate, List.length_singleton]; omega))) only [↓if_dpos, ↓if_dneg, ↓if_epos, ↓if_eneg, ↓if_npos, ↓if_nneg, ↓if_pos, ↓if_neg, hw, Int.toNat_natCast, List.nil_append, Nat.zero_add, List.length_singleton, Option.bind_some, List.drop_zero, List.take_length, if_true, if_false, ih, spec_IsCard_ok, e]
    rw [getD_drop (d := 0) hi, handR, ← take_succ_getD hi]
    cases isC (l.getD i 0) <;> cases hasM (l.take i) (l.getD i 0) <;> simp
  rw [spec_IsHand_eq, ← handR_nil]
  exact h 0 (Nat.zero_le _)
theorem impl_IsHand_ok (l : List Int) (h : l.length ≤ 17592186044416) : impl_IsHand l = some (handM l) := by
  have h : ∀ i, i ≤ l.length → ∀ s : List Bool, s.length = 52 → impl_IsHand_L3 l l.length i s = some (handS s (l.drop i)) := down (by
      intro s hs
      rw [impl_IsHand_L3_eq]
      simp (disch := (first | omega | (simp only [List.length_append, List.length_cons, List.length_nil, List.length_take, List.length_drop, List.length_set, List.length_replicate, List.length_singleton]; omega))) only [↓if_dpos, ↓if_dneg, ↓if_epos, ↓if_eneg, ↓if_npos, ↓if_nneg, ↓if_pos, ↓if_neg, Int.toNat_natCast, List.nil_append, Nat.zero_add, List.length_singleton, Option.bind_some, List.drop_zero, List.take_length, if_true, if_false, ]
      rw [List.drop_of_length_le (Nat.le_refl _)]; rfl) fun i hi ih s hs => by
    have hil : (i : Int) < (l.length : Int) := by omega
    have hw : IntKind.i64.wrap ((i : Int) + 1) = ((i + 1 : Nat) : Int) := wrap_succ hi (by omega)
    rw [impl_IsHand_L3_eq]
    simp (disch := (first | omega | (simp only [List.length_append, List.length_cons, List.length_nil, List.length_take, List.length_drop, List.length_set, List.length_replicate, List.length_singleton]; omega))) only [↓if_dpos, ↓if_dneg, ↓if_epos, ↓if_eneg, ↓if_npos, ↓if_nneg, ↓if_pos, ↓if_neg, hw, Int.toNat_natCast, List.nil_append, Nat.zero_add, List.length_singleton, Option.bind_some, List.drop_zero, List.take_length, if_true, if_false, impl_IsCard_ok]
    rw [getD_drop (d := 0) hi, handS]
    cases hc : isC (l.getD i 0)
    · rfl
    · obtain ⟨h1, h2⟩ := isC_iff.1 hc
      simp only [Bool.not_true, Bool.false_eq_true, if_false]
      simp (disch := (first | omega | (simp only [List.length_append, List.length_cons, List.length_nil, List.length_take, List.length_drop, List.length_set, List.length_replicate, List.length_singleton]; omega))) only [↓if_dpos, ↓if_dneg, ↓if_epos, ↓if_eneg, ↓if_npos, ↓if_nneg, ↓if_pos, ↓if_neg, Int.toNat_natCast, List.nil_append, Nat.zero_add, List.length_singleton, Option.bind_some, List.drop_zero, List.take_length, if_true, if_false]
      rw [ih _ (by simpa using hs)]
      cases s.getD (l.getD i 0).toNat false <;> rfl
  rw [impl_IsHand_eq, ← handS_nil]
  exact h 0 (Nat.zero_le _) _ (by simp)
theorem filter_take {l : List Int} {i : Nat} (p : Int → Bool) (hi : i < l.length) : (l.take (i + 1)).filter p = (l.take i).filter p ++ (if p (l.getD i 0) = true then [l.getD i 0] else []) := by
  rw [take_succ_getD (d := 0) hi, List.filter_append]
  congr 1
  rw [List.filter_cons]; rfl
theorem flen {l : List Int} {i : Nat} {p : Int → Bool} : ((l.take i).filter p).length ≤ l.length := Nat.le_trans (List.length_filter_le _ _) (by simp; omega)
theorem spec_Without_ok (l : List Int) (c : Int) (h : l.length ≤ 4398046511104) : spec_Without l c = some (withoutM l c) := by
  have h : ∀ i, i ≤ l.length → spec_Without_L3 l c i (withoutM (l.take i) c) = some (withoutM l c) := down (by
      rw [spec_Without_L3_eq]
      simp (disch := (first | omega | (simp only [List.length_append, List.length_cons, List.length_nil, List.length_take, List.length_drop, List.length_set, List.length_replicate, List.length_singleton]; omega))) only [↓if_dpos, ↓if_dneg, ↓if_epos, ↓if_eneg, ↓if_npos, ↓if_nneg, ↓if_pos, ↓if_neg, Int.toNat_natCast, List.nil_append, Nat.zero_add, List.length_singleton, Option.bind_some, List.drop_zero, List.take_length, if_true, if_false, ]) fun i hi ih => by
    have hf : (withoutM (l.take i) c).length ≤ l.length := flen
    have hil : (i : Int) < (l.length : Int) := by omega
    have hw : IntKind.i64.wrap ((i : Int) + 1) = ((i + 1 : Nat) : Int) := wrap_succ hi (by omega)
    rw [spec_Without_L3_eq]
    simp (disch := (first | omega | (simp only [List.length_append, List.length_cons, List.length_nil, List.length_take, List.length_drop, List.length_set, List.length_replicate, List.length_singleton]; omega))) only [↓if_dpos, ↓if_dneg, ↓if_epos, ↓if_eneg, ↓if_npos, ↓if_nneg, ↓if_pos, ↓if_neg, hw, Int.toNat_natCast, List.nil_append, Nat.zero_add, List.length_singleton, Option.bind_some, List.drop_zero, List.take_length, if_true, if_false, ]
    rw [← ih]
    unfold withoutM
    rw [filter_take _ hi]
    split <;> simp
  rw [spec_Without_eq]
  exact h 0 (Nat.zero_le _)
theorem spec_Sorted_in (l : List Int) (i : Nat) (hi : i < l.length) (hl : l.length ≤ 4398046511104) (r : List Int) (hr : r.length ≤ 4398046511104) : ∀ k, k ≤ r.length → spec_Sorted_L6 l i k r = spec_Sorted_L3 l ((i + 1 : Nat) : Int) (r.take (kG (fun x => decide (x > l.getD i 0)) r k) ++ l.getD i 0 :: r.drop (kG (fun x => decide (x > l.getD i 0)) r k)) := by
  intro k
  induction k with
  | zero =>
    intro hk
    have hil : (i : Int) < (l.length : Int) := by omega
    have hw : IntKind.i64.wrap ((i : Int) + 1) = ((i + 1 : Nat) : Int) := wrap_succ hi (by omega)
    rw [spec_Sorted_L6_eq]
    simp (disch := (first | omega | (simp only [List.length_append, List.length_cons, List.length_nil, List.length_take, List.length_drop, List.length_set, List.length_replicate, List.length_singleton]; omega))) only [↓if_dpos, ↓if_dneg, ↓if_epos, ↓if_eneg, ↓if_npos, ↓if_nneg, ↓if_pos, ↓if_neg, hw, Int.toNat_natCast, List.nil_append, Nat.zero_add, List.length_singleton, Option.bind_some, List.drop_zero, List.take_length, if_true, if_false, kG, Int.natCast_zero, Int.toNat_zero, List.append_assoc, List.singleton_append]
  | succ k ih =>
    intro hk
    have hil : (i : Int) < (l.length : Int) := by omega
    have hw : IntKind.i64.wrap ((i : Int) + 1) = ((i + 1 : Nat) : Int) := wrap_succ hi (by omega)
    have hk1 : IntKind.i64.wrap (((k + 1 : Nat) : Int) - 1) = (k : Int) := by rw [wrap_id (by omega) (by omega)]; omega
    rw [spec_Sorted_L6_eq]
    simp (disch := (first | omega | (simp only [List.length_append, List.length_cons, List.length_nil, List.length_take, List.length_drop, List.length_set, List.length_replicate, List.length_singleton]; omega))) only [↓if_dpos, ↓if_dneg, ↓if_epos, ↓if_eneg, ↓if_npos, ↓if_nneg, ↓if_pos, ↓if_neg, hw, hk1, Int.toNat_natCast, List.nil_append, Nat.zero_add, List.length_singleton, Option.bind_some, List.drop_zero, List.take_length, if_true, if_false, kG, ih (by omega), List.append_assoc, List.singleton_append]
    split <;> simp
theorem spec_Sorted_ok (l : List Int) (hl : l.length ≤ 1099511627776) : spec_Sorted l = some (sortM l) := by
  have h : ∀ i, i ≤ l.length → spec_Sorted_L3 l i (sortM (l.take i)) = some (sortM l) := down (by
      rw [spec_Sorted_L3_eq]
      simp (disch := (first | omega | (simp only [List.length_append, List.length_cons, List.length_nil, List.length_take, List.length_drop, List.length_set, List.length_replicate, List.length_singleton]; omega))) only [↓if_dpos, ↓if_dneg, ↓if_epos, ↓if_eneg, ↓if_npos, ↓if_nneg, ↓if_pos, ↓if_neg, Int.toNat_natCast, List.nil_append, Nat.zero_add, List.length_singleton, Option.bind_some, List.drop_zero, List.take_length, if_true, if_false, ]) fun i hi ih => by
    have hs : (sortM (l.take i)).length ≤ l.length := by rw [sortM_length]; simp; omega
    have hil : (i : Int) < (l.length : Int) := by omega
    have hw : IntKind.i64.wrap ((i : Int) + 1) = ((i + 1 : Nat) : Int) := wrap_succ hi (by omega)
    rw [spec_Sorted_L3_eq]
    simp (disch := (first | omega | (simp only [List.length_append, List.length_cons, List.length_nil, List.length_take, List.length_drop, List.length_set, List.length_replicate, List.length_singleton]; omega))) only [↓if_dpos, ↓if_dneg, ↓if_epos, ↓if_eneg, ↓if_npos, ↓if_nneg, ↓if_pos, ↓if_neg, hw, Int.toNat_natCast, List.nil_append, Nat.zero_add, List.length_singleton, Option.bind_some, List.drop_zero, List.take_length, if_true, if_false, ]
    rw [spec_Sorted_in l i hi (by omega) _ (by omega) _ (Nat.le_refl _), ← ih]
    unfold sortM
    rw [foldl_take (d := 0) hi]; rfl
  rw [spec_Sorted_eq]
  exact h 0 (Nat.zero_le _)
def modM (p q : Int) : Int := if inR q 1 1000000000000 = true then (IntKind.i64.wrap (p.tmod q + q)).tmod q else 0
theorem spec_Mod_ok (p q : Int) : spec_Mod p q = some (modM p q) := by
  rw [spec_Mod_eq, spec_l1In_ok, Option.bind_some, modM]
  cases h : inR q 1 1000000000000
  · rfl
  · have : ¬ q = 0 := by intro e; subst e; cases h
    simp [this]
theorem modM_bound {p q : Int} (h1 : 1 ≤ q) (h2 : q ≤ 1000000000000) : 0 ≤ modM p q ∧ modM p q < q := by
  have hq : inR q 1 1000000000000 = true := by simp [inR, h1, h2]
  rw [modM, if_pos hq]
  have a1 := Int.lt_tmod_of_pos p (by omega : 0 < q)
  have a2 := Int.tmod_lt_of_pos p (by omega : 0 < q)
  rw [wrap_id (by omega) (by omega)]
  exact ⟨Int.tmod_nonneg _ (by omega), Int.tmod_lt_of_pos _ (by omega)⟩
def hashStep (d v : Int) : Int := (IntKind.i64.wrap (IntKind.i64.wrap (IntKind.i64.wrap (d * 1000003) + modM v 2147483647) + 13)).tmod 2147483647
def hashM (l : List Int) : Int := l.foldl hashStep 11
theorem spec_Hash_ok (l : List Int) (hl : l.length ≤ 1099511627776) : spec_Hash l = some (hashM l) := by
  have h : ∀ i, i ≤ l.length → spec_Hash_L3 l (hashM (l.take i)) i = some (hashM l) := down (by
      rw [spec_Hash_L3_eq]
      simp (disch := (first | omega | (simp only [List.length_append, List.length_cons, List.length_nil, List.length_take, List.length_drop, List.length_set, List.length_replicate, List.length_singleton]; omega))) only [↓if_dpos, ↓if_dneg, ↓if_epos, ↓if_eneg, ↓if_npos, ↓if_nneg, ↓if_pos, ↓if_neg, Int.toNat_natCast, List.nil_append, Nat.zero_add, List.length_singleton, Option.bind_some, List.drop_zero, List.take_length, if_true, if_false, ]) fun i hi ih => by
    have hil : (i : Int) < (l.length : Int) := by omega
    have hw : IntKind.i64.wrap ((i : Int) + 1) = ((i + 1 : Nat) : Int) := wrap_succ hi (by omega)
    rw [spec_Hash_L3_eq]
    simp (disch := (first | omega | (simp only [List.length_append, List.length_cons, List.length_nil, List.length_take, List.length_drop, List.length_set, List.length_replicate, List.length_singleton]; omega))) only [↓if_dpos, ↓if_dneg, ↓if_epos, ↓if_eneg, ↓if_npos, ↓if_nneg, ↓if_pos, ↓if_neg, hw, Int.toNat_natCast, List.nil_append, Nat.zero_add, List.length_singleton, Option.bind_some, List.drop_zero, List.take_length, if_true, if_false, spec_Mod_ok]
    rw [← ih]
    unfold hashM
    rw [foldl_take (d := 0) hi]; rfl
  rw [spec_Hash_eq]
  exact h 0 (Nat.zero_le _)
def shufM (seed : Int) : Nat → List Int → List Int
  | 0, r => r
  | i + 1, r => shufM seed i ((r.set (i + 1) (r.getD (modM (hashM [seed, ((i + 1 : Nat) : Int)]) ((i + 2 : Nat) : Int)).toNat 0)).set (modM (hashM [seed, ((i + 1 : Nat) : Int)]) ((i + 2 : Nat) : Int)).toNat (r.getD (i + 1) 0))
def shuffledM (l : List Int) (seed : Int) : List Int := shufM seed (l.length - 1) l
theorem shufM_length (seed : Int) : ∀ i r, (shufM seed i r).length = r.length := by
  intro i
  induction i with
  | zero => intro r; rfl
  | succ i ih => intro r; rw [shufM, ih]; simp
theorem swap_perm {r : List Int} {i j : Nat} (hi : i < r.length) (hj : j < r.length) : ((r.set i (r.getD j 0)).set j (r.getD i 0)).Perm r := by
  rw [List.getD_eq_getElem?_getD, List.getD_eq_getElem?_getD, List.getElem?_eq_getElem hi, List.getElem?_eq_getElem hj]
  exact List.set_set_perm hi hj
theorem shufM_perm (seed : Int) : ∀ i r, i < r.length → r.length ≤ 549755813888 → (shufM seed i r).Perm r := by
  intro i
  induction i with
  | zero => intro r _ _; exact List.Perm.refl _
  | succ i ih =>
    intro r hr hl
    obtain ⟨b1, b2⟩ := modM_bound (p := hashM [seed, ((i + 1 : Nat) : Int)]) (q := ((i + 2 : Nat) : Int)) (by omega) (by omega)
    rw [shufM]
    exact (ih _ (by simp; omega) (by simpa using hl)).trans (swap_perm (by omega) (by omega))
theorem spec_Shuffled_ok (l : List Int) (seed : Int) (hl : l.length ≤ 549755813888) : spec_Shuffled l seed = some (shuffledM l seed) := by
  have h : ∀ i (r : List Int), (r.length = 0 → i = 0) → (0 < r.length → i < r.length) → r.length ≤ 549755813888 → spec_Shuffled_L3 seed i r = some (shufM seed i r) := by
    intro i
    induction i with
    | zero =>
      intro r _ _ _
      rw [spec_Shuffled_L3_eq]
      simp (disch := (first | omega | (simp only [List.length_append, List.length_cons, List.length_nil, List.length_take, List.length_drop, List.length_set, List.length_replicate, List.length_singleton]; omega))) only [↓if_dpos, ↓if_dneg, ↓if_epos, ↓if_eneg, ↓if_npos, ↓if_nneg, ↓if_pos, ↓if_neg, Int.toNat_natCast, List.nil_append, Nat.zero_add, List.length_singleton, Option.bind_some, List.drop_zero, List.take_length, if_true, if_false, ]
      rfl
    | succ i ih =>
      intro r h0 h1 h2
      obtain ⟨b1, b2⟩ := modM_bound (p := hashM [seed, ((i + 1 : Nat) : Int)]) (q := ((i + 2 : Nat) : Int)) (by omega) (by omega)
      have w1 : IntKind.i64.wrap (((i + 1 : Nat) : Int) + 1) = ((i + 2 : Nat) : Int) := by rw [wrap_id (by omega) (by omega)]; omega
      have w2 : IntKind.i64.wrap (((i + 1 : Nat) : Int) - 1) = (i : Int) := by rw [wrap_id (by omega) (by omega)]; omega
      rw [spec_Shuffled_L3_eq, spec_Hash_ok _ (by simp)]
      simp (disch := (first | omega | (simp only [List.length_append, List.length_cons, List.length_nil, List.length_take, List.length_drop, List.length_set, List.length_replicate, List.length_singleton]; omega))) only [↓if_dpos, ↓if_dneg, ↓if_epos, ↓if_eneg, ↓if_npos, ↓if_nneg, ↓if_pos, ↓if_neg, w1, w2, Int.toNat_natCast, List.nil_append, Nat.zero_add, List.length_singleton, Option.bind_some, List.drop_zero, List.take_length, if_true, if_false, spec_Mod_ok]
      exact ih _ (by simp only [List.length_set]; omega) (by simp only [List.length_set]; omega) (by simpa using h2)
  rw [spec_Shuffled_eq]
  simp (disch := (first | omega | (simp only [List.length_append, List.length_cons, List.length_nil, List.length_take, List.length_drop, List.length_set, List.length_replicate, List.length_singleton]; omega))) only [↓if_dpos, ↓if_dneg, ↓if_epos, ↓if_eneg, ↓if_npos, ↓if_nneg, ↓if_pos, ↓if_neg, Int.toNat_natCast, List.nil_append, Nat.zero_add, List.length_singleton, Option.bind_some, List.drop_zero, List.take_length, if_true, if_false]
  rw [shuffledM]
  by_cases e : l.length = 0
  · have w : IntKind.i64.wrap ((l.length : Int) - 1) = -1 := by rw [wrap_id (by omega) (by omega)]; omega
    rw [w]
    rw [spec_Shuffled_L3_eq]
    simp (disch := (first | omega | (simp only [List.length_append, List.length_cons, List.length_nil, List.length_take, List.length_drop, List.length_set, List.length_replicate, List.length_singleton]; omega))) only [↓if_dpos, ↓if_dneg, ↓if_epos, ↓if_eneg, ↓if_npos, ↓if_nneg, ↓if_pos, ↓if_neg, Int.toNat_natCast, List.nil_append, Nat.zero_add, List.length_singleton, Option.bind_some, List.drop_zero, List.take_length, if_true, if_false, ]
    rw [e]; rfl
  · have w : IntKind.i64.wrap ((l.length : Int) - 1) = ((l.length - 1 : Nat) : Int) := by rw [wrap_id (by omega) (by omega)]; omega
    rw [w]
    exact h _ _ (by omega) (by omega) hl
def rankM (c : Int) : Int := if isC c = true then c.tmod 13 else -1
def suitM (c : Int) : Int := if isC c = true then IntKind.i64.wrap (c.tdiv 13) else -1
theorem spec_RankOf_ok (c : Int) : spec_RankOf c = some (rankM c) := by
  rw [spec_RankOf_eq, spec_IsCard_ok, Option.bind_some, rankM]; cases isC c <;> rfl
theorem impl_RankOf_ok (c : Int) : impl_RankOf c = some (rankM c) := by
  rw [impl_RankOf_eq, impl_IsCard_ok, Option.bind_some, rankM]; cases isC c <;> rfl
theorem spec_SuitOf_ok (c : Int) : spec_SuitOf c = some (suitM c) := by
  rw [spec_SuitOf_eq, spec_IsCard_ok, Option.bind_some, suitM]; cases isC c <;> rfl
theorem impl_SuitOf_ok (c : Int) : impl_SuitOf c = some (suitM c) := by
  rw [impl_SuitOf_eq, impl_IsCard_ok, Option.bind_some, suitM]; cases isC c <;> rfl
def redM (c : Int) : Bool := inR (suitM c) 1 2
theorem spec_IsRed_ok (c : Int) : spec_IsRed c = some (redM c) := by rw [spec_IsRed_eq, spec_SuitOf_ok, Option.bind_some, spec_l1In_ok, Option.bind_some]; rfl
theorem impl_IsRed_ok (c : Int) : impl_IsRed c = some (redM c) := by
  rw [impl_IsRed_eq, impl_SuitOf_ok, Option.bind_some, redM, inR]
  by_cases h1 : suitM c = 1
  · rw [if_pos (by simpa using h1), h1]; rfl
  · rw [if_neg (by simpa using h1), Option.bind_some]
    by_cases h2 : suitM c = 2
    · rw [h2]; rfl
    · congr 1
      rw [Bool.eq_iff_iff]
      simp
      omega
theorem impl_AllApart_ok (l : List (List Int)) (hl : l.length ≤ 4194304) (hf : l.flatten.length ≤ 8796093022208) : impl_AllApart l = some (handM l.flatten) := by
  have h : ∀ i, i ≤ l.length → impl_AllApart_L3 l l.length i (l.take i).flatten = some (handM l.flatten) := down (by
      rw [impl_AllApart_L3_eq]
      simp (disch := (first | omega | (simp only [List.length_append, List.length_cons, List.length_nil, List.length_take, List.length_drop, List.length_set, List.length_replicate, List.length_singleton]; omega))) only [↓if_dpos, ↓if_dneg, ↓if_epos, ↓if_eneg, ↓if_npos, ↓if_nneg, ↓if_pos, ↓if_neg, Int.toNat_natCast, List.nil_append, Nat.zero_add, List.length_singleton, Option.bind_some, List.drop_zero, List.take_length, if_true, if_false, impl_IsHand_ok _ (by omega : l.flatten.length ≤ 17592186044416)]) fun i hi ih => by
    have h1 := flat_take_le l (i + 1)
    rw [flat_take hi, List.length_append] at h1
    have hil : (i : Int) < (l.length : Int) := by omega
    have hw : IntKind.i64.wrap ((i : Int) + 1) = ((i + 1 : Nat) : Int) := wrap_succ hi (by omega)
    rw [impl_AllApart_L3_eq]
    simp (disch := (first | omega | (simp only [List.length_append, List.length_cons, List.length_nil, List.length_take, List.length_drop, List.length_set, List.length_replicate, List.length_singleton]; omega))) only [↓if_dpos, ↓if_dneg, ↓if_epos, ↓if_eneg, ↓if_npos, ↓if_nneg, ↓if_pos, ↓if_neg, hw, Int.toNat_natCast, List.nil_append, Nat.zero_add, List.length_singleton, Option.bind_some, List.drop_zero, List.take_length, if_true, if_false, ]
    rw [← ih, flat_take hi]
  rw [impl_AllApart_eq]
  exact h 0 (Nat.zero_le _)
theorem impl_TotalCards_ok (l : List (List Int)) (hl : l.length ≤ 4194304) (hf : l.flatten.length ≤ 8796093022208) : impl_TotalCards l = some (l.flatten.length : Int) := by
  have h : ∀ i, i ≤ l.length → impl_TotalCards_L3 ((l.take i).flatten.length : Int) l l.length i = some (l.flatten.length : Int) := down (by
      rw [impl_TotalCards_L3_eq]
      simp (disch := (first | omega | (simp only [List.length_append, List.length_cons, List.length_nil, List.length_take, List.length_drop, List.length_set, List.length_replicate, List.length_singleton]; omega))) only [↓if_dpos, ↓if_dneg, ↓if_epos, ↓if_eneg, ↓if_npos, ↓if_nneg, ↓if_pos, ↓if_neg, Int.toNat_natCast, List.nil_append, Nat.zero_add, List.length_singleton, Option.bind_some, List.drop_zero, List.take_length, if_true, if_false, ]) fun i hi ih => by
    have h1 := flat_take_le l (i + 1)
    rw [flat_take hi, List.length_append] at h1
    have hw2 : IntKind.i64.wrap (((l.take i).flatten.length : Int) + ((l.getD i []).length : Int)) = ((l.take (i + 1)).flatten.length : Int) := by
      rw [wrap_id (by omega) (by omega), flat_take hi, List.length_append]; omega
    have hil : (i : Int) < (l.length : Int) := by omega
    have hw : IntKind.i64.wrap ((i : Int) + 1) = ((i + 1 : Nat) : Int) := wrap_succ hi (by omega)
    rw [impl_TotalCards_L3_eq]
    simp (disch := (first | omega | (simp only [List.length_append, List.length_cons, List.length_nil, List.length_take, List.length_drop, List.length_set, List.length_replicate, List.length_singleton]; omega))) only [↓if_dpos, ↓if_dneg, ↓if_epos, ↓if_eneg, ↓if_npos, ↓if_nneg, ↓if_pos, ↓if_neg, hw, Int.toNat_natCast, List.nil_append, Nat.zero_add, List.length_singleton, Option.bind_some, List.drop_zero, List.take_length, if_true, if_false, hw2]
    exact ih
  rw [impl_TotalCards_eq]
  exact h 0 (Nat.zero_le _)
def wholeL (all : List Int) : Bool := decide (all.length = 52) && handM all
theorem wholeL_perm {a b : List Int} (h : a.Perm b) : wholeL a = wholeL b := by rw [wholeL, wholeL, h.length_eq, handM_perm h]
theorem impl_isWhole_ok (l : List (List Int)) (hl : l.length ≤ 4194304) (hf : l.flatten.length ≤ 8796093022208) : impl_isWhole l = some (wholeL l.flatten) := by
  rw [impl_isWhole_eq, impl_AllApart_ok l hl hf, Option.bind_some, impl_TotalCards_ok l hl hf, wholeL, Bool.and_comm]
  cases handM l.flatten
  · rfl
  · simp only [Option.bind_some, if_true, Bool.true_and]
    congr 1
    rw [Bool.eq_iff_iff]; simp; omega
theorem impl_allIn_ok (l : List Int) (lo hi' : Int) (hl : l.length ≤ 4398046511104) : impl_allIn l lo hi' = some (l.all (fun x => inR x lo hi')) := by
  have h : ∀ i, i ≤ l.length → impl_allIn_L2 lo hi' l l.length i = some ((l.drop i).all (fun x => inR x lo hi')) := down (by
      rw [impl_allIn_L2_eq]
      simp (disch := (first | omega | (simp only [List.length_append, List.length_cons, List.length_nil, List.length_take, List.length_drop, List.length_set, List.length_replicate, List.length_singleton]; omega))) only [↓if_dpos, ↓if_dneg, ↓if_epos, ↓if_eneg, ↓if_npos, ↓if_nneg, ↓if_pos, ↓if_neg, Int.toNat_natCast, List.nil_append, Nat.zero_add, List.length_singleton, Option.bind_some, List.drop_zero, List.take_length, if_true, if_false, ]
      rw [List.drop_of_length_le (Nat.le_refl _), List.all_nil]) fun i hi ih => by
    have hil : (i : Int) < (l.length : Int) := by omega
    have hw : IntKind.i64.wrap ((i : Int) + 1) = ((i + 1 : Nat) : Int) := wrap_succ hi (by omega)
    rw [impl_allIn_L2_eq]
    simp (disch := (first | omega | (simp only [List.length_append, List.length_cons, List.length_nil, List.length_take, List.length_drop, List.length_set, List.length_replicate, List.length_singleton]; omega))) only [↓if_dpos, ↓if_dneg, ↓if_epos, ↓if_eneg, ↓if_npos, ↓if_nneg, ↓if_pos, ↓if_neg, hw, Int.toNat_natCast, List.nil_append, Nat.zero_add, List.length_singleton, Option.bind_some, List.drop_zero, List.take_length, if_true, if_false, impl_InRange_ok, ih]
    rw [getD_drop (d := 0) hi, List.all_cons]
    cases inR (l.getD i 0) lo hi' <;> rfl
  rw [impl_allIn_eq]
  exact h 0 (Nat.zero_le _)
theorem impl_sum_ok (l : List Int) (hl : l.length ≤ 4398046511104) : impl_sum l = some (sumW l) := by
  have h : ∀ i, i ≤ l.length → impl_sum_L3 (sumW (l.take i)) l l.length i = some (sumW l) := down (by
      rw [impl_sum_L3_eq]
      simp (disch := (first | omega | (simp only [List.length_append, List.length_cons, List.length_nil, List.length_take, List.length_drop, List.length_set, List.length_replicate, List.length_singleton]; omega))) only [↓if_dpos, ↓if_dneg, ↓if_epos, ↓if_eneg, ↓if_npos, ↓if_nneg, ↓if_pos, ↓if_neg, Int.toNat_natCast, List.nil_append, Nat.zero_add, List.length_singleton, Option.bind_some, List.drop_zero, List.take_length, if_true, if_false, ]) fun i hi ih => by
    have hil : (i : Int) < (l.length : Int) := by omega
    have hw : IntKind.i64.wrap ((i : Int) + 1) = ((i + 1 : Nat) : Int) := wrap_succ hi (by omega)
    rw [impl_sum_L3_eq]
    simp (disch := (first | omega | (simp only [List.length_append, List.length_cons, List.length_nil, List.length_take, List.length_drop, List.length_set, List.length_replicate, List.length_singleton]; omega))) only [↓if_dpos, ↓if_dneg, ↓if_epos, ↓if_eneg, ↓if_npos, ↓if_nneg, ↓if_pos, ↓if_neg, hw, Int.toNat_natCast, List.nil_append, Nat.zero_add, List.length_singleton, Option.bind_some, List.drop_zero, List.take_length, if_true, if_false, ]
    rw [← ih]
    unfold sumW
    rw [foldl_take (d := 0) hi]
  rw [impl_sum_eq]
  exact h 0 (Nat.zero_le _)
def leafM (t : Int) : Bool := inR t 100 103 || (inR t 200 212 || (inR t 300 312 || t == 400))
theorem spec_l8Leaf_ok (t : Int) : spec_l8Leaf t = some (leafM t) := by
  simp only [spec_l8Leaf_eq, spec_l1In_ok, Option.bind_some, leafM]
  cases inR t 100 103 <;> cases inR t 200 212 <;> cases inR t 300 312 <;> rfl
theorem impl_isTest_ok (t : Int) : impl_isTest t = some (leafM t) := by
  simp only [impl_isTest_eq, impl_InRange_ok, Option.bind_some, leafM]
  cases inR t 100 103 <;> cases inR t 200 212 <;> cases inR t 300 312 <;> rfl
/-- Is the rest of a pattern right behind d asks? -/
def pat : List Int → Nat → Bool
  | [], d => d == 1
  | t :: r, d => if leafM t = true then pat r (d + 1) else if t = -1 then decide (1 ≤ d) && pat r d else if t = -2 ∨ t = -3 then decide (2 ≤ d) && pat r (d - 1) else false
def isPat (l : List Int) : Bool := pat l 0 && decide (l.length ≤ 20)
theorem leaf_ne {t : Int} (h : leafM t = true) : t ≠ -1 ∧ t ≠ -2 ∧ t ≠ -3 := by
  simp [leafM, inR] at h; omega
theorem pat_leaf {t : Int} {r : List Int} {d : Nat} (h : leafM t = true) : pat (t :: r) d = pat r (d + 1) := by rw [pat, if_pos h]
theorem pat_not {r : List Int} {d : Nat} : pat (-1 :: r) d = (decide (1 ≤ d) && pat r d) := by rw [pat, if_neg (by decide), if_pos rfl]
theorem pat_two {t : Int} {r : List Int} {d : Nat} (h : t = -2 ∨ t = -3) : pat (t :: r) d = (decide (2 ≤ d) && pat r (d - 1)) := by
  have h1 : leafM t = false := by rcases h with h | h <;> rw [h] <;> decide
  rw [pat, if_neg (by rw [h1]; decide), if_neg (by omega), if_pos h]
theorem pat_bad {t : Int} {r : List Int} {d : Nat} (h : leafM t ≠ true) (h1 : t ≠ -1) (h2 : t ≠ -2) (h3 : t ≠ -3) : pat (t :: r) d = false := by
  rw [pat, if_neg h, if_neg h1, if_neg (by omega)]
theorem spec_IsPattern_ok (l : List Int) (hl : l.length ≤ 1048576) : spec_IsPattern l = some (isPat l) := by
  have h : ∀ i, i ≤ l.length → ∀ d : Nat, d ≤ i → spec_IsPattern_L3 l d i = some (pat (l.drop i) d && decide (l.length ≤ 20)) := down (by
      intro d hd
      rw [spec_IsPattern_L3_eq, if_neg (by simp), List.drop_of_length_le (Nat.le_refl _), pat]
      by_cases h1 : d = 1
      · rw [if_pos (by simp [h1]), h1]; congr 1; rw [Bool.eq_iff_iff]; simp; omega
      · rw [if_neg (by simp; omega)]; simp [h1]) fun i hi ih d hd => by
    have hi0 : (0 : Int) ≤ (i : Int) := by omega
    have hil : (i : Int) < (l.length : Int) := by omega
    rw [spec_IsPattern_L3_eq, if_pos (by simpa using hi), if_pos hi0, if_pos hil, wrap_succ hi (by omega), Int.toNat_natCast, spec_l8Leaf_ok, Option.bind_some, getD_drop (d := 0) hi]
    generalize l.getD i 0 = t
    by_cases hlf : leafM t = true
    · rw [if_pos hlf, pat_leaf hlf, wrap_id (by omega) (by omega)]
      exact ih (d + 1) (by omega)
    · rw [if_neg hlf, if_pos hi0, if_pos hil]
      by_cases h1 : t = -1
      · subst h1
        rw [if_pos (by decide), pat_not]
        by_cases hd1 : 1 ≤ d
        · rw [if_pos (by simp; omega), decide_eq_true hd1, Bool.true_and]; exact ih d (by omega)
        · rw [if_neg (by simp; omega), decide_eq_false hd1, Bool.false_and, Bool.false_and, if_pos hi0, if_pos hil, if_neg (by decide), if_pos hi0, if_pos hil, if_neg (by decide)]
      · rw [if_neg (by simpa using h1), if_pos hi0, if_pos hil]
        by_cases h2 : t = -2
        · rw [if_pos (by simpa using h2), pat_two (.inl h2)]
          by_cases hd2 : 2 ≤ d
          · rw [if_pos (by simp; omega), decide_eq_true hd2, Bool.true_and, wrap_id (by omega) (by omega), show (d : Int) - 1 = ((d - 1 : Nat) : Int) by omega]; exact ih (d - 1) (by omega)
          · rw [if_neg (by simp; omega), decide_eq_false hd2, Bool.false_and, Bool.false_and]
        · rw [if_neg (by simpa using h2), if_pos hi0, if_pos hil]
          by_cases h3 : t = -3
          · rw [if_pos (by simpa using h3), pat_two (.inr h3)]
            by_cases hd2 : 2 ≤ d
            · rw [if_pos (by simp; omega), decide_eq_true hd2, Bool.true_and, wrap_id (by omega) (by omega), show (d : Int) - 1 = ((d - 1 : Nat) : Int) by omega]; exact ih (d - 1) (by omega)
            · rw [if_neg (by simp; omega), decide_eq_false hd2, Bool.false_and, Bool.false_and]
          · rw [if_neg (by simpa using h3), pat_bad hlf h1 h2 h3]; rfl
  rw [spec_IsPattern_eq]
  exact h 0 (Nat.zero_le _) 0 (Nat.le_refl _)
theorem impl_IsPattern_ok (l : List Int) (hl : l.length ≤ 1048576) : impl_IsPattern l = some (isPat l) := by
  have h : ∀ i, i ≤ l.length → ∀ d : Nat, d ≤ i → impl_IsPattern_L3 l d l l.length i = some (pat (l.drop i) d && decide (l.length ≤ 20)) := down (by
      intro d hd
      rw [impl_IsPattern_L3_eq, if_neg (by simp), List.drop_of_length_le (Nat.le_refl _), pat, impl_InRange_ok, Option.bind_some]
      by_cases h1 : d = 1
      · subst h1
        have : inR (l.length : Int) 1 20 = decide (l.length ≤ 20) := by
          rw [inR, Bool.eq_iff_iff]; simp; omega
        rw [this]
        by_cases h2 : l.length ≤ 20
        · rw [decide_eq_true h2]; rfl
        · rw [decide_eq_false h2]; rfl
      · have e1 : ((d : Int) == 1) = false := by simp; omega
        have e2 : (d == 1) = false := by simp [h1]
        rw [e1, e2]; split <;> rfl) fun i hi ih d hd => by
    have hi0 : (0 : Int) ≤ (i : Int) := by omega
    have hil : (i : Int) < (l.length : Int) := by omega
    rw [impl_IsPattern_L3_eq, if_pos (by simpa using hi), if_pos hi0, if_pos hil, wrap_succ hi (by omega), Int.toNat_natCast, impl_isTest_ok, Option.bind_some, getD_drop (d := 0) hi]
    generalize l.getD i 0 = t
    by_cases hlf : leafM t = true
    · rw [if_pos hlf, pat_leaf hlf, wrap_id (by omega) (by omega)]
      exact ih (d + 1) (by omega)
    · rw [if_neg hlf]
      by_cases h1 : t = -1
      · subst h1
        rw [if_pos (by decide), pat_not]
        by_cases hd1 : 1 ≤ d
        · rw [if_pos (by simp; omega), decide_eq_true hd1, Bool.true_and]; exact ih d (by omega)
        · rw [if_neg (by simp; omega), decide_eq_false hd1, Bool.false_and, Bool.false_and, if_neg (by decide), if_neg (by decide)]
      · rw [if_neg (by simpa using h1)]
        by_cases h2 : t = -2
        · rw [if_pos (by simpa using h2), pat_two (.inl h2)]
          by_cases hd2 : 2 ≤ d
          · rw [if_pos (by simp; omega), decide_eq_true hd2, Bool.true_and, wrap_id (by omega) (by omega), show (d : Int) - 1 = ((d - 1 : Nat) : Int) by omega]; exact ih (d - 1) (by omega)
          · rw [if_neg (by simp; omega), decide_eq_false hd2, Bool.false_and, Bool.false_and]
        · rw [if_neg (by simpa using h2)]
          by_cases h3 : t = -3
          · rw [if_pos (by simpa using h3), pat_two (.inr h3)]
            by_cases hd2 : 2 ≤ d
            · rw [if_pos (by simp; omega), decide_eq_true hd2, Bool.true_and, wrap_id (by omega) (by omega), show (d : Int) - 1 = ((d - 1 : Nat) : Int) by omega]; exact ih (d - 1) (by omega)
            · rw [if_neg (by simp; omega), decide_eq_false hd2, Bool.false_and, Bool.false_and]
          · rw [if_neg (by simpa using h3), pat_bad hlf h1 h2 h3]; rfl
  rw [impl_IsPattern_eq]
  exact h 0 (Nat.zero_le _) 0 (Nat.le_refl _)
def maybeM (l : List Int) : Bool := (l.length == 0) || isPat l
theorem spec_l22Pattern_ok (l : List Int) (hl : l.length ≤ 1048576) : spec_l22Pattern l = some (maybeM l) := by
  rw [spec_l22Pattern_eq, spec_IsPattern_ok l hl, Option.bind_some, maybeM]
  by_cases h : l.length = 0
  · rw [if_pos (by simpa using h), h]; rfl
  · rw [if_neg (by simpa using h)]; simp [h]
theorem impl_isMaybe_ok (l : List Int) (hl : l.length ≤ 1048576) : impl_isMaybe l = some (maybeM l) := by
  rw [impl_isMaybe_eq, impl_IsPattern_ok l hl, Option.bind_some, maybeM]
  by_cases h : l.length = 0
  · rw [if_pos (by simpa using h), h]; rfl
  · rw [if_neg (by simpa using h)]; simp [h]
def rulesM (a0 a1 : Int) (a2 a3 : Bool) (a4 a5 : List Int) (a6 a7 : Int) : Bool := inR a0 2 6 && (inR a1 1 8 && ((a2 || a3) && (maybeM a4 && (maybeM a5 && (inR a6 1 4 && inR a7 1 400)))))
theorem spec_IsRules_ok (a0 a1 : Int) (a2 a3 : Bool) (a4 a5 : List Int) (a6 a7 : Int) (h4 : a4.length ≤ 1048576) (h5 : a5.length ≤ 1048576) : spec_IsRules a0 a1 a2 a3 a4 a5 a6 a7 = some (rulesM a0 a1 a2 a3 a4 a5 a6 a7) := by
  simp only [spec_IsRules_eq, spec_l1In_ok, spec_l22Pattern_ok a4 h4, spec_l22Pattern_ok a5 h5, Option.bind_some, rulesM]
  cases inR a0 2 6 <;> cases inR a1 1 8 <;> cases a2 <;> cases a3 <;> cases maybeM a4 <;> cases maybeM a5 <;> cases inR a6 1 4 <;> rfl
theorem impl_IsRules_ok (a0 a1 : Int) (a2 a3 : Bool) (a4 a5 : List Int) (a6 a7 : Int) (h4 : a4.length ≤ 1048576) (h5 : a5.length ≤ 1048576) : impl_IsRules a0 a1 a2 a3 a4 a5 a6 a7 = some (rulesM a0 a1 a2 a3 a4 a5 a6 a7) := by
  simp only [impl_IsRules_eq, impl_InRange_ok, impl_isMaybe_ok a4 h4, impl_isMaybe_ok a5 h5, Option.bind_some, rulesM]
  cases inR a0 2 6 <;> cases inR a1 1 8 <;> cases a2 <;> cases a3 <;> cases maybeM a4 <;> cases maybeM a5 <;> cases inR a6 1 4 <;> rfl
def valueM (t c : Int) : Bool := if t = 400 then redM c else if t ≥ 300 then decide (rankM c ≥ IntKind.i64.wrap (t - 300)) else if t ≥ 200 then rankM c == IntKind.i64.wrap (t - 200) else suitM c == IntKind.i64.wrap (t - 100)
theorem spec_l8Value_ok (t c : Int) : spec_l8Value t c = some (valueM t c) := by
  simp only [spec_l8Value_eq, spec_IsRed_ok, spec_RankOf_ok, spec_SuitOf_ok, Option.bind_some, valueM]
  by_cases h1 : t = 400
  · simp [h1]
  · by_cases h2 : t ≥ 300
    · simp [h1, h2]
    · by_cases h3 : t ≥ 200 <;> simp [h1, h2, h3]
theorem matches_loopS (x : List Int) (c : Int) (hl : x.length ≤ 1048576) : ∀ i, i ≤ x.length → ∀ r : List Bool, r.length ≤ i → pat (x.drop i) r.length = true → ∃ v, spec_Matches_L5 x c i r = some v := down (by
    intro r hr hp
    rw [List.drop_of_length_le (Nat.le_refl _), pat] at hp
    have hp : r.length = 1 := by simpa using hp
    have hd : ¬ decide ((x.length : Int) < (x.length : Int)) = true := by simp
    have h0 : (0 : Int) < (r.length : Int) := by omega
    rw [spec_Matches_L5_eq]
    simp only [if_neg hd, if_pos h0]
    exact ⟨_, rfl⟩) fun i hi ih r hr hp => by
  have hi0 : (0 : Int) ≤ (i : Int) := by omega
  have hil : (i : Int) < (x.length : Int) := by omega
  rw [getD_drop (d := 0) hi] at hp
  have hdd : decide ((i : Int) < (x.length : Int)) = true := decide_eq_true hil
  rw [spec_Matches_L5_eq]
  simp only [if_pos hdd, if_pos hi0, if_pos hil, wrap_succ hi (by omega), Int.toNat_natCast]
  generalize x.getD i 0 = t at hp
  by_cases hlf : leafM t = true
  · obtain ⟨n1, n2, n3⟩ := leaf_ne hlf
    rw [pat_leaf hlf] at hp
    rw [if_neg (by simpa using n1), if_neg (by simpa using n2), if_neg (by simpa using n3), spec_l8Value_ok, Option.bind_some, if_pos (by simp; omega)]
    exact ih _ (by simp; omega) (by simpa using hp)
  · by_cases h1 : t = -1
    · subst h1
      rw [pat_not] at hp
      simp only [Bool.and_eq_true, decide_eq_true_eq] at hp
      have w1 : IntKind.i64.wrap ((r.length : Int) - 1) = ((r.length - 1 : Nat) : Int) := by rw [wrap_id (by omega) (by omega)]; omega
      have g1 : (0 : Int) ≤ ((r.length - 1 : Nat) : Int) := by omega
      have g2 : ((r.length - 1 : Nat) : Int) < (r.length : Int) := by omega
      simp only [w1, Int.toNat_natCast, if_pos g1, if_pos g2]
      rw [if_pos (by decide)]
      exact ih _ (by simp; omega) (by simpa using hp.2)
    · have h23 : t = -2 ∨ t = -3 := by
        by_cases h2 : t = -2
        · exact .inl h2
        · by_cases h3 : t = -3
          · exact .inr h3
          · rw [pat_bad hlf h1 h2 h3] at hp; cases hp
      rw [pat_two h23] at hp
      simp only [Bool.and_eq_true, decide_eq_true_eq] at hp
      have w1 : IntKind.i64.wrap ((r.length : Int) - 1) = ((r.length - 1 : Nat) : Int) := by rw [wrap_id (by omega) (by omega)]; omega
      have w2 : IntKind.i64.wrap ((r.length : Int) - 2) = ((r.length - 2 : Nat) : Int) := by rw [wrap_id (by omega) (by omega)]; omega
      have g1 : (0 : Int) ≤ ((r.length - 1 : Nat) : Int) := by omega
      have g2 : ((r.length - 1 : Nat) : Int) < (r.length : Int) := by omega
      have g3 : (0 : Int) ≤ ((r.length - 2 : Nat) : Int) := by omega
      have g4 : ((r.length - 2 : Nat) : Int) < (r.length : Int) := by omega
      have g5 : ((r.length - 2 : Nat) : Int) ≤ (r.length : Int) := by omega
      have hs : ∀ b : Bool, (((r.take (r.length - 2)).drop 0).length + [b].length) * 1 ≤ 140737488355328 := fun b => by simp; omega
      have hn : ∀ b : Bool, ∃ v, spec_Matches_L5 x c ((i + 1 : Nat) : Int) ((r.take (r.length - 2)).drop 0 ++ [b]) = some v := fun b => ih _ (by simp; omega) (by
        have : ((r.take (r.length - 2)).drop 0 ++ [b]).length = r.length - 1 := by simp; omega
        rw [this]; exact hp.2)
      simp only [w1, w2, Int.toNat_natCast, if_pos g1, if_pos g2, if_pos g3, if_pos g4, if_pos g5, if_pos (hs _)]
      rcases h23 with h | h
      · subst h
        have b1 : ((-2 : Int) == -1) = false := rfl
        have b2 : ((-2 : Int) == -2) = true := rfl
        simp only [b1, b2, Bool.false_eq_true, if_false, if_true]
        cases r.getD (r.length - 2) false
        · simp only [Bool.false_eq_true, if_false]; exact hn _
        · simp only [if_true]; exact hn _
      · subst h
        have b1 : ((-3 : Int) == -1) = false := rfl
        have b2 : ((-3 : Int) == -2) = false := rfl
        have b3 : ((-3 : Int) == -3) = true := rfl
        simp only [b1, b2, b3, Bool.false_eq_true, if_false, if_true]
        cases r.getD (r.length - 2) false
        · simp only [Bool.false_eq_true, if_false]; exact hn _
        · simp only [if_true]; exact hn _
theorem matches_spec (p : List Int) (c : Int) (hl : p.length ≤ 1048576) : ∃ v, spec_Matches p c = some v := by
  rw [spec_Matches_eq]
  simp only [spec_IsPattern_ok p hl, Option.bind_some, spec_IsCard_ok]
  cases hp : isPat p
  · exact ⟨false, rfl⟩
  · cases hc : isC c
    · exact ⟨false, rfl⟩
    · simp only [Bool.not_true, Bool.false_eq_true, if_false]
      exact matches_loopS p c hl 0 (Nat.zero_le _) [] (Nat.le_refl _) (by simp only [isPat, Bool.and_eq_true] at hp; exact hp.1)
noncomputable def matchesM (p : List Int) (c : Int) : Bool := (spec_Matches p c).getD false
theorem spec_Matches_ok (p : List Int) (c : Int) (hl : p.length ≤ 1048576) : spec_Matches p c = some (matchesM p c) := by
  obtain ⟨v, h⟩ := matches_spec p c hl; rw [matchesM, h]; rfl
noncomputable def skipM (a0 a1 : Int) (a2 a3 : Bool) (a4 a5 : List Int) (a6 a7 c : Int) : Bool := rulesM a0 a1 a2 a3 a4 a5 a6 a7 && matchesM a5 c
theorem spec_DoesSkip_ok (a0 a1 : Int) (a2 a3 : Bool) (a4 a5 : List Int) (a6 a7 c : Int) (h4 : a4.length ≤ 1048576) (h5 : a5.length ≤ 1048576) : spec_DoesSkip a0 a1 a2 a3 a4 a5 a6 a7 c = some (skipM a0 a1 a2 a3 a4 a5 a6 a7 c) := by
  simp only [spec_DoesSkip_eq, spec_IsRules_ok _ _ _ _ _ _ _ _ h4 h5, spec_Matches_ok _ _ h5, Option.bind_some, skipM]
  cases rulesM a0 a1 a2 a3 a4 a5 a6 a7 <;> rfl
def lensM (l : List (List Int)) : List Int := l.map fun r => (r.length : Int)
theorem map_take {α β : Type} {f : α → β} {l : List α} {i : Nat} {d : α} (hi : i < l.length) : (l.take (i + 1)).map f = (l.take i).map f ++ [f (l.getD i d)] := by
  have : l.take (i + 1) = l.take i ++ [l.getD i d] := by
    rw [List.take_succ_eq_append_getElem hi, List.getD_eq_getElem?_getD, List.getElem?_eq_getElem hi]; rfl
  rw [this, List.map_append]; rfl
theorem lensM_length (l : List (List Int)) : (lensM l).length = l.length := by simp [lensM]
noncomputable def fitsM (a0 a1 : Int) (a2 a3 : Bool) (a4 a5 : List Int) (a6 a7 top c : Int) : Bool :=
  rulesM a0 a1 a2 a3 a4 a5 a6 a7 && (isC top && (isC c && ((a2 && (suitM c == suitM top)) || ((a3 && (rankM c == rankM top)) || matchesM a4 c))))
theorem spec_FitsOn_ok (a0 a1 : Int) (a2 a3 : Bool) (a4 a5 : List Int) (a6 a7 top c : Int) (h4 : a4.length ≤ 1048576) (h5 : a5.length ≤ 1048576) : spec_FitsOn a0 a1 a2 a3 a4 a5 a6 a7 top c = some (fitsM a0 a1 a2 a3 a4 a5 a6 a7 top c) := by
  simp only [spec_FitsOn_eq, spec_IsRules_ok _ _ _ _ _ _ _ _ h4 h5, spec_IsCard_ok, spec_SuitOf_ok, spec_RankOf_ok, spec_Matches_ok _ _ h4, Option.bind_some, fitsM]
  cases rulesM a0 a1 a2 a3 a4 a5 a6 a7 <;> cases isC top <;> cases isC c <;> cases a2 <;> cases a3 <;> cases (suitM c == suitM top) <;> cases (rankM c == rankM top) <;> rfl
theorem spec_l22Copy_ok (a0 a1 : Int) (a2 a3 : Bool) (a4 a5 : List Int) (a6 a7 : Int) (h4 : a4.length ≤ 1048576) (h5 : a5.length ≤ 1048576) : spec_l22Copy a0 a1 a2 a3 a4 a5 a6 a7 = some (a0, a1, a2, a3, a4, a5, a6, a7) := by
  rw [spec_l22Copy_eq]
  simp (disch := (first | omega | (simp only [List.length_append, List.length_cons, List.length_nil, List.length_take, List.length_drop, List.length_set, List.length_replicate, List.length_singleton]; omega))) only [↓if_dpos, ↓if_dneg, ↓if_epos, ↓if_eneg, ↓if_npos, ↓if_nneg, ↓if_pos, ↓if_neg, Int.toNat_natCast, List.nil_append, Nat.zero_add, List.length_singleton, Option.bind_some, List.drop_zero, List.take_length, if_true, if_false]
theorem spec_l24Copy_ok (a0 a1 : Int) (a2 a3 : Bool) (a4 a5 : List Int) (a6 a7 : Int) (hs : List (List Int)) (st hp : List Int) (tu mo pa : Int) (h4 : a4.length ≤ 1048576) (h5 : a5.length ≤ 1048576) (hh : G2 hs) (h9 : st.length ≤ 2097152) (h10 : hp.length ≤ 2097152) : spec_l24Copy a0 a1 a2 a3 a4 a5 a6 a7 hs st hp tu mo pa = some (a0, a1, a2, a3, a4, a5, a6, a7, hs, st, hp, tu, mo, pa) := by
  rw [spec_l24Copy_eq, spec_l22Copy_ok _ _ _ _ _ _ _ _ h4 h5, Option.bind_some, spec_l15Copy_ok _ hh.len (fun r hr => Nat.le_trans (hh.row r hr) (by omega)), Option.bind_some]
  simp (disch := (first | omega | (simp only [List.length_append, List.length_cons, List.length_nil, List.length_take, List.length_drop, List.length_set, List.length_replicate, List.length_singleton]; omega))) only [↓if_dpos, ↓if_dneg, ↓if_epos, ↓if_eneg, ↓if_npos, ↓if_nneg, ↓if_pos, ↓if_neg, Int.toNat_natCast, List.nil_append, Nat.zero_add, List.length_singleton, Option.bind_some, List.drop_zero, List.take_length, if_true, if_false]
def allM (hs : List (List Int)) (st hp : List Int) : List Int := st ++ hp ++ hs.flatten
def gameM (a0 a1 : Int) (a2 a3 : Bool) (a4 a5 : List Int) (a6 a7 : Int) (hs : List (List Int)) (st hp : List Int) (tu mo pa : Int) : Bool := rulesM a0 a1 a2 a3 a4 a5 a6 a7 && (decide ((hs.length : Int) = a0) && (decide (0 < hp.length) && (inR tu 0 (a0 - 1) && (inR mo 0 a7 && (inR pa 0 mo && wholeL (allM hs st hp))))))
theorem rulesM_players (a0 a1 : Int) (a2 a3 : Bool) (a4 a5 : List Int) (a6 a7 : Int) (hs : List (List Int)) (st hp : List Int) (tu mo pa : Int) (h : rulesM a0 a1 a2 a3 a4 a5 a6 a7 = true) : 2 ≤ a0 ∧ a0 ≤ 6 := by
  simp only [rulesM, Bool.and_eq_true] at h
  simpa [inR] using h.1
theorem spec_IsGame_ok (a0 a1 : Int) (a2 a3 : Bool) (a4 a5 : List Int) (a6 a7 : Int) (hs : List (List Int)) (st hp : List Int) (tu mo pa : Int) (h4 : a4.length ≤ 1048576) (h5 : a5.length ≤ 1048576) (hh : G2 hs) (h9 : st.length ≤ 2097152) (h10 : hp.length ≤ 2097152) : spec_IsGame a0 a1 a2 a3 a4 a5 a6 a7 hs st hp tu mo pa = some (gameM a0 a1 a2 a3 a4 a5 a6 a7 hs st hp tu mo pa) := by
  have hf := hh.flat
  have hl := hh.len
  have hloop : ∀ i, i ≤ hs.length → spec_IsGame_L5 i a0 a1 a2 a3 a4 a5 a6 a7 hs st hp tu mo pa (st ++ hp ++ (hs.take i).flatten) = some (wholeL (allM hs st hp)) := down (by
      have e := spec_IsHand_ok (st ++ hp ++ hs.flatten) (by simp only [List.length_append]; omega)
      rw [spec_IsGame_L5_eq]
      simp (disch := (first | omega | (simp only [List.length_append, List.length_cons, List.length_nil, List.length_take, List.length_drop, List.length_set, List.length_replicate, List.length_singleton]; omega))) only [↓if_dpos, ↓if_dneg, ↓if_epos, ↓if_eneg, ↓if_npos, ↓if_nneg, ↓if_pos, ↓if_neg, Int.toNat_natCast, List.nil_append, Nat.zero_add, List.length_singleton, Option.bind_some, List.drop_zero, List.take_length, if_true, if_false, e]
      rw [wholeL, allM]
      by_cases hc : (st ++ hp ++ hs.flatten).length = 52
      · rw [if_pos (by simp only [beq_iff_eq]; omega), decide_eq_true hc, Bool.true_and]
      · rw [if_neg (by simp only [beq_iff_eq]; omega), decide_eq_false hc, Bool.false_and]) fun i hi ih => by
    have h1 := flat_take_le hs (i + 1)
    rw [flat_take hi, List.length_append] at h1
    have hil : (i : Int) < (hs.length : Int) := by omega
    have hw : IntKind.i64.wrap ((i : Int) + 1) = ((i + 1 : Nat) : Int) := wrap_succ hi (by omega)
    rw [spec_IsGame_L5_eq]
    simp (disch := (first | omega | (simp only [List.length_append, List.length_cons, List.length_nil, List.length_take, List.length_drop, List.length_set, List.length_replicate, List.length_singleton]; omega))) only [↓if_dpos, ↓if_dneg, ↓if_epos, ↓if_eneg, ↓if_npos, ↓if_nneg, ↓if_pos, ↓if_neg, hw, Int.toNat_natCast, List.nil_append, Nat.zero_add, List.length_singleton, Option.bind_some, List.drop_zero, List.take_length, if_true, if_false, ]
    rw [← ih, flat_take hi, List.append_assoc (st ++ hp)]
  have h0 : spec_IsGame_L5 0 a0 a1 a2 a3 a4 a5 a6 a7 hs st hp tu mo pa (st ++ hp) = some (wholeL (allM hs st hp)) := by simpa using hloop 0 (Nat.zero_le _)
  rw [spec_IsGame_eq, spec_IsRules_ok _ _ _ _ _ _ _ _ h4 h5, Option.bind_some, gameM]
  cases hr : rulesM a0 a1 a2 a3 a4 a5 a6 a7
  · rfl
  · have hp0 := rulesM_players a0 a1 a2 a3 a4 a5 a6 a7 hs st hp tu mo pa hr
    have hw : IntKind.i64.wrap (a0 - 1) = a0 - 1 := wrap_id (by omega) (by omega)
    simp only [Bool.not_true, Bool.false_eq_true, if_false, Bool.true_and, hw, spec_l1In_ok, Option.bind_some]
    by_cases c1 : (hs.length : Int) = a0
    · by_cases c2 : 0 < hp.length
      · simp (disch := (first | omega | (simp only [List.length_append, List.length_cons, List.length_nil, List.length_take, List.length_drop, List.length_set, List.length_replicate, List.length_singleton]; omega))) only [↓if_dpos, ↓if_dneg, ↓if_epos, ↓if_eneg, ↓if_npos, ↓if_nneg, ↓if_pos, ↓if_neg, h0, Int.toNat_natCast, List.nil_append, Nat.zero_add, List.length_singleton, Option.bind_some, List.drop_zero, List.take_length, if_true, if_false, decide_eq_true c1, decide_eq_true c2, Bool.true_and]
        cases inR tu 0 (a0 - 1) <;> cases inR mo 0 a7 <;> cases inR pa 0 mo <;> rfl
      · simp (disch := (first | omega | (simp only [List.length_append, List.length_cons, List.length_nil, List.length_take, List.length_drop, List.length_set, List.length_replicate, List.length_singleton]; omega))) only [↓if_dpos, ↓if_dneg, ↓if_epos, ↓if_eneg, ↓if_npos, ↓if_nneg, ↓if_pos, ↓if_neg, decide_eq_false c2, Bool.false_and, Bool.and_false]
    · simp (disch := (first | omega | (simp only [List.length_append, List.length_cons, List.length_nil, List.length_take, List.length_drop, List.length_set, List.length_replicate, List.length_singleton]; omega))) only [↓if_dpos, ↓if_dneg, ↓if_epos, ↓if_eneg, ↓if_npos, ↓if_nneg, ↓if_pos, ↓if_neg, decide_eq_false c1, Bool.false_and]
theorem impl_IsGame_ok (a0 a1 : Int) (a2 a3 : Bool) (a4 a5 : List Int) (a6 a7 : Int) (hs : List (List Int)) (st hp : List Int) (tu mo pa : Int) (h4 : a4.length ≤ 1048576) (h5 : a5.length ≤ 1048576) (hh : G2 hs) (h9 : st.length ≤ 2097152) (h10 : hp.length ≤ 2097152) : impl_IsGame a0 a1 a2 a3 a4 a5 a6 a7 hs st hp tu mo pa = some (gameM a0 a1 a2 a3 a4 a5 a6 a7 hs st hp tu mo pa) := by
  have hf := hh.flat
  have hl := hh.len
  have e1 := impl_copyRows_ok _ hh.len (fun r hr => Nat.le_trans (hh.row r hr) (by omega))
  have ef : (hs ++ [st, hp]).flatten = hs.flatten ++ (st ++ hp) := by simp
  have e2 := impl_isWhole_ok (hs ++ [st, hp]) (by simp only [List.length_append, List.length_cons, List.length_nil]; omega) (by rw [ef]; simp only [List.length_append]; omega)
  rw [ef, wholeL_perm (b := allM hs st hp) List.perm_append_comm] at e2
  rw [impl_IsGame_eq, impl_IsRules_ok _ _ _ _ _ _ _ _ h4 h5, Option.bind_some, gameM]
  cases hr : rulesM a0 a1 a2 a3 a4 a5 a6 a7
  · rfl
  · have hp0 := rulesM_players a0 a1 a2 a3 a4 a5 a6 a7 hs st hp tu mo pa hr
    rw [if_pos rfl]
    by_cases c1 : (hs.length : Int) = a0
    · have hw : IntKind.i64.wrap ((hs.length : Int) - 1) = a0 - 1 := by rw [wrap_id (by omega) (by omega)]; omega
      simp (disch := (first | omega | (simp only [List.length_append, List.length_cons, List.length_nil, List.length_take, List.length_drop, List.length_set, List.length_replicate, List.length_singleton]; omega))) only [↓if_dpos, ↓if_dneg, ↓if_epos, ↓if_eneg, ↓if_npos, ↓if_nneg, ↓if_pos, ↓if_neg, e1, Int.toNat_natCast, List.nil_append, Nat.zero_add, List.length_singleton, Option.bind_some, List.drop_zero, List.take_length, if_true, if_false, e2, hw, impl_InRange_ok]
      rw [decide_eq_true c1]
      by_cases c2 : 0 < hp.length
      · simp (disch := (first | omega | (simp only [List.length_append, List.length_cons, List.length_nil, List.length_take, List.length_drop, List.length_set, List.length_replicate, List.length_singleton]; omega))) only [↓if_dpos, ↓if_dneg, ↓if_epos, ↓if_eneg, ↓if_npos, ↓if_nneg, ↓if_pos, ↓if_neg, decide_eq_true c2, Bool.true_and]
        cases wholeL (allM hs st hp) <;> cases inR tu 0 (a0 - 1) <;> cases inR mo 0 a7 <;> cases inR pa 0 mo <;> rfl
      · simp (disch := (first | omega | (simp only [List.length_append, List.length_cons, List.length_nil, List.length_take, List.length_drop, List.length_set, List.length_replicate, List.length_singleton]; omega))) only [↓if_dpos, ↓if_dneg, ↓if_epos, ↓if_eneg, ↓if_npos, ↓if_nneg, ↓if_pos, ↓if_neg, decide_eq_false c2, Bool.false_and, Bool.and_false, if_false]
        cases wholeL (allM hs st hp) <;> rfl
    · simp (disch := (first | omega | (simp only [List.length_append, List.length_cons, List.length_nil, List.length_take, List.length_drop, List.length_set, List.length_replicate, List.length_singleton]; omega))) only [↓if_dpos, ↓if_dneg, ↓if_epos, ↓if_eneg, ↓if_npos, ↓if_nneg, ↓if_pos, ↓if_neg, decide_eq_false c1, Bool.false_and, Bool.and_false]
/-- What a valid game is. -/
structure Valid (a0 a1 : Int) (a2 a3 : Bool) (a4 a5 : List Int) (a6 a7 : Int) (hs : List (List Int)) (st hp : List Int) (tu mo pa : Int) : Prop where
  rules : rulesM a0 a1 a2 a3 a4 a5 a6 a7 = true
  p1 : 2 ≤ a0
  p2 : a0 ≤ 6
  players : (hs.length : Int) = a0
  heap : 0 < hp.length
  t1 : 0 ≤ tu
  t2 : tu ≤ a0 - 1
  m1 : 0 ≤ mo
  m2 : mo ≤ a7
  s1 : 0 ≤ pa
  s2 : pa ≤ mo
  lim : a7 ≤ 400
  take1 : 1 ≤ a6
  take2 : a6 ≤ 4
  each1 : 1 ≤ a1
  each2 : a1 ≤ 8
  all : st.length + hp.length + hs.flatten.length = 52
  hand : handM (allM hs st hp) = true
theorem gameM_valid (a0 a1 : Int) (a2 a3 : Bool) (a4 a5 : List Int) (a6 a7 : Int) (hs : List (List Int)) (st hp : List Int) (tu mo pa : Int) (h : gameM a0 a1 a2 a3 a4 a5 a6 a7 hs st hp tu mo pa = true) : Valid a0 a1 a2 a3 a4 a5 a6 a7 hs st hp tu mo pa := by
  simp only [gameM, wholeL, Bool.and_eq_true, decide_eq_true_eq] at h
  obtain ⟨h1, h2, h3, h4, h5, h6, h7, h8⟩ := h
  have k := h1
  simp only [rulesM, Bool.and_eq_true] at k
  simp [inR] at k h4 h5 h6
  simp only [allM, List.length_append] at h7
  exact ⟨h1, by omega, by omega, h2, h3, by omega, by omega, by omega, by omega, by omega, by omega, by omega, by omega, by omega, by omega, by omega, h7, h8⟩
theorem row_le_flat {l : List (List Int)} {r : List Int} (h : r ∈ l) : r.length ≤ l.flatten.length := by
  induction l with
  | nil => cases h
  | cons x l ih =>
    rw [List.flatten_cons, List.length_append]
    rcases List.mem_cons.1 h with e | e
    · subst e; omega
    · have := ih e; omega
theorem getD_le_flat (l : List (List Int)) (i : Nat) : (l.getD i []).length ≤ l.flatten.length := by
  by_cases hi : i < l.length
  · exact row_le_flat (getD_mem hi)
  · rw [List.getD_eq_getElem?_getD, List.getElem?_eq_none (by omega)]; exact Nat.zero_le _
def fstM : List (List Int) → Int → Int
  | [], _ => -1
  | h :: t, i => if h.length = 0 then i else fstM t (i + 1)
theorem spec_l24First_ok (a0 a1 : Int) (a2 a3 : Bool) (a4 a5 : List Int) (a6 a7 : Int) (hs : List (List Int)) (st hp : List Int) (tu mo pa : Int) (hl : hs.length ≤ 2097152) : spec_l24First a0 a1 a2 a3 a4 a5 a6 a7 hs st hp tu mo pa = some (fstM hs 0) := by
  have h : ∀ i, i ≤ hs.length → spec_l24First_L2 i a0 a1 a2 a3 a4 a5 a6 a7 hs st hp tu mo pa = some (fstM (hs.drop i) i) := down (by
      rw [spec_l24First_L2_eq]
      simp (disch := (first | omega | (simp only [List.length_append, List.length_cons, List.length_nil, List.length_take, List.length_drop, List.length_set, List.length_replicate, List.length_singleton]; omega))) only [↓if_dpos, ↓if_dneg, ↓if_epos, ↓if_eneg, ↓if_npos, ↓if_nneg, ↓if_pos, ↓if_neg, Int.toNat_natCast, List.nil_append, Nat.zero_add, List.length_singleton, Option.bind_some, List.drop_zero, List.take_length, if_true, if_false, ]
      rw [List.drop_of_length_le (Nat.le_refl _)]; rfl) fun i hi ih => by
    have hil : (i : Int) < (hs.length : Int) := by omega
    have hw : IntKind.i64.wrap ((i : Int) + 1) = ((i + 1 : Nat) : Int) := wrap_succ hi (by omega)
    rw [spec_l24First_L2_eq]
    simp (disch := (first | omega | (simp only [List.length_append, List.length_cons, List.length_nil, List.length_take, List.length_drop, List.length_set, List.length_replicate, List.length_singleton]; omega))) only [↓if_dpos, ↓if_dneg, ↓if_epos, ↓if_eneg, ↓if_npos, ↓if_nneg, ↓if_pos, ↓if_neg, hw, Int.toNat_natCast, List.nil_append, Nat.zero_add, List.length_singleton, Option.bind_some, List.drop_zero, List.take_length, if_true, if_false, ih]
    rw [getD_drop (d := []) hi, fstM]
    by_cases e : (hs.getD i []).length = 0
    · rw [if_pos (by simp only [beq_iff_eq]; omega), if_pos e]
    · rw [if_neg (by simp only [beq_iff_eq]; omega), if_neg e]; rfl
  rw [spec_l24First_eq]
  exact h 0 (Nat.zero_le _)
def overM (a0 a7 : Int) (hs : List (List Int)) (mo pa : Int) : Bool := decide (fstM hs 0 ≥ 0) || ((mo == a7) || decide (pa ≥ a0))
theorem spec_l24Over_ok (a0 a1 : Int) (a2 a3 : Bool) (a4 a5 : List Int) (a6 a7 : Int) (hs : List (List Int)) (st hp : List Int) (tu mo pa : Int) (hl : hs.length ≤ 2097152) : spec_l24Over a0 a1 a2 a3 a4 a5 a6 a7 hs st hp tu mo pa = some (overM a0 a7 hs mo pa) := by
  rw [spec_l24Over_eq, spec_l24First_ok a0 a1 a2 a3 a4 a5 a6 a7 hs st hp tu mo pa hl, Option.bind_some, overM]
  cases decide (fstM hs 0 ≥ 0) <;> cases (mo == a7) <;> rfl
noncomputable def playM (a0 a1 : Int) (a2 a3 : Bool) (a4 a5 : List Int) (a6 a7 : Int) (hs : List (List Int)) (st hp : List Int) (tu mo pa : Int) : List Int := if gameM a0 a1 a2 a3 a4 a5 a6 a7 hs st hp tu mo pa && !overM a0 a7 hs mo pa then (sortM (hs.getD tu.toNat [])).filter (fitsM a0 a1 a2 a3 a4 a5 a6 a7 (hp.getD (hp.length - 1) 0)) else []
theorem filter_take' {l : List Int} {i : Nat} (p : Int → Bool) (hi : i < l.length) : (l.take (i + 1)).filter p = if p (l.getD i 0) = true then (l.take i).filter p ++ [l.getD i 0] else (l.take i).filter p := by
  rw [take_succ_getD (d := 0) hi, List.filter_append, List.filter_cons]
  split <;> simp
theorem spec_Playable_ok (a0 a1 : Int) (a2 a3 : Bool) (a4 a5 : List Int) (a6 a7 : Int) (hs : List (List Int)) (st hp : List Int) (tu mo pa : Int) (h4 : a4.length ≤ 1048576) (h5 : a5.length ≤ 1048576) (hh : G2 hs) (h9 : st.length ≤ 2097152) (h10 : hp.length ≤ 2097152) : spec_Playable a0 a1 a2 a3 a4 a5 a6 a7 hs st hp tu mo pa = some (playM a0 a1 a2 a3 a4 a5 a6 a7 hs st hp tu mo pa) := by
  rw [spec_Playable_eq, spec_IsGame_ok a0 a1 a2 a3 a4 a5 a6 a7 hs st hp tu mo pa h4 h5 hh h9 h10, Option.bind_some, spec_l24Over_ok a0 a1 a2 a3 a4 a5 a6 a7 hs st hp tu mo pa hh.len, playM]
  cases hg : gameM a0 a1 a2 a3 a4 a5 a6 a7 hs st hp tu mo pa
  · rfl
  · have v := gameM_valid a0 a1 a2 a3 a4 a5 a6 a7 hs st hp tu mo pa hg
    obtain ⟨v1, v2, v3, v4, v5, v6, v7⟩ := (⟨v.p2, v.players, v.heap, v.t1, v.t2, v.all, v.p1⟩ : _ ∧ _ ∧ _ ∧ _ ∧ _ ∧ _ ∧ _)
    have hrow := getD_le_flat hs tu.toNat
    simp only [Bool.not_true, Bool.false_eq_true, if_false, Bool.true_and, Option.bind_some]
    cases overM a0 a7 hs mo pa
    · simp (disch := (first | omega | (simp only [List.length_append, List.length_cons, List.length_nil, List.length_take, List.length_drop, List.length_set, List.length_replicate, List.length_singleton]; omega))) only [↓if_dpos, ↓if_dneg, ↓if_epos, ↓if_eneg, ↓if_npos, ↓if_nneg, ↓if_pos, ↓if_neg, spec_Sorted_ok, Int.toNat_natCast, List.nil_append, Nat.zero_add, List.length_singleton, Option.bind_some, List.drop_zero, List.take_length, if_true, if_false, Bool.not_false, Bool.false_eq_true]
      have hl : (sortM (hs.getD tu.toNat [])).length ≤ 52 := by rw [sortM_length]; omega
      generalize sortM (hs.getD tu.toNat []) = l at hl
      have h : ∀ i, i ≤ l.length → spec_Playable_L6 i a0 a1 a2 a3 a4 a5 a6 a7 hs st hp tu mo pa ((l.take i).filter (fitsM a0 a1 a2 a3 a4 a5 a6 a7 (hp.getD (hp.length - 1) 0))) l = some (l.filter (fitsM a0 a1 a2 a3 a4 a5 a6 a7 (hp.getD (hp.length - 1) 0))) := down (by
          rw [spec_Playable_L6_eq]
          simp (disch := (first | omega | (simp only [List.length_append, List.length_cons, List.length_nil, List.length_take, List.length_drop, List.length_set, List.length_replicate, List.length_singleton]; omega))) only [↓if_dpos, ↓if_dneg, ↓if_epos, ↓if_eneg, ↓if_npos, ↓if_nneg, ↓if_pos, ↓if_neg, Int.toNat_natCast, List.nil_append, Nat.zero_add, List.length_singleton, Option.bind_some, List.drop_zero, List.take_length, if_true, if_false, ]) fun i hi ih => by
        have hk : ((l.take i).filter (fitsM a0 a1 a2 a3 a4 a5 a6 a7 (hp.getD (hp.length - 1) 0))).length ≤ l.length := flen
        have hw2 : IntKind.i64.wrap ((hp.length : Int) - 1) = ((hp.length - 1 : Nat) : Int) := by rw [wrap_id (by omega) (by omega)]; omega
        have hil : (i : Int) < (l.length : Int) := by omega
        have hw : IntKind.i64.wrap ((i : Int) + 1) = ((i + 1 : Nat) : Int) := wrap_succ hi (by omega)
        rw [spec_Playable_L6_eq]
        simp (disch := (first | omega | (simp only [List.length_append, List.length_cons, List.length_nil, List.length_take, List.length_drop, List.length_set, List.length_replicate, List.length_singleton]; omega))) only [↓if_dpos, ↓if_dneg, ↓if_epos, ↓if_eneg, ↓if_npos, ↓if_nneg, ↓if_pos, ↓if_neg, hw, Int.toNat_natCast, List.nil_append, Nat.zero_add, List.length_singleton, Option.bind_some, List.drop_zero, List.take_length, if_true, if_false, hw2, spec_FitsOn_ok _ _ _ _ _ _ _ _ _ _ h4 h5]
        rw [← ih, filter_take' _ hi]
        split <;> rfl
      exact h 0 (Nat.zero_le _)
    · rfl
theorem playM_length (a0 a1 : Int) (a2 a3 : Bool) (a4 a5 : List Int) (a6 a7 : Int) (hs : List (List Int)) (st hp : List Int) (tu mo pa : Int) : (playM a0 a1 a2 a3 a4 a5 a6 a7 hs st hp tu mo pa).length ≤ 52 := by
  rw [playM]
  split
  · rename_i h
    simp only [Bool.and_eq_true] at h
    have v := gameM_valid a0 a1 a2 a3 a4 a5 a6 a7 hs st hp tu mo pa h.1
    have := getD_le_flat hs tu.toNat
    have e := v.all
    refine Nat.le_trans (List.length_filter_le _ _) ?_
    rw [sortM_length]; omega
  · exact Nat.zero_le _
theorem playM_has (a0 a1 : Int) (a2 a3 : Bool) (a4 a5 : List Int) (a6 a7 : Int) (hs : List (List Int)) (st hp : List Int) (tu mo pa : Int) {c : Int} (h : hasM (playM a0 a1 a2 a3 a4 a5 a6 a7 hs st hp tu mo pa) c = true) : gameM a0 a1 a2 a3 a4 a5 a6 a7 hs st hp tu mo pa = true ∧ overM a0 a7 hs mo pa = false ∧ c ∈ hs.getD tu.toNat [] := by
  unfold hasM playM at h
  split at h
  · rename_i hc
    simp only [Bool.and_eq_true, Bool.not_eq_true'] at hc
    simp only [decide_eq_true_eq, List.mem_filter] at h
    exact ⟨hc.1, hc.2, sortM_mem.1 h.1⟩
  · simp at h
noncomputable def playOnM (a0 a1 : Int) (a2 a3 : Bool) (a4 a5 : List Int) (a6 a7 : Int) (hs : List (List Int)) (st hp : List Int) (tu mo pa : Int) (c : Int) : Int × Int × Bool × Bool × List Int × List Int × Int × Int × List (List Int) × List Int × List Int × Int × Int × Int × Bool :=
  if hasM (playM a0 a1 a2 a3 a4 a5 a6 a7 hs st hp tu mo pa) c = true then (a0, a1, a2, a3, a4, a5, a6, a7, hs.set tu.toNat (withoutM (hs.getD tu.toNat []) c), st, hp ++ [c], (tu + (if skipM a0 a1 a2 a3 a4 a5 a6 a7 c = true then 2 else 1)).tmod a0, mo + 1, 0, true)
  else (a0, a1, a2, a3, a4, a5, a6, a7, hs, st, hp, tu, mo, pa, false)
theorem spec_PlayOn_ok (a0 a1 : Int) (a2 a3 : Bool) (a4 a5 : List Int) (a6 a7 : Int) (hs : List (List Int)) (st hp : List Int) (tu mo pa : Int) (c : Int) (h4 : a4.length ≤ 1048576) (h5 : a5.length ≤ 1048576) (hh : G2 hs) (h9 : st.length ≤ 2097152) (h10 : hp.length ≤ 2097152) : spec_PlayOn a0 a1 a2 a3 a4 a5 a6 a7 hs st hp tu mo pa c = some (playOnM a0 a1 a2 a3 a4 a5 a6 a7 hs st hp tu mo pa c) := by
  have hpl := playM_length a0 a1 a2 a3 a4 a5 a6 a7 hs st hp tu mo pa
  rw [spec_PlayOn_eq, spec_l24Copy_ok a0 a1 a2 a3 a4 a5 a6 a7 hs st hp tu mo pa h4 h5 hh h9 h10, Option.bind_some, spec_Playable_ok a0 a1 a2 a3 a4 a5 a6 a7 hs st hp tu mo pa h4 h5 hh h9 h10, Option.bind_some, spec_HasCard_ok _ _ (by omega), Option.bind_some, playOnM]
  cases hc : hasM (playM a0 a1 a2 a3 a4 a5 a6 a7 hs st hp tu mo pa) c
  · rfl
  · obtain ⟨hg, _, _⟩ := playM_has a0 a1 a2 a3 a4 a5 a6 a7 hs st hp tu mo pa hc
    have v := gameM_valid a0 a1 a2 a3 a4 a5 a6 a7 hs st hp tu mo pa hg
    obtain ⟨v1, v2, v3, v4, v5, v6, v7, v8, v9, v10⟩ := (⟨v.p2, v.players, v.heap, v.t1, v.t2, v.all, v.p1, v.m1, v.m2, v.lim⟩ : _ ∧ _ ∧ _ ∧ _ ∧ _ ∧ _ ∧ _ ∧ _ ∧ _ ∧ _)
    have hrow := getD_le_flat hs tu.toNat
    have e := spec_Without_ok (hs.getD tu.toNat []) c (by omega)
    have w1 : IntKind.i64.wrap (tu + 1) = tu + 1 := wrap_id (by omega) (by omega)
    have w2 : IntKind.i64.wrap (tu + 2) = tu + 2 := wrap_id (by omega) (by omega)
    have w3 : IntKind.i64.wrap (mo + 1) = mo + 1 := wrap_id (by omega) (by omega)
    simp (disch := (first | omega | (simp only [List.length_append, List.length_cons, List.length_nil, List.length_take, List.length_drop, List.length_set, List.length_replicate, List.length_singleton]; omega))) only [↓if_dpos, ↓if_dneg, ↓if_epos, ↓if_eneg, ↓if_npos, ↓if_nneg, ↓if_pos, ↓if_neg, Bool.not_true, Bool.false_eq_true, if_false, e, Int.toNat_natCast, List.nil_append, Nat.zero_add, List.length_singleton, Option.bind_some, List.drop_zero, List.take_length, if_true, if_false, spec_DoesSkip_ok _ _ _ _ _ _ _ _ _ h4 h5, w1, w2, w3]
    cases skipM a0 a1 a2 a3 a4 a5 a6 a7 c <;> simp
theorem sum_set {l : List (List Int)} {i : Nat} {r : List Int} (hi : i < l.length) : (l.set i r).flatten.length + (l.getD i []).length = l.flatten.length + r.length := by
  have e : l = l.take i ++ l.getD i [] :: l.drop (i + 1) := by rw [← getD_drop hi, List.take_append_drop]
  have hk : (l.take i).length = i := by simp; omega
  have e2 : l.set i r = l.take i ++ r :: l.drop (i + 1) := by
    conv => lhs; rw [e]
    rw [List.set_append_right _ _ (by omega), hk, Nat.sub_self, List.set_cons_zero]
  have e3 : l.flatten.length = (l.take i ++ l.getD i [] :: l.drop (i + 1)).flatten.length := by rw [← e]
  rw [e2, e3]
  simp only [List.flatten_append, List.flatten_cons, List.length_append]
  omega
/-- What is taken: n times, from hands, stock and heap. -/
def takeR (tu : Nat) : Nat → Nat → List (List Int) → List Int → List Int → Nat × List (List Int) × List Int × List Int
  | 0, taken, hs, st, hp => (taken, hs, st, hp)
  | n + 1, taken, hs, st, hp =>
    if st.length = 0 then
      (if hp.length - 1 = 0 then (taken, hs, hp.take (hp.length - 1), hp.drop (hp.length - 1))
       else takeR tu n (taken + 1) (hs.set tu (hs.getD tu [] ++ [(hp.take (hp.length - 1)).getD 0 0])) ((hp.take (hp.length - 1)).drop 1) (hp.drop (hp.length - 1)))
    else takeR tu n (taken + 1) (hs.set tu (hs.getD tu [] ++ [st.getD 0 0])) (st.drop 1) hp
def passM (pa : Int) (t : Nat) : Int := if t = 0 then pa + 1 else 0
theorem passM_zero (pa : Int) : passM pa 0 = pa + 1 := rfl
theorem passM_pos {pa : Int} {t : Nat} (h : ¬ t = 0) : passM pa t = 0 := if_neg h
def takeM (a0 a1 : Int) (a2 a3 : Bool) (a4 a5 : List Int) (a6 a7 : Int) (hs : List (List Int)) (st hp : List Int) (tu mo pa : Int) : Int × Int × Bool × Bool × List Int × List Int × Int × Int × List (List Int) × List Int × List Int × Int × Int × Int × Bool :=
  if (gameM a0 a1 a2 a3 a4 a5 a6 a7 hs st hp tu mo pa && !overM a0 a7 hs mo pa) = true then
    (a0, a1, a2, a3, a4, a5, a6, a7, (takeR tu.toNat a6.toNat 0 hs st hp).2.1, (takeR tu.toNat a6.toNat 0 hs st hp).2.2.1, (takeR tu.toNat a6.toNat 0 hs st hp).2.2.2, (tu + 1).tmod a0, mo + 1, passM pa (takeR tu.toNat a6.toNat 0 hs st hp).1, true)
  else (a0, a1, a2, a3, a4, a5, a6, a7, hs, st, hp, tu, mo, pa, false)
theorem spec_TakeCards_ok (a0 a1 : Int) (a2 a3 : Bool) (a4 a5 : List Int) (a6 a7 : Int) (hs : List (List Int)) (st hp : List Int) (tu mo pa : Int) (h4 : a4.length ≤ 1048576) (h5 : a5.length ≤ 1048576) (hh : G2 hs) (h9 : st.length ≤ 2097152) (h10 : hp.length ≤ 2097152) : spec_TakeCards a0 a1 a2 a3 a4 a5 a6 a7 hs st hp tu mo pa = some (takeM a0 a1 a2 a3 a4 a5 a6 a7 hs st hp tu mo pa) := by
  rw [spec_TakeCards_eq, spec_l24Copy_ok a0 a1 a2 a3 a4 a5 a6 a7 hs st hp tu mo pa h4 h5 hh h9 h10, Option.bind_some, spec_IsGame_ok a0 a1 a2 a3 a4 a5 a6 a7 hs st hp tu mo pa h4 h5 hh h9 h10, Option.bind_some, spec_l24Over_ok a0 a1 a2 a3 a4 a5 a6 a7 hs st hp tu mo pa hh.len, Option.bind_some, takeM]
  cases hg : gameM a0 a1 a2 a3 a4 a5 a6 a7 hs st hp tu mo pa
  · rfl
  · cases ho : overM a0 a7 hs mo pa
    · have v := gameM_valid a0 a1 a2 a3 a4 a5 a6 a7 hs st hp tu mo pa hg
      obtain ⟨v1, v2, v3, v4, v5, v6, v7, v8, v9, v10⟩ := (⟨v.p2, v.players, v.heap, v.t1, v.t2, v.all, v.p1, v.m1, v.m2, v.lim⟩ : _ ∧ _ ∧ _ ∧ _ ∧ _ ∧ _ ∧ _ ∧ _ ∧ _ ∧ _)
      obtain ⟨v11, v12, v13, v14⟩ := (⟨v.take1, v.take2, v.s1, v.s2⟩ : _ ∧ _ ∧ _ ∧ _)
      have w1 : IntKind.i64.wrap (tu + 1) = tu + 1 := wrap_id (by omega) (by omega)
      have w3 : IntKind.i64.wrap (mo + 1) = mo + 1 := wrap_id (by omega) (by omega)
      have w4 : IntKind.i64.wrap (pa + 1) = pa + 1 := wrap_id (by omega) (by omega)
      have key : ∀ n : Nat, ∀ (i t : Nat) (hs' : List (List Int)) (st' hp' : List Int), i + n = a6.toNat → t ≤ i → hs'.length = hs.length → 0 < hp'.length → st'.length + hp'.length + hs'.flatten.length = 52 →
          spec_TakeCards_L6 t i a0 a1 a2 a3 a4 a5 a6 a7 hs st hp tu mo pa 0 0 false false 0 0 0 0 0 a0 a1 a2 a3 a6 a7 tu mo pa a4 a5 hs' st' hp' = some (a0, a1, a2, a3, a4, a5, a6, a7, (takeR tu.toNat n t hs' st' hp').2.1, (takeR tu.toNat n t hs' st' hp').2.2.1, (takeR tu.toNat n t hs' st' hp').2.2.2, (tu + 1).tmod a0, mo + 1, passM pa (takeR tu.toNat n t hs' st' hp').1, true) := by
        intro n
        induction n with
        | zero =>
          intro i t hs' st' hp' hi ht k1 k2 k3
          rw [spec_TakeCards_L6_eq]
          simp (disch := (first | omega | (simp only [List.length_append, List.length_cons, List.length_nil, List.length_take, List.length_drop, List.length_set, List.length_replicate, List.length_singleton]; omega))) only [↓if_dpos, ↓if_dneg, ↓if_epos, ↓if_eneg, ↓if_npos, ↓if_nneg, ↓if_pos, ↓if_neg, w1, w3, w4, takeR]
          by_cases c : t = 0
          · subst c; rw [passM_zero]; simp (disch := (first | omega | (simp only [List.length_append, List.length_cons, List.length_nil, List.length_take, List.length_drop, List.length_set, List.length_replicate, List.length_singleton]; omega))) only [↓if_dpos, ↓if_dneg, ↓if_epos, ↓if_eneg, ↓if_npos, ↓if_nneg, ↓if_pos, ↓if_neg]
          · rw [passM_pos c]; simp (disch := (first | omega | (simp only [List.length_append, List.length_cons, List.length_nil, List.length_take, List.length_drop, List.length_set, List.length_replicate, List.length_singleton]; omega))) only [↓if_dpos, ↓if_dneg, ↓if_epos, ↓if_eneg, ↓if_npos, ↓if_nneg, ↓if_pos, ↓if_neg]
        | succ n ih =>
          intro i t hs' st' hp' hi ht k1 k2 k3
          have ut : IntKind.i64.wrap ((t : Int) + 1) = ((t + 1 : Nat) : Int) := by rw [wrap_id (by omega) (by omega)]; omega
          have ui : IntKind.i64.wrap ((i : Int) + 1) = ((i + 1 : Nat) : Int) := by rw [wrap_id (by omega) (by omega)]; omega
          have uh : IntKind.i64.wrap ((hp'.length : Int) - 1) = ((hp'.length - 1 : Nat) : Int) := by rw [wrap_id (by omega) (by omega)]; omega
          have hrow := getD_le_flat hs' tu.toNat
          rw [spec_TakeCards_L6_eq, takeR]
          by_cases c1 : st'.length = 0
          · by_cases c2 : hp'.length - 1 = 0
            · simp (disch := (first | omega | (simp only [List.length_append, List.length_cons, List.length_nil, List.length_take, List.length_drop, List.length_set, List.length_replicate, List.length_singleton]; omega))) only [↓if_dpos, ↓if_dneg, ↓if_epos, ↓if_eneg, ↓if_npos, ↓if_nneg, ↓if_pos, ↓if_neg, uh, Int.toNat_natCast, List.nil_append, Nat.zero_add, List.length_singleton, Option.bind_some, List.drop_zero, List.take_length, if_true, if_false, w1, w3, w4]
              by_cases c : t = 0
              · subst c; rw [passM_zero]; simp (disch := (first | omega | (simp only [List.length_append, List.length_cons, List.length_nil, List.length_take, List.length_drop, List.length_set, List.length_replicate, List.length_singleton]; omega))) only [↓if_dpos, ↓if_dneg, ↓if_epos, ↓if_eneg, ↓if_npos, ↓if_nneg, ↓if_pos, ↓if_neg]
              · rw [passM_pos c]; simp (disch := (first | omega | (simp only [List.length_append, List.length_cons, List.length_nil, List.length_take, List.length_drop, List.length_set, List.length_replicate, List.length_singleton]; omega))) only [↓if_dpos, ↓if_dneg, ↓if_epos, ↓if_eneg, ↓if_npos, ↓if_nneg, ↓if_pos, ↓if_neg]
            · have hsum := sum_set (r := hs'.getD tu.toNat [] ++ [(hp'.take (hp'.length - 1)).getD 0 0]) (by omega : tu.toNat < hs'.length)
              rw [List.length_append, List.length_singleton] at hsum
              simp (disch := (first | omega | (simp only [List.length_append, List.length_cons, List.length_nil, List.length_take, List.length_drop, List.length_set, List.length_replicate, List.length_singleton]; omega))) only [↓if_dpos, ↓if_dneg, ↓if_epos, ↓if_eneg, ↓if_npos, ↓if_nneg, ↓if_pos, ↓if_neg, uh, Int.toNat_natCast, List.nil_append, Nat.zero_add, List.length_singleton, Option.bind_some, List.drop_zero, List.take_length, if_true, if_false, ut, ui, Nat.beq_refl, Bool.and_self, cond_true, List.set_set]
              exact ih (i + 1) (t + 1) _ _ _ (by omega) (by omega) (by simpa using k1) (by simp; omega) (by simp only [List.length_drop, List.length_take]; omega)
          · have hsum := sum_set (r := hs'.getD tu.toNat [] ++ [st'.getD 0 0]) (by omega : tu.toNat < hs'.length)
            rw [List.length_append, List.length_singleton] at hsum
            simp (disch := (first | omega | (simp only [List.length_append, List.length_cons, List.length_nil, List.length_take, List.length_drop, List.length_set, List.length_replicate, List.length_singleton]; omega))) only [↓if_dpos, ↓if_dneg, ↓if_epos, ↓if_eneg, ↓if_npos, ↓if_nneg, ↓if_pos, ↓if_neg, uh, Int.toNat_natCast, List.nil_append, Nat.zero_add, List.length_singleton, Option.bind_some, List.drop_zero, List.take_length, if_true, if_false, ut, ui, Nat.beq_refl, Bool.and_self, cond_true, List.set_set]
            exact ih (i + 1) (t + 1) _ _ _ (by omega) (by omega) (by simpa using k1) k2 (by simp only [List.length_drop]; omega)
      exact key a6.toNat 0 0 hs st hp (by omega) (Nat.le_refl _) rfl v3 v6
    · rfl
def handN (deck : List Int) (p q n : Nat) : List Int := (List.range n).map fun (i : Nat) => deck.getD (i * p + q) 0
def handsN (deck : List Int) (p e : Nat) : List (List Int) := (List.range p).map fun (q : Nat) => handN deck p q e
theorem handN_length (deck : List Int) (p q n : Nat) : (handN deck p q n).length = n := by simp [handN]
theorem handsN_length (deck : List Int) (p e : Nat) : (handsN deck p e).length = p := by simp [handsN]
theorem handN_succ (deck : List Int) (p q n : Nat) : handN deck p q (n + 1) = handN deck p q n ++ [deck.getD (n * p + q) 0] := by simp [handN, List.range_succ]
def dealtM (deck : List Int) (p e : Int) : List (List Int) × List Int × Bool :=
  if handM deck = true ∧ inR p 1 6 = true ∧ inR e 0 20 = true ∧ p * e ≤ (deck.length : Int) then (handsN deck p.toNat e.toNat, deck.drop (p.toNat * e.toNat), true) else ([], deck, false)
theorem spec_Dealt_in (deck : List Int) (p e : Nat) (hp : p ≤ 6) (he : e ≤ 20) (hl : p * e ≤ deck.length) (hd : deck.length ≤ 2097152) : ∀ q, q ≤ p → spec_Dealt_L5 deck p e q ((List.range q).map fun (q : Nat) => handN deck p q e) = some (handsN deck p e, deck.drop (p * e), true) := by
  have hpe : p * e ≤ 120 := Nat.mul_le_mul hp he
  have wpe : IntKind.i64.wrap ((p : Int) * (e : Int)) = ((p * e : Nat) : Int) := by rw [← Int.natCast_mul, wrap_id (by omega) (by omega)]
  refine down (by
    rw [spec_Dealt_L5_eq]
    simp (disch := (first | omega | (simp only [List.length_append, List.length_cons, List.length_nil, List.length_take, List.length_drop, List.length_set, List.length_replicate, List.length_singleton]; omega))) only [↓if_dpos, ↓if_dneg, ↓if_epos, ↓if_eneg, ↓if_npos, ↓if_nneg, ↓if_pos, ↓if_neg, Int.toNat_natCast, List.nil_append, Nat.zero_add, List.length_singleton, Option.bind_some, List.drop_zero, List.take_length, if_true, if_false, wpe]
    rfl) fun q hq ih => ?_
  have hw : IntKind.i64.wrap ((q : Int) + 1) = ((q + 1 : Nat) : Int) := by rw [wrap_id (by omega) (by omega)]; omega
  have hin : ∀ i, i ≤ e → spec_Dealt_L9 deck p e q i ((List.range q).map fun (q : Nat) => handN deck p q e) (handN deck p q i) = some (handsN deck p e, deck.drop (p * e), true) := down (by
      rw [List.range_succ, List.map_append] at ih
      have hlr : ((List.range q).map fun (q : Nat) => handN deck p q e).length = q := by simp
      rw [spec_Dealt_L9_eq]
      simp (disch := (first | omega | (simp only [List.length_append, List.length_cons, List.length_nil, List.length_take, List.length_drop, List.length_set, List.length_replicate, List.length_singleton]; omega))) only [↓if_dpos, ↓if_dneg, ↓if_epos, ↓if_eneg, ↓if_npos, ↓if_nneg, ↓if_pos, ↓if_neg, Int.toNat_natCast, List.nil_append, Nat.zero_add, List.length_singleton, Option.bind_some, List.drop_zero, List.take_length, if_true, if_false, hw, hlr]
      exact ih) fun i hi jh => by
    have hi1 : IntKind.i64.wrap ((i : Int) + 1) = ((i + 1 : Nat) : Int) := by rw [wrap_id (by omega) (by omega)]; omega
    have h1 : i * p + p ≤ e * p := by rw [← Nat.succ_mul]; exact Nat.mul_le_mul_right _ hi
    rw [Nat.mul_comm e p] at h1
    have h2 : IntKind.i64.wrap ((i : Int) * (p : Int)) = ((i * p : Nat) : Int) := by rw [← Int.natCast_mul, wrap_id (by omega) (by omega)]
    have h3 : IntKind.i64.wrap (((i * p : Nat) : Int) + (q : Int)) = ((i * p + q : Nat) : Int) := by rw [wrap_id (by omega) (by omega)]; omega
    have hk := handN_length deck p q i
    rw [spec_Dealt_L9_eq]
    simp (disch := (first | omega | (simp only [List.length_append, List.length_cons, List.length_nil, List.length_take, List.length_drop, List.length_set, List.length_replicate, List.length_singleton]; omega))) only [↓if_dpos, ↓if_dneg, ↓if_epos, ↓if_eneg, ↓if_npos, ↓if_nneg, ↓if_pos, ↓if_neg, hi1, h2, h3, Int.toNat_natCast, List.nil_append, Nat.zero_add, List.length_singleton, Option.bind_some, List.drop_zero, List.take_length, if_true, if_false]
    rw [← jh, handN_succ]
  rw [spec_Dealt_L5_eq, if_pos (decide_eq_true (by omega))]
  exact hin 0 (Nat.zero_le _)
theorem spec_Dealt_ok (deck : List Int) (p e : Int) (hd : deck.length ≤ 2097152) : spec_Dealt deck p e = some (dealtM deck p e) := by
  rw [spec_Dealt_eq, spec_IsHand_ok _ (by omega), Option.bind_some, spec_l1In_ok, Option.bind_some, spec_l1In_ok, Option.bind_some, dealtM]
  have hz : (0 + deck.length) * 8 ≤ 140737488355328 := by omega
  cases hh : handM deck
  · simp; omega
  · cases h1 : inR p 1 6
    · simp; omega
    · cases h2 : inR e 0 20
      · simp; omega
      · simp [inR] at h1 h2
        have hpp : p = (p.toNat : Int) := by omega
        have hee : e = (e.toNat : Int) := by omega
        generalize p.toNat = P at hpp
        generalize e.toNat = E at hee
        subst hpp; subst hee
        have hpe : P * E ≤ 120 := Nat.mul_le_mul (by omega : P ≤ 6) (by omega : E ≤ 20)
        have wpe : IntKind.i64.wrap ((P : Int) * (E : Int)) = ((P * E : Nat) : Int) := by rw [← Int.natCast_mul, wrap_id (by omega) (by omega)]
        rw [wpe, ← Int.natCast_mul]
        simp only [Bool.not_true, Bool.false_eq_true, if_false, true_and]
        by_cases h3 : ((P * E : Nat) : Int) ≤ (deck.length : Int)
        · rw [if_neg (by simp; omega), if_pos h3]
          exact spec_Dealt_in deck P E (by omega) (by omega) (by omega) hd 0 (Nat.zero_le _)
        · rw [if_pos (by simp; omega), if_neg h3, if_pos hz]; rfl
theorem perm_of_count {a b : List Int} (h : ∀ c, a.count c = b.count c) : a.Perm b := List.perm_iff_count.2 h
theorem flat_set (c : Int) : ∀ (hs : List (List Int)) (i : Nat) (r : List Int), i < hs.length → (hs.set i r).flatten.count c + (hs.getD i []).count c = hs.flatten.count c + r.count c
  | [], i, r, h => by simp at h
  | q :: hs, 0, r, h => by
    rw [List.set_cons_zero, List.flatten_cons, List.flatten_cons, List.count_append, List.count_append, List.getD_cons_zero]; omega
  | q :: hs, i + 1, r, h => by
    have := flat_set c hs i r (by simpa using h)
    rw [List.set_cons_succ, List.flatten_cons, List.flatten_cons, List.count_append, List.count_append, List.getD_cons_succ]; omega
theorem inR_iff {x a b : Int} : inR x a b = true ↔ a ≤ x ∧ x ≤ b := by simp [inR]
theorem gameM_iff (a0 a1 : Int) (a2 a3 : Bool) (a4 a5 : List Int) (a6 a7 : Int) (hs : List (List Int)) (st hp : List Int) (tu mo pa : Int) : gameM a0 a1 a2 a3 a4 a5 a6 a7 hs st hp tu mo pa = true ↔ rulesM a0 a1 a2 a3 a4 a5 a6 a7 = true ∧ (hs.length : Int) = a0 ∧ 0 < hp.length ∧ (0 ≤ tu ∧ tu ≤ a0 - 1) ∧ (0 ≤ mo ∧ mo ≤ a7) ∧ (0 ≤ pa ∧ pa ≤ mo) ∧ wholeL (allM hs st hp) = true := by
  simp only [gameM, Bool.and_eq_true, decide_eq_true_eq, inR_iff]
theorem allM_count (c : Int) (hs : List (List Int)) (st hp : List Int) : (allM hs st hp).count c = st.count c + hp.count c + hs.flatten.count c := by simp only [allM, List.count_append]
/-- A game of the same cards. -/
theorem game_next (a0 a1 : Int) (a2 a3 : Bool) (a4 a5 : List Int) (a6 a7 : Int) (hs : List (List Int)) (st hp : List Int) (tu mo pa : Int) {hs' : List (List Int)} {st' hp' : List Int} {tu' mo' pa' : Int} (h : gameM a0 a1 a2 a3 a4 a5 a6 a7 hs st hp tu mo pa = true) (hl : hs'.length = hs.length) (h0 : 0 < hp'.length) (h1 : 0 ≤ tu' ∧ tu' ≤ a0 - 1) (h2 : 0 ≤ mo' ∧ mo' ≤ a7) (h3 : 0 ≤ pa' ∧ pa' ≤ mo')
    (hc : ∀ c, st'.count c + hp'.count c + hs'.flatten.count c = st.count c + hp.count c + hs.flatten.count c) : gameM a0 a1 a2 a3 a4 a5 a6 a7 hs' st' hp' tu' mo' pa' = true := by
  obtain ⟨k1, k2, k3, k4, k5, k6, k7⟩ := (gameM_iff a0 a1 a2 a3 a4 a5 a6 a7 hs st hp tu mo pa).1 h
  refine (gameM_iff ..).2 ⟨k1, by rw [hl]; exact k2, h0, h1, h2, h3, ?_⟩
  rw [← k7]
  exact wholeL_perm (perm_of_count fun c => by rw [allM_count, allM_count]; exact hc c)
theorem tmod_turn {x p : Int} (hx : 0 ≤ x) (hp : 2 ≤ p) : 0 ≤ x.tmod p ∧ x.tmod p ≤ p - 1 := by
  rw [Int.tmod_eq_emod_of_nonneg hx]
  have := Int.emod_nonneg x (by omega : p ≠ 0)
  have := Int.emod_lt_of_pos x (by omega : 0 < p)
  omega
theorem over_no {a0 a7 : Int} {hs : List (List Int)} {mo pa : Int} (h : overM a0 a7 hs mo pa = false) : fstM hs 0 < 0 ∧ mo ≠ a7 ∧ pa < a0 := by
  simp only [overM, Bool.or_eq_false_iff, decide_eq_false_iff_not, beq_eq_false_iff_ne] at h
  exact ⟨by omega, h.2.1, by omega⟩
theorem row_sub {hs : List (List Int)} {i : Nat} (hi : i < hs.length) : (hs.getD i []).Sublist hs.flatten := by
  rw [List.getD_eq_getElem?_getD, List.getElem?_eq_getElem hi]
  exact List.sublist_flatten_of_mem (List.getElem_mem hi)
theorem game_row_nodup (a0 a1 : Int) (a2 a3 : Bool) (a4 a5 : List Int) (a6 a7 : Int) (hs : List (List Int)) (st hp : List Int) (tu mo pa : Int) (h : gameM a0 a1 a2 a3 a4 a5 a6 a7 hs st hp tu mo pa = true) {i : Nat} (hi : i < hs.length) : (hs.getD i []).Nodup := by
  have v := gameM_valid a0 a1 a2 a3 a4 a5 a6 a7 hs st hp tu mo pa h
  have hh := v.hand
  simp only [handM, Bool.and_eq_true, decide_eq_true_eq] at hh
  exact hh.2.sublist ((row_sub hi).trans (by unfold allM; exact List.sublist_append_right _ _))
theorem without_count {l : List Int} (hn : l.Nodup) {c : Int} (hc : c ∈ l) (x : Int) : (withoutM l c).count x + [c].count x = l.count x := by
  unfold withoutM
  have h1 : l.count c = 1 := by
    have := List.nodup_iff_count.1 hn c
    have := List.count_pos_iff.2 hc
    omega
  by_cases e : x = c
  · subst e
    rw [h1, List.count_eq_zero.2 (by rw [List.mem_filter]; simp)]
    simp
  · rw [List.count_filter (by simpa using e), (show [c].count x = 0 from List.count_eq_zero.2 (by simpa using e))]; omega
theorem without_length {l : List Int} (hn : l.Nodup) {c : Int} (hc : c ∈ l) : (withoutM l c).length + 1 = l.length := by
  have : (withoutM l c ++ [c]).Perm l := perm_of_count fun x => by rw [List.count_append]; exact without_count hn hc x
  have := this.length_eq
  rwa [List.length_append, List.length_singleton] at this
/-- What is known of a game behind a play. -/
theorem play_game (a0 a1 : Int) (a2 a3 : Bool) (a4 a5 : List Int) (a6 a7 : Int) (hs : List (List Int)) (st hp : List Int) (tu mo pa : Int) {c : Int} (hc : hasM (playM a0 a1 a2 a3 a4 a5 a6 a7 hs st hp tu mo pa) c = true) : gameM a0 a1 a2 a3 a4 a5 a6 a7 (hs.set tu.toNat (withoutM (hs.getD tu.toNat []) c)) st (hp ++ [c]) ((tu + (if skipM a0 a1 a2 a3 a4 a5 a6 a7 c = true then 2 else 1)).tmod a0) (mo + 1) 0 = true ∧ (withoutM (hs.getD tu.toNat []) c).length + 1 = (hs.getD tu.toNat []).length ∧ tu.toNat < hs.length := by
  obtain ⟨hg, ho, hm⟩ := playM_has a0 a1 a2 a3 a4 a5 a6 a7 hs st hp tu mo pa hc
  obtain ⟨k1, k2, k3, k4, k5, k6, k7⟩ := (gameM_iff a0 a1 a2 a3 a4 a5 a6 a7 hs st hp tu mo pa).1 hg
  obtain ⟨o1, o2, o3⟩ := over_no ho
  have hp0 := rulesM_players a0 a1 a2 a3 a4 a5 a6 a7 hs st hp tu mo pa k1
  have hi : tu.toNat < hs.length := by omega
  have hn := game_row_nodup a0 a1 a2 a3 a4 a5 a6 a7 hs st hp tu mo pa hg hi
  refine ⟨game_next a0 a1 a2 a3 a4 a5 a6 a7 hs st hp tu mo pa hg (by simp) (by simp) (tmod_turn (by split <;> omega) hp0.1) (by omega) (by omega) fun x => ?_, without_length hn hm, hi⟩
  have e1 := flat_set x hs tu.toNat (withoutM (hs.getD tu.toNat []) c) hi
  have e2 := without_count hn hm x
  rw [List.count_append]
  omega
theorem takeR_count (x : Int) (tu : Nat) : ∀ n t (hs : List (List Int)) (st hp : List Int), tu < hs.length → 0 < hp.length → (takeR tu n t hs st hp).2.2.1.count x + (takeR tu n t hs st hp).2.2.2.count x + (takeR tu n t hs st hp).2.1.flatten.count x = st.count x + hp.count x + hs.flatten.count x ∧ 0 < (takeR tu n t hs st hp).2.2.2.length ∧ (takeR tu n t hs st hp).2.1.length = hs.length ∧ (hs.getD tu []).length ≤ ((takeR tu n t hs st hp).2.1.getD tu []).length ∧ ((takeR tu n t hs st hp).2.1.getD tu []).length ≤ (hs.getD tu []).length + n := by
  have at' : ∀ {hs : List (List Int)} {r : List Int}, tu < hs.length → (hs.set tu r).getD tu [] = r := fun h => by
    rw [List.getD_eq_getElem?_getD, List.getElem?_set_self h]; rfl
  intro n
  induction n with
  | zero => intro t hs st hp h1 h2; exact ⟨rfl, h2, rfl, Nat.le_refl _, Nat.le_refl _⟩
  | succ n ih =>
    intro t hs st hp h1 h2
    rw [takeR]
    by_cases c1 : st.length = 0
    · have hst : st = [] := List.length_eq_zero_iff.1 c1
      rw [if_pos c1]
      have hsplit : hp.count x = (hp.take (hp.length - 1)).count x + (hp.drop (hp.length - 1)).count x := by
        rw [← List.count_append, List.take_append_drop]
      by_cases c2 : hp.length - 1 = 0
      · rw [if_pos c2]
        refine ⟨?_, by show 0 < (hp.drop _).length; rw [List.length_drop]; omega, rfl, Nat.le_refl _, by dsimp only; omega⟩
        subst hst
        dsimp only
        rw [hsplit]; simp
      · rw [if_neg c2]
        have hne : 0 < (hp.take (hp.length - 1)).length := by rw [List.length_take]; omega
        obtain ⟨k1, k2, k3, k4, k5⟩ := ih (t + 1) (hs.set tu (hs.getD tu [] ++ [(hp.take (hp.length - 1)).getD 0 0])) ((hp.take (hp.length - 1)).drop 1) (hp.drop (hp.length - 1)) (by rw [List.length_set]; exact h1) (by rw [List.length_drop]; omega)
        rw [at' h1, List.length_append, List.length_singleton] at k4 k5
        refine ⟨?_, k2, by rw [k3, List.length_set], by omega, by omega⟩
        rw [k1]
        have e1 := flat_set x hs tu (hs.getD tu [] ++ [(hp.take (hp.length - 1)).getD 0 0]) h1
        have e2 : (hp.take (hp.length - 1)).count x = [(hp.take (hp.length - 1)).getD 0 0].count x + ((hp.take (hp.length - 1)).drop 1).count x := by
          rw [← List.count_append]
          congr 1
          exact (getD_drop (i := 0) (d := 0) hne)
        rw [List.count_append] at e1
        subst hst
        simp only [List.count_nil]
        omega
    · rw [if_neg c1]
      have hne : 0 < st.length := by omega
      obtain ⟨k1, k2, k3, k4, k5⟩ := ih (t + 1) (hs.set tu (hs.getD tu [] ++ [st.getD 0 0])) (st.drop 1) hp (by rw [List.length_set]; exact h1) h2
      rw [at' h1, List.length_append, List.length_singleton] at k4 k5
      refine ⟨?_, k2, by rw [k3, List.length_set], by omega, by omega⟩
      rw [k1]
      have e1 := flat_set x hs tu (hs.getD tu [] ++ [st.getD 0 0]) h1
      have e2 : st.count x = [st.getD 0 0].count x + (st.drop 1).count x := by
        rw [← List.count_append]
        congr 1
        exact (getD_drop (i := 0) (d := 0) hne)
      rw [List.count_append] at e1
      omega
/-- What is known of a game behind a taking. -/
theorem take_game (a0 a1 : Int) (a2 a3 : Bool) (a4 a5 : List Int) (a6 a7 : Int) (hs : List (List Int)) (st hp : List Int) (tu mo pa : Int) (hg : gameM a0 a1 a2 a3 a4 a5 a6 a7 hs st hp tu mo pa = true) (ho : overM a0 a7 hs mo pa = false) : gameM a0 a1 a2 a3 a4 a5 a6 a7 (takeR tu.toNat a6.toNat 0 hs st hp).2.1 (takeR tu.toNat a6.toNat 0 hs st hp).2.2.1 (takeR tu.toNat a6.toNat 0 hs st hp).2.2.2 ((tu + 1).tmod a0) (mo + 1) (passM pa (takeR tu.toNat a6.toNat 0 hs st hp).1) = true ∧ (hs.getD tu.toNat []).length ≤ ((takeR tu.toNat a6.toNat 0 hs st hp).2.1.getD tu.toNat []).length ∧ ((takeR tu.toNat a6.toNat 0 hs st hp).2.1.getD tu.toNat []).length ≤ (hs.getD tu.toNat []).length + a6.toNat ∧ tu.toNat < hs.length := by
  obtain ⟨k1, k2, k3, k4, k5, k6, k7⟩ := (gameM_iff a0 a1 a2 a3 a4 a5 a6 a7 hs st hp tu mo pa).1 hg
  obtain ⟨o1, o2, o3⟩ := over_no ho
  have hp0 := rulesM_players a0 a1 a2 a3 a4 a5 a6 a7 hs st hp tu mo pa k1
  have hi : tu.toNat < hs.length := by omega
  have hr := fun x => takeR_count x tu.toNat a6.toNat 0 hs st hp hi k3
  obtain ⟨_, r2, r3, r4, r5⟩ := hr 0
  have hpm : 0 ≤ passM pa (takeR tu.toNat a6.toNat 0 hs st hp).1 ∧ passM pa (takeR tu.toNat a6.toNat 0 hs st hp).1 ≤ mo + 1 := by
    unfold passM
    split <;> omega
  exact ⟨game_next a0 a1 a2 a3 a4 a5 a6 a7 hs st hp tu mo pa hg r3 r2 (tmod_turn (by omega) hp0.1) (by omega) hpm fun x => (hr x).1, r4, r5, hi⟩
def idxN (p e : Nat) : List (List Nat) := (List.range p).map fun q => (List.range e).map fun i => i * p + q
theorem idx_perm : ∀ p : Nat, p < 7 → ∀ e : Nat, e < 9 → (idxN p e).flatten.Perm (List.range (p * e)) := by decide +kernel
theorem map_range (deck : List Int) : ∀ n : Nat, n ≤ deck.length → (List.range n).map (fun i => deck.getD i 0) = deck.take n := by
  intro n
  induction n with
  | zero => intro _; rfl
  | succ n ih =>
    intro h
    rw [List.range_succ, List.map_append, ih (by omega), take_succ_getD (d := 0) (by omega)]; rfl
theorem hands_perm (deck : List Int) {p e : Nat} (hp : p < 7) (he : e < 9) (hl : p * e ≤ deck.length) : (handsN deck p e).flatten.Perm (deck.take (p * e)) := by
  have e1 : handsN deck p e = (idxN p e).map (List.map fun i => deck.getD i 0) := by
    simp [handsN, idxN, handN, Function.comp_def]
  rw [e1, ← List.map_flatten, ← map_range deck _ hl]
  exact (idx_perm p hp e he).map _
theorem fstM_none : ∀ (hs : List (List Int)) (i : Int), (∀ r ∈ hs, r.length ≠ 0) → fstM hs i = -1
  | [], i, h => rfl
  | r :: hs, i, h => by
    rw [fstM, if_neg (h r List.mem_cons_self)]
    exact fstM_none hs (i + 1) fun q hq => h q (List.mem_cons_of_mem _ hq)
/-- Small: so many cards at most. -/
def Sm (n : Nat) (a4 a5 : List Int) (hs : List (List Int)) (st hp : List Int) : Prop := a4.length ≤ 1000 ∧ a5.length ≤ 1000 ∧ hs.length ≤ 6 ∧ st.length + hp.length + hs.flatten.length ≤ n
theorem Sm.g2 {n : Nat} {a4 a5 : List Int} {hs : List (List Int)} {st hp : List Int} (h : Sm n a4 a5 hs st hp) (hn : n ≤ 1000) : G2 hs := G2.small (by have := h.2.2.1; omega) (n := n) (by have := h.2.2.2; omega) (by omega)
theorem Sm.mono {n m : Nat} {a4 a5 : List Int} {hs : List (List Int)} {st hp : List Int} (h : Sm n a4 a5 hs st hp) (hn : n ≤ m) : Sm m a4 a5 hs st hp := ⟨h.1, h.2.1, h.2.2.1, Nat.le_trans h.2.2.2 hn⟩
theorem game_small (a0 a1 : Int) (a2 a3 : Bool) (a4 a5 : List Int) (a6 a7 : Int) (hs : List (List Int)) (st hp : List Int) (tu mo pa : Int) (h : gameM a0 a1 a2 a3 a4 a5 a6 a7 hs st hp tu mo pa = true) (h4 : a4.length ≤ 1000) (h5 : a5.length ≤ 1000) : Sm 52 a4 a5 hs st hp := by
  have v := gameM_valid a0 a1 a2 a3 a4 a5 a6 a7 hs st hp tu mo pa h
  have v1 := v.all
  have v2 := v.players
  have v3 := v.p2
  exact ⟨h4, h5, by omega, by omega⟩
theorem newGame_spec (a0 a1 : Int) (a2 a3 : Bool) (a4 a5 : List Int) (a6 a7 : Int) (deck : List Int) (h4 : a4.length ≤ 1000) (h5 : a5.length ≤ 1000) (hd : deck.length ≤ 1000) :
    ∃ r, spec_NewGame a0 a1 a2 a3 a4 a5 a6 a7 deck = some r ∧ (r.2.2.2.2.2.2.2.2.2.2.2.2.2.2 = true → gameM r.1 r.2.1 r.2.2.1 r.2.2.2.1 r.2.2.2.2.1 r.2.2.2.2.2.1 r.2.2.2.2.2.2.1 r.2.2.2.2.2.2.2.1 r.2.2.2.2.2.2.2.2.1 r.2.2.2.2.2.2.2.2.2.1 r.2.2.2.2.2.2.2.2.2.2.1 r.2.2.2.2.2.2.2.2.2.2.2.1 r.2.2.2.2.2.2.2.2.2.2.2.2.1 r.2.2.2.2.2.2.2.2.2.2.2.2.2.1 = true ∧ overM r.1 r.2.2.2.2.2.2.2.1 r.2.2.2.2.2.2.2.2.1 r.2.2.2.2.2.2.2.2.2.2.2.2.1 r.2.2.2.2.2.2.2.2.2.2.2.2.2.1 = false) ∧ Sm 52 r.2.2.2.2.1 r.2.2.2.2.2.1 r.2.2.2.2.2.2.2.2.1 r.2.2.2.2.2.2.2.2.2.1 r.2.2.2.2.2.2.2.2.2.2.1 := by
  have sm0 : Sm 52 [] [] [] [] [] := ⟨Nat.zero_le _, Nat.zero_le _, Nat.zero_le _, Nat.zero_le _⟩
  rw [spec_NewGame_eq, spec_IsRules_ok _ _ _ _ _ _ _ _ (by omega) (by omega), Option.bind_some, spec_IsHand_ok _ (by omega), spec_l22Copy_ok _ _ _ _ _ _ _ _ (by omega) (by omega), spec_Dealt_ok _ _ _ (by omega)]
  cases hr : rulesM a0 a1 a2 a3 a4 a5 a6 a7
  · exact ⟨_, rfl, (fun h => by cases h), sm0⟩
  · simp only [Bool.not_true, Bool.false_eq_true, if_false, Option.bind_some]
    cases hh : handM deck
    · exact ⟨_, rfl, (fun h => by cases h), sm0⟩
    · simp only [Bool.not_true, Bool.false_eq_true, if_false]
      by_cases hl : deck.length = 52
      · have k := hr
        simp only [rulesM, Bool.and_eq_true, inR_iff] at k
        obtain ⟨k1, k2, _, _, _, _, k7⟩ := k
        have j1 : inR a0 1 6 = true := inR_iff.2 (by omega)
        have j2 : inR a1 0 20 = true := inR_iff.2 (by omega)
        have hpe : a0.toNat * a1.toNat ≤ 48 := Nat.mul_le_mul (by omega : a0.toNat ≤ 6) (by omega : a1.toNat ≤ 8)
        have hpi : a0 * a1 = ((a0.toNat * a1.toNat : Nat) : Int) := by
          rw [Int.natCast_mul, Int.toNat_of_nonneg (by omega), Int.toNat_of_nonneg (by omega)]
        have e : dealtM deck a0 a1 = (handsN deck a0.toNat a1.toNat, deck.drop (a0.toNat * a1.toNat), true) := by
          rw [dealtM, if_pos ⟨hh, j1, j2, by omega⟩]
        have hperm := hands_perm deck (p := a0.toNat) (e := a1.toNat) (by omega) (by omega) (by omega)
        have hlen : (deck.drop (a0.toNat * a1.toNat)).length = 52 - a0.toNat * a1.toNat := by rw [List.length_drop, hl]
        have hcut : deck.take (a0.toNat * a1.toNat) ++ deck.drop (a0.toNat * a1.toNat) = deck := List.take_append_drop _ _
        have hrow : ∀ r ∈ handsN deck a0.toNat a1.toNat, r.length ≠ 0 := fun r hr2 => by
          unfold handsN at hr2
          obtain ⟨q, hq, e3⟩ := List.mem_map.1 hr2
          rw [← e3, handN_length]; omega
        have hhl := handsN_length deck a0.toNat a1.toNat
        rw [e]
        generalize deck.drop (a0.toNat * a1.toNat) = rest at *
        generalize handsN deck a0.toNat a1.toNat = hs at *
        have ht : rest.take 1 = [rest.getD 0 0] := by
          have hne : 0 < rest.length := by omega
          have := take_succ_getD (d := 0) hne
          simpa using this
        rw [if_neg (by simp [hl])]
        dsimp only
        simp (disch := (first | omega | (simp only [List.length_append, List.length_cons, List.length_nil, List.length_take, List.length_drop, List.length_set, List.length_replicate, List.length_singleton]; omega))) only [↓if_dpos, ↓if_dneg, ↓if_epos, ↓if_eneg, ↓if_npos, ↓if_nneg, ↓if_pos, ↓if_neg, Int.toNat_natCast, List.nil_append, Nat.zero_add, List.length_singleton, Option.bind_some, List.drop_zero, List.take_length, if_true, if_false, ht]
        have hgame : gameM a0 a1 a2 a3 a4 a5 a6 a7 hs (rest.drop 1) [rest.getD 0 0] 0 0 0 = true := by
          refine (gameM_iff ..).2 ⟨hr, by omega, Nat.zero_lt_one, by omega, by omega, by omega, ?_⟩
          have hp2 : (allM hs (rest.drop 1) [rest.getD 0 0]).Perm deck := perm_of_count fun c => by
            rw [allM_count, ← hcut, List.count_append, hperm.count_eq]
            have e2 : rest.count c = [rest.getD 0 0].count c + (rest.drop 1).count c := by
              rw [← List.count_append]
              congr 1
              exact getD_drop (i := 0) (d := 0) (by omega)
            omega
          rw [wholeL_perm hp2, wholeL, hh, decide_eq_true hl]; rfl
        refine ⟨_, rfl, fun _ => ⟨hgame, ?_⟩, game_small _ _ _ _ _ _ _ _ _ _ _ _ _ _ hgame h4 h5⟩
        dsimp only
        rw [overM, fstM_none hs 0 hrow]
        simp; omega
      · have hn : ((deck.length : Int) != 52) = true := by rw [bne_iff_ne]; omega
        simp only [hn, if_true]
        exact ⟨_, rfl, (fun h => by cases h), sm0⟩
/-- It has an answer, and one of these. -/
def Tot {α : Type} (x : Option α) (Q : α → Prop) : Prop := ∃ r, x = some r ∧ Q r
theorem Tot.bind {α β : Type} {x : Option α} {k : α → Option β} {Q : α → Prop} {Q' : β → Prop} (h : Tot x Q) (hk : ∀ r, Q r → Tot (k r) Q') : Tot (x.bind k) Q' := by
  obtain ⟨r, rfl, hr⟩ := h
  exact hk r hr
theorem Tot.mono {α : Type} {x : Option α} {Q Q' : α → Prop} (h : Tot x Q) (hk : ∀ r, Q r → Q' r) : Tot x Q' := by
  obtain ⟨r, e, hr⟩ := h
  exact ⟨r, e, hk r hr⟩
theorem Tot.ret {α : Type} {r : α} {Q : α → Prop} (h : Q r) : Tot (some r) Q := ⟨r, rfl, h⟩
theorem Tot.guard {α : Type} {p : Prop} [Decidable p] {x : Option α} {Q : α → Prop} (h : p) (hx : Tot x Q) : Tot (if p then x else none) Q := by rw [if_pos h]; exact hx
theorem Tot.nguard {α : Type} {p : Prop} [Decidable p] {x : Option α} {Q : α → Prop} (h : ¬ p) (hx : Tot x Q) : Tot (if p then none else x) Q := by rw [if_neg h]; exact hx
theorem Tot.ite {α : Type} {p : Prop} [Decidable p] {x y : Option α} {Q : α → Prop} (hx : p → Tot x Q) (hy : ¬ p → Tot y Q) : Tot (if p then x else y) Q := by
  by_cases h : p
  · rw [if_pos h]; exact hx h
  · rw [if_neg h]; exact hy h
theorem Tot.dite {α : Type} {p : Prop} [Decidable p] {x y : Option α} {Q : α → Prop} (hx : p → Tot x Q) (hy : ¬ p → Tot y Q) : Tot (if decide p = true then x else y) Q := by
  by_cases h : p
  · rw [if_dpos h]; exact hx h
  · rw [if_dneg h]; exact hy h
/-- A cursor. -/
def Cur (c : List Int × Int × Int) : Prop := 0 ≤ c.2.1 ∧ c.1.length ≤ 1048576
theorem l1New_tot {a : List Int} (ha : a.length ≤ 1048576) : Tot (spec_l1New a) Cur := by
  have key : ∀ i, i ≤ a.length → ∀ h : Int, Tot (spec_l1New_L3 a h (i : Int)) Cur := down (by
      intro h
      rw [spec_l1New_L3_eq, if_dneg (by omega)]
      exact Tot.ret ⟨Int.le_refl _, ha⟩) fun i hi ih h => by
    rw [spec_l1New_L3_eq, if_dpos (by omega)]
    refine Tot.dite (fun _ => ?_) fun _ => Tot.ret ⟨Int.le_refl _, ha⟩
    rw [if_pos (by omega), if_pos (by omega), wrap_succ hi (by omega)]
    exact ih _
  rw [spec_l1New_eq]
  exact key 0 (Nat.zero_le _) _
theorem and_255 (x : BitVec IntKind.i64.bits) : 0 ≤ IntKind.i64.wrap ((x &&& BitVec.ofInt IntKind.i64.bits 255).toNat : Int) ∧ IntKind.i64.wrap ((x &&& BitVec.ofInt IntKind.i64.bits 255).toNat : Int) ≤ 255 := by
  have h : (x &&& BitVec.ofInt IntKind.i64.bits 255).toNat ≤ 255 := by
    rw [BitVec.toNat_and]
    exact Nat.le_trans Nat.and_le_right (by decide)
  rw [wrap_id (by omega) (by omega)]
  omega
theorem l1Byte_tot {c : List Int × Int × Int} (hc : Cur c) : Tot (spec_l1Byte c) (fun r => Cur r.2 ∧ 0 ≤ r.1 ∧ r.1 ≤ 255) := by
  obtain ⟨h1, h2⟩ := hc
  rw [spec_l1Byte_eq]
  refine Tot.dite (fun h => ?_) fun h => ?_
  · refine Tot.guard h1 (Tot.guard h (Tot.ret ⟨⟨?_, h2⟩, and_255 _⟩))
    show 0 ≤ IntKind.i64.wrap (c.2.1 + 1)
    rw [wrap_id (by omega) (by omega)]; omega
  · exact Tot.ret ⟨⟨h1, h2⟩, and_255 _⟩
def Below (n : Int) (x : Int) : Prop := 0 ≤ x ∧ (0 < n → x < n) ∧ (n ≤ 0 → x = 0)
theorem tmod_below {x n : Int} (hx : 0 ≤ x) (hn : 0 < n) : Below n (x.tmod n) := by
  rw [Below, Int.tmod_eq_emod_of_nonneg hx]
  have := Int.emod_nonneg x (by omega : n ≠ 0)
  have := Int.emod_lt_of_pos x hn
  omega
theorem l1Below_tot {c : List Int × Int × Int} (hc : Cur c) (n : Int) : Tot (spec_l1Below c n) (fun r => Cur r.2 ∧ Below n r.1) := by
  rw [spec_l1Below_eq]
  refine Tot.dite (fun h => Tot.ret ⟨hc, Int.le_refl _, fun h' => by omega, fun _ => rfl⟩) fun h => Tot.dite (fun h' => ?_) fun h' => ?_
  · refine Tot.bind (l1Byte_tot hc) fun r ⟨hr, h1, h2⟩ => Tot.nguard (by omega) (Tot.ret ⟨hr, tmod_below h1 (by omega)⟩)
  · refine Tot.bind (l1Byte_tot hc) fun r ⟨hr, h1, h2⟩ => Tot.bind (l1Byte_tot hr) fun s ⟨hs, g1, g2⟩ => Tot.bind (l1Byte_tot hs) fun t ⟨ht, k1, k2⟩ => Tot.nguard (by omega) (Tot.ret ⟨ht, tmod_below ?_ (by omega)⟩)
    rw [wrap_id (x := r.1 * 65536) (by omega) (by omega), wrap_id (x := s.1 * 256) (by omega) (by omega), wrap_id (x := r.1 * 65536 + s.1 * 256) (by omega) (by omega), wrap_id (by omega) (by omega)]
    omega
theorem l1Once_tot {c : List Int × Int × Int} (hc : Cur c) (n : Int) : Tot (spec_l1Once c n) (fun r => Cur r.2) := by
  rw [spec_l1Once_eq]
  exact Tot.bind (l1Below_tot hc n) fun r hr => Tot.ret hr.1
theorem l1Int_tot {c : List Int × Int × Int} (hc : Cur c) {l : List Int} (hl : 0 < l.length) : Tot (spec_l1Int c l) (fun r => Cur r.2 ∧ r.1 ∈ l) := by
  rw [spec_l1Int_eq]
  refine Tot.bind (l1Below_tot hc _) fun r ⟨hr, h1, h2, h3⟩ => ?_
  have := h2 (by omega)
  exact Tot.guard h1 (Tot.guard this (Tot.ret ⟨hr, getD_mem (by omega)⟩))
theorem l4Card_tot {c : List Int × Int × Int} (hc : Cur c) : Tot (spec_l4Card c) (fun r => Cur r.2) := by
  rw [spec_l4Card_eq]
  refine Tot.bind (l1Below_tot hc _) fun r ⟨hr, _⟩ => Tot.bind (l1Below_tot hr _) fun s ⟨hs, _⟩ => Tot.bind (l1Below_tot hs _) fun t ⟨ht, _⟩ => Tot.bind (l1Int_tot ht (Nat.zero_lt_succ _)) fun u ⟨hu, _⟩ => Tot.ret hu
def cards52 (n : Nat) : List Int := (List.range n).map fun (i : Nat) => (i : Int)
theorem cards52_succ (n : Nat) : cards52 (n + 1) = cards52 n ++ [(n : Int)] := by simp [cards52, List.range_succ]
theorem cards52_length (n : Nat) : (cards52 n).length = n := by simp [cards52]
theorem full_is : ∀ i : Nat, i ≤ 52 → spec_Missing_L3 [] (i : Int) (cards52 i) = some (cards52 52) := down (by
    rw [spec_Missing_L3_eq, if_dneg (by omega)]) fun i hi ih => by
  have hh : spec_HasCard [] (i : Int) = some false := by rw [spec_HasCard_ok _ _ (Nat.zero_le _)]; rfl
  have hl := cards52_length i
  rw [spec_Missing_L3_eq, if_dpos (by omega), hh, Option.bind_some, if_pos (by decide), if_pos (by rw [hl, List.length_singleton]; omega), wrap_succ hi (by omega), ← cards52_succ]
  exact ih
theorem spec_FullDeck_ok : spec_FullDeck = some (cards52 52) := by
  rw [spec_FullDeck_eq, spec_Missing_eq]
  have h := full_is 0 (by omega)
  have h : spec_Missing_L3 [] 0 [] = some (cards52 52) := h
  rw [h]; rfl
theorem full_hand : handM (cards52 52) = true := by decide +kernel
theorem shuffledM_perm {l : List Int} (seed : Int) (hl : l.length ≤ 1000) : (shuffledM l seed).Perm l := by
  unfold shuffledM
  by_cases e : l.length = 0
  · have : l = [] := List.length_eq_zero_iff.1 e
    subst this
    have := shufM_length seed 0 []
    have : shufM seed 0 [] = [] := List.length_eq_zero_iff.1 this
    show (shufM seed 0 []).Perm []
    rw [this]
  · exact shufM_perm seed _ _ (by omega) (by omega)
theorem full_ex : ∃ D : List Int, spec_FullDeck = some D ∧ D.length = 52 ∧ handM D = true := ⟨_, spec_FullDeck_ok, cards52_length 52, full_hand⟩
theorem shuffled_ex {D : List Int} (h1 : D.length = 52) (h2 : handM D = true) (s : Int) : ∃ E : List Int, spec_Shuffled D s = some E ∧ E.length = 52 ∧ handM E = true := by
  have hp := shuffledM_perm s (l := D) (by omega)
  exact ⟨_, spec_Shuffled_ok _ _ (by omega), by rw [hp.length_eq]; exact h1, by rw [handM_perm hp]; exact h2⟩
theorem l8Leaves_tot {c : List Int × Int × Int} (hc : Cur c) : Tot (spec_l8Leaves c) (fun r => Cur r.2) := by
  rw [spec_l8Leaves_eq]
  exact Tot.bind (l1Below_tot hc _) fun r hr => Tot.bind (l1Below_tot hr.1 _) fun s hs => Tot.bind (l1Below_tot hs.1 _) fun t ht => Tot.bind (l1Int_tot ht.1 (Nat.zero_lt_succ _)) fun u hu => Tot.ret hu.1
def DPat (n : Nat) (r : List Int × List Int × Int × Int) : Prop := Cur r.2 ∧ 0 < r.1.length ∧ r.1.length ≤ n
theorem l8Draw0_tot {c : List Int × Int × Int} (hc : Cur c) : Tot (spec_l8Draw c 0) (DPat 10) := by
  rw [spec_l8Draw_eq, if_epos rfl]
  exact Tot.bind (l8Leaves_tot hc) fun r hr => Tot.ret ⟨hr, Nat.zero_lt_one, by show 1 ≤ 10; omega⟩
theorem l8DrawS_tot {n : Nat} {k : Int} (hn : 1 ≤ n ∧ n ≤ 300) (hk : 1 ≤ k ∧ k ≤ 2) (ih : ∀ {c : List Int × Int × Int}, Cur c → Tot (spec_l8Draw c (k - 1)) (DPat n)) {c : List Int × Int × Int} (hc : Cur c) : Tot (spec_l8Draw c k) (DPat (2 * n + 1)) := by
  rw [spec_l8Draw_eq, if_eneg (by omega), wrap_id (by omega) (by omega)]
  refine Tot.bind (l1Once_tot hc _) fun r hr => Tot.ite (fun _ => ?_) fun _ => Tot.bind (l1Once_tot hr _) fun s hs => Tot.ite (fun _ => ?_) fun _ => ?_
  · exact Tot.bind (l8Leaves_tot hr) fun r hr => Tot.ret ⟨hr, Nat.zero_lt_one, by show 1 ≤ 2 * n + 1; omega⟩
  · refine Tot.bind (ih hs) fun t ⟨ht, t1, t2⟩ => Tot.guard (by rw [List.length_singleton]; omega) (Tot.ret ⟨ht, ?_, ?_⟩)
    · show 0 < (t.1 ++ [_]).length; rw [List.length_append]; omega
    · show (t.1 ++ [_]).length ≤ _; rw [List.length_append, List.length_singleton]; omega
  · refine Tot.bind (ih hs) fun t ⟨ht, t1, t2⟩ => Tot.bind (ih ht) fun u ⟨hu, u1, u2⟩ => Tot.guard (by omega) (Tot.bind (l1Below_tot hu _) fun v hv => Tot.guard (by rw [List.length_append, List.length_singleton]; omega) (Tot.ret ⟨hv.1, ?_, ?_⟩))
    · show 0 < ((t.1 ++ u.1) ++ [_]).length; rw [List.length_append, List.length_append]; omega
    · show ((t.1 ++ u.1) ++ [_]).length ≤ _; rw [List.length_append, List.length_append, List.length_singleton]; omega
theorem l8Draw1_tot {c : List Int × Int × Int} (hc : Cur c) : Tot (spec_l8Draw c 1) (DPat 21) := l8DrawS_tot (n := 10) (k := 1) (by omega) (by omega) (fun h => l8Draw0_tot h) hc
theorem l8Draw2_tot {c : List Int × Int × Int} (hc : Cur c) : Tot (spec_l8Draw c 2) (DPat 43) := l8DrawS_tot (n := 21) (k := 2) (by omega) (by omega) (fun h => l8Draw1_tot h) hc
theorem l8Any_tot {c : List Int × Int × Int} (hc : Cur c) : Tot (spec_l8Any c) (fun r => Cur r.2 ∧ r.1.length ≤ 1000) := by
  rw [spec_l8Any_eq]
  refine Tot.bind (l8Draw2_tot hc) fun r ⟨hr, r1, r2⟩ => Tot.bind (l1Below_tot hr _) fun s hs => Tot.ite (fun _ => ?_) fun _ => Tot.ite (fun _ => ?_) fun _ => ?_
  · refine Tot.bind (l1Below_tot hs.1 _) fun t ⟨ht, t1, t2, _⟩ => Tot.bind (l1Int_tot ht (Nat.zero_lt_succ _)) fun u hu => Tot.guard t1 (Tot.guard (t2 (by omega)) (Tot.ret ⟨hu.1, ?_⟩))
    show (r.1.set _ _).length ≤ _; rw [List.length_set]; omega
  · exact Tot.guard (by omega) (Tot.ret ⟨hs.1, by show ((r.1.take _).drop 1).length ≤ _; rw [List.length_drop, List.length_take]; omega⟩)
  · exact Tot.ret ⟨hs.1, by show r.1.length ≤ _; omega⟩
def DRu (r : Int × Int × Bool × Bool × List Int × List Int × Int × Int × List Int × Int × Int) : Prop := Cur r.2.2.2.2.2.2.2.2 ∧ r.2.2.2.2.1.length ≤ 1000 ∧ r.2.2.2.2.2.1.length ≤ 1000
theorem l22Draw_tot {c : List Int × Int × Int} (hc : Cur c) : Tot (spec_l22Draw c) DRu := by
  rw [spec_l22Draw_eq]
  refine Tot.bind (l1Below_tot hc _) fun r hr => Tot.bind (l1Below_tot hr.1 _) fun s hs => Tot.bind (l1Once_tot hs.1 _) fun t ht => Tot.bind (l1Below_tot ht _) fun u hu => Tot.bind (l1Below_tot hu.1 _) fun v hv => Tot.bind (l1Once_tot hv.1 _) fun w hw => Tot.ite (fun _ => ?_) fun _ => ?_
  · refine Tot.bind (l8Draw1_tot hw) fun x ⟨hx, _, x2⟩ => Tot.bind (l1Once_tot hx _) fun y hy => Tot.ite (fun _ => ?_) fun _ => ?_
    · exact Tot.bind (l8Draw1_tot hy) fun z ⟨hz, _, z2⟩ => Tot.ret ⟨hz, by show x.1.length ≤ _; omega, by show z.1.length ≤ _; omega⟩
    · exact Tot.ret ⟨hy, by show x.1.length ≤ _; omega, Nat.zero_le _⟩
  · refine Tot.bind (l1Once_tot hw _) fun y hy => Tot.ite (fun _ => ?_) fun _ => ?_
    · exact Tot.bind (l8Draw1_tot hy) fun z ⟨hz, _, z2⟩ => Tot.ret ⟨hz, Nat.zero_le _, by show z.1.length ≤ _; omega⟩
    · exact Tot.ret ⟨hy, Nat.zero_le _, Nat.zero_le _⟩
theorem l22Any_tot {c : List Int × Int × Int} (hc : Cur c) : Tot (spec_l22Any c) DRu := by
  rw [spec_l22Any_eq]
  refine Tot.bind (l22Draw_tot hc) fun r ⟨hr, r4, r5⟩ => Tot.bind (l1Below_tot hr _) fun s ⟨hs, _⟩ => Tot.ite (fun _ => ?_) fun _ => Tot.ite (fun _ => ?_) fun _ => Tot.ite (fun _ => ?_) fun _ => Tot.ite (fun _ => ?_) fun _ => Tot.ite (fun _ => ?_) fun _ => Tot.ite (fun _ => ?_) fun _ => ?_
  · exact Tot.bind (l1Int_tot hs (Nat.zero_lt_succ _)) fun t ht => Tot.ret ⟨ht.1, r4, r5⟩
  · exact Tot.bind (l1Int_tot hs (Nat.zero_lt_succ _)) fun t ht => Tot.ret ⟨ht.1, r4, r5⟩
  · exact Tot.ret ⟨hs, r4, r5⟩
  · exact Tot.bind (l8Any_tot hs) fun t ht => Tot.ret ⟨ht.1, ht.2, r5⟩
  · exact Tot.bind (l1Int_tot hs (Nat.zero_lt_succ _)) fun t ht => Tot.ret ⟨ht.1, r4, r5⟩
  · exact Tot.bind (l1Int_tot hs (Nat.zero_lt_succ _)) fun t ht => Tot.ret ⟨ht.1, r4, r5⟩
  · exact Tot.ret ⟨hs, r4, r5⟩
def DGa (n : Nat) (r : Int × Int × Bool × Bool × List Int × List Int × Int × Int × List (List Int) × List Int × List Int × Int × Int × Int × List Int × Int × Int) : Prop := Cur r.2.2.2.2.2.2.2.2.2.2.2.2.2.2 ∧ Sm n r.2.2.2.2.1 r.2.2.2.2.2.1 r.2.2.2.2.2.2.2.2.1 r.2.2.2.2.2.2.2.2.2.1 r.2.2.2.2.2.2.2.2.2.2.1
theorem l24Start_tot {c : List Int × Int × Int} (hc : Cur c) : Tot (spec_l24Start c) (DGa 52) := by
  obtain ⟨D, e1, d1, d2⟩ := full_ex
  rw [spec_l24Start_eq, spec_EasyRules_eq, Option.bind_some, e1]
  refine Tot.bind (l1Once_tot hc _) fun r hr => Tot.ite (fun _ => ?_) fun _ => ?_
  · refine Tot.bind (l22Draw_tot hr) fun s ⟨hs, s4, s5⟩ => ?_
    rw [Option.bind_some]
    refine Tot.bind (l1Below_tot hs _) fun t ⟨ht, _⟩ => ?_
    obtain ⟨E, e2, k1, k2⟩ := shuffled_ex d1 d2 t.1
    rw [e2, Option.bind_some]
    obtain ⟨g, g1, _, g4⟩ := newGame_spec s.1 s.2.1 s.2.2.1 s.2.2.2.1 s.2.2.2.2.1 s.2.2.2.2.2.1 s.2.2.2.2.2.2.1 s.2.2.2.2.2.2.2.1 E s4 s5 (by omega)
    rw [g1, Option.bind_some]
    exact Tot.ret ⟨ht, g4⟩
  · rw [Option.bind_some]
    refine Tot.bind (l1Below_tot hr _) fun t ⟨ht, _⟩ => ?_
    obtain ⟨E, e2, k1, k2⟩ := shuffled_ex d1 d2 t.1
    rw [e2, Option.bind_some]
    obtain ⟨g, g1, _, g4⟩ := newGame_spec 3 5 true true [206] [212] 1 200 E (by decide) (by decide) (by omega)
    dsimp only
    rw [g1, Option.bind_some]
    exact Tot.ret ⟨ht, g4⟩
theorem play_small (a0 a1 : Int) (a2 a3 : Bool) (a4 a5 : List Int) (a6 a7 : Int) (hs : List (List Int)) (st hp : List Int) (tu mo pa : Int) (c : Int) (h : Sm 52 a4 a5 hs st hp) : Sm 52 (playOnM a0 a1 a2 a3 a4 a5 a6 a7 hs st hp tu mo pa c).2.2.2.2.1 (playOnM a0 a1 a2 a3 a4 a5 a6 a7 hs st hp tu mo pa c).2.2.2.2.2.1 (playOnM a0 a1 a2 a3 a4 a5 a6 a7 hs st hp tu mo pa c).2.2.2.2.2.2.2.2.1 (playOnM a0 a1 a2 a3 a4 a5 a6 a7 hs st hp tu mo pa c).2.2.2.2.2.2.2.2.2.1 (playOnM a0 a1 a2 a3 a4 a5 a6 a7 hs st hp tu mo pa c).2.2.2.2.2.2.2.2.2.2.1 := by
  unfold playOnM
  split
  · rename_i hc
    exact game_small _ _ _ _ _ _ _ _ _ _ _ _ _ _ (play_game a0 a1 a2 a3 a4 a5 a6 a7 hs st hp tu mo pa hc).1 h.1 h.2.1
  · exact h
theorem take_small (a0 a1 : Int) (a2 a3 : Bool) (a4 a5 : List Int) (a6 a7 : Int) (hs : List (List Int)) (st hp : List Int) (tu mo pa : Int) (h : Sm 52 a4 a5 hs st hp) : Sm 52 (takeM a0 a1 a2 a3 a4 a5 a6 a7 hs st hp tu mo pa).2.2.2.2.1 (takeM a0 a1 a2 a3 a4 a5 a6 a7 hs st hp tu mo pa).2.2.2.2.2.1 (takeM a0 a1 a2 a3 a4 a5 a6 a7 hs st hp tu mo pa).2.2.2.2.2.2.2.2.1 (takeM a0 a1 a2 a3 a4 a5 a6 a7 hs st hp tu mo pa).2.2.2.2.2.2.2.2.2.1 (takeM a0 a1 a2 a3 a4 a5 a6 a7 hs st hp tu mo pa).2.2.2.2.2.2.2.2.2.2.1 := by
  unfold takeM
  split
  · rename_i hc
    simp only [Bool.and_eq_true, Bool.not_eq_true'] at hc
    exact game_small _ _ _ _ _ _ _ _ _ _ _ _ _ _ (take_game a0 a1 a2 a3 a4 a5 a6 a7 hs st hp tu mo pa hc.1 hc.2).1 h.1 h.2.1
  · exact h
theorem l24Draw_tot {c : List Int × Int × Int} (hc : Cur c) : Tot (spec_l24Draw c) (DGa 60) := by
  rw [spec_l24Draw_eq]
  refine Tot.bind (l24Start_tot hc) fun g ⟨hg, gs⟩ => Tot.bind (l1Below_tot hg _) fun t ⟨ht, t1, t2, _⟩ => ?_
  have t2 := t2 (by decide)
  have key : ∀ i : Nat, i ≤ 14 → ∀ (b0 : List Int) (b1 b2 : Int) (a0 a1 : Int) (a2 a3 : Bool) (a4 a5 : List Int) (a6 a7 : Int) (hs : List (List Int)) (st hp : List Int) (tu mo pa : Int), Cur (b0, b1, b2) → Sm 52 a4 a5 hs st hp → Tot (spec_l24Draw_L3 (i : Int) b0 b1 b2 0 0 false false 0 0 0 0 0 a0 a1 a2 a3 a6 a7 tu mo pa a4 a5 hs st hp) (DGa 60) := by
    intro i
    induction i with
    | zero =>
      intro _ b0 b1 b2 a0 a1 a2 a3 a4 a5 a6 a7 hs st hp tu mo pa hb hsm
      obtain ⟨m1, m2, m3, m4⟩ := hsm
      have sm : Sm 60 a4 a5 hs st hp := ⟨m1, m2, m3, by omega⟩
      rw [spec_l24Draw_L3_eq, if_dneg (by omega)]
      refine Tot.bind (l1Below_tot hb _) fun s ⟨hs', _⟩ => Tot.ite (fun _ => ?_) fun _ => Tot.ite (fun _ => ?_) fun _ => Tot.ite (fun _ => ?_) fun _ => Tot.ite (fun _ => ?_) fun _ => Tot.ite (fun _ => ?_) fun _ => ?_
      · exact Tot.bind (l1Int_tot hs' (Nat.zero_lt_succ _)) fun u hu => Tot.ret ⟨hu.1, sm⟩
      · exact Tot.ret ⟨hs', sm⟩
      · exact Tot.bind (l4Card_tot hs') fun u hu => Tot.guard (by rw [List.length_singleton]; omega) (Tot.ret ⟨hu, m1, m2, m3, by show (st ++ [_]).length + hp.length + hs.flatten.length ≤ 60; rw [List.length_append, List.length_singleton]; omega⟩)
      · exact Tot.bind (l22Any_tot hs') fun u ⟨hu, u4, u5⟩ => Tot.ret ⟨hu, u4, u5, m3, by show st.length + hp.length + hs.flatten.length ≤ 60; omega⟩
      · exact Tot.guard (by omega) (Tot.ret ⟨hs', m1, m2, m3, by show ([] : List Int).length + (hp ++ st).length + hs.flatten.length ≤ 60; rw [List.length_append, List.length_nil]; omega⟩)
      · exact Tot.ret ⟨hs', sm⟩
    | succ i ih =>
      intro hi b0 b1 b2 a0 a1 a2 a3 a4 a5 a6 a7 hs st hp tu mo pa hb hsm
      have hh := hsm.g2 (by omega)
      have h4 : a4.length ≤ 1048576 := by have := hsm.1; omega
      have h5 : a5.length ≤ 1048576 := by have := hsm.2.1; omega
      have hst : st.length ≤ 2097152 := by have := hsm.2.2.2; omega
      have hhp : hp.length ≤ 2097152 := by have := hsm.2.2.2; omega
      have w : IntKind.i64.wrap (((i + 1 : Nat) : Int) - 1) = (i : Int) := by rw [wrap_id (by omega) (by omega)]; omega
      have eT := spec_TakeCards_ok a0 a1 a2 a3 a4 a5 a6 a7 hs st hp tu mo pa h4 h5 hh hst hhp
      have hT := take_small a0 a1 a2 a3 a4 a5 a6 a7 hs st hp tu mo pa hsm
      rw [spec_l24Draw_L3_eq, if_dpos (by omega), spec_Playable_ok a0 a1 a2 a3 a4 a5 a6 a7 hs st hp tu mo pa h4 h5 hh hst hhp, Option.bind_some, w]
      have take : ∀ {c : List Int × Int × Int}, Cur c → Tot ((spec_TakeCards a0 a1 a2 a3 a4 a5 a6 a7 hs st hp tu mo pa).bind fun c7 => (spec_l24Draw_L3 (i : Int) c.1 c.2.1 c.2.2 0 0 false false 0 0 0 0 0 c7.1 c7.2.1 c7.2.2.1 c7.2.2.2.1 c7.2.2.2.2.2.2.1 c7.2.2.2.2.2.2.2.1 c7.2.2.2.2.2.2.2.2.2.2.2.1 c7.2.2.2.2.2.2.2.2.2.2.2.2.1 c7.2.2.2.2.2.2.2.2.2.2.2.2.2.1 c7.2.2.2.2.1 c7.2.2.2.2.2.1 c7.2.2.2.2.2.2.2.2.1 c7.2.2.2.2.2.2.2.2.2.1 c7.2.2.2.2.2.2.2.2.2.2.1)) (DGa 60) := fun hc => by
        rw [eT, Option.bind_some]
        exact ih (by omega) _ _ _ _ _ _ _ _ _ _ _ _ _ _ _ _ _ hc hT
      refine Tot.dite (fun hpos => Tot.bind (l1Once_tot hb _) fun s hs' => Tot.ite (fun _ => ?_) fun _ => take hs') fun _ => take hb
      refine Tot.bind (l1Below_tot hs' _) fun u ⟨hu, u1, u2, _⟩ => Tot.guard u1 (Tot.guard (u2 hpos) ?_)
      rw [spec_PlayOn_ok a0 a1 a2 a3 a4 a5 a6 a7 hs st hp tu mo pa _ h4 h5 hh hst hhp, Option.bind_some]
      exact ih (by omega) _ _ _ _ _ _ _ _ _ _ _ _ _ _ _ _ _ hu (play_small a0 a1 a2 a3 a4 a5 a6 a7 hs st hp tu mo pa _ hsm)
  have := key t.1.toNat (by omega) t.2.1 t.2.2.1 t.2.2.2 g.1 g.2.1 g.2.2.1 g.2.2.2.1 g.2.2.2.2.1 g.2.2.2.2.2.1 g.2.2.2.2.2.2.1 g.2.2.2.2.2.2.2.1 g.2.2.2.2.2.2.2.2.1 g.2.2.2.2.2.2.2.2.2.1 g.2.2.2.2.2.2.2.2.2.2.1 g.2.2.2.2.2.2.2.2.2.2.2.1 g.2.2.2.2.2.2.2.2.2.2.2.2.1 g.2.2.2.2.2.2.2.2.2.2.2.2.2.1 ht gs
  rw [show ((t.1.toNat : Nat) : Int) = t.1 by omega] at this
  exact this
theorem DrawIsGame_tot {a : List Int} (ha : a.length ≤ 1048576) : Tot (spec_DrawIsGame a) (fun r => Sm 60 r.2.2.2.2.1 r.2.2.2.2.2.1 r.2.2.2.2.2.2.2.2.1 r.2.2.2.2.2.2.2.2.2.1 r.2.2.2.2.2.2.2.2.2.2.1) := by
  rw [spec_DrawIsGame_eq]
  exact Tot.bind (l1New_tot ha) fun c hc => Tot.bind (l24Draw_tot hc) fun p hp => Tot.ret hp.2
theorem rankM_bound (c : Int) : -1 ≤ rankM c ∧ rankM c ≤ 12 := by
  unfold rankM
  by_cases h : isC c = true
  · rw [if_pos h]
    obtain ⟨h1, h2⟩ := isC_iff.1 h
    rw [Int.tmod_eq_emod_of_nonneg h1]; omega
  · rw [if_neg h]; omega
theorem suitM_card {c : Int} (h : isC c = true) : 0 ≤ suitM c ∧ suitM c ≤ 3 := by
  obtain ⟨h1, h2⟩ := isC_iff.1 h
  unfold suitM
  have e := Int.tdiv_eq_ediv_of_nonneg (b := 13) h1
  rw [if_pos h, wrap_id (by omega) (by omega), e]
  omega
/-- May c lie on u? -/
def onM (u c : Int) : Bool := decide (rankM c = rankM u - 1) && (redM c != redM u)
theorem spec_l16Step_ok (u c : Int) : spec_l16Step u c = some (onM u c) := by
  obtain ⟨b1, b2⟩ := rankM_bound c
  have w : IntKind.i64.wrap (rankM c + 1) = rankM c + 1 := wrap_id (by omega) (by omega)
  rw [spec_l16Step_eq]
  simp only [spec_RankOf_ok, spec_IsRed_ok, Option.bind_some, w, onM]
  by_cases h : rankM u = rankM c + 1
  · rw [if_pos (by simpa using h), decide_eq_true (by omega), Bool.true_and]
    cases redM u <;> cases redM c <;> rfl
  · rw [if_neg (by simpa using h), decide_eq_false (by omega), Bool.false_and]
theorem impl_goesOn_ok (u c : Int) : impl_goesOn u c = some (onM u c) := by
  obtain ⟨b1, b2⟩ := rankM_bound u
  have w : IntKind.i64.wrap (rankM u - 1) = rankM u - 1 := wrap_id (by omega) (by omega)
  rw [impl_goesOn_eq]
  simp only [impl_RankOf_ok, impl_IsRed_ok, Option.bind_some, w, onM]
  by_cases h : rankM c = rankM u - 1
  · rw [if_pos (by simpa using h), decide_eq_true h, Bool.true_and]
  · rw [if_neg (by simpa using h), decide_eq_false h, Bool.false_and]
/-- From place n on: does each card lie well on the one before? -/
def chainM (l : List Int) (n : Nat) : Bool := (List.range l.length).all fun i => !decide (n ≤ i) || onM (l.getD (i - 1) 0) (l.getD i 0)
theorem chain_step {l : List Int} {n : Nat} (h : n < l.length) : chainM l n = (onM (l.getD (n - 1) 0) (l.getD n 0) && chainM l (n + 1)) := by
  unfold chainM
  rw [Bool.eq_iff_iff]
  simp only [Bool.and_eq_true, List.all_eq_true, List.mem_range, Bool.or_eq_true, Bool.not_eq_true', decide_eq_false_iff_not]
  constructor
  · intro k
    exact ⟨(k n h).resolve_left (by omega), fun i hi => (k i hi).imp (by omega) id⟩
  · intro ⟨k1, k2⟩ i hi
    by_cases e : i = n
    · subst e; exact .inr k1
    · exact (k2 i hi).imp (by omega) id
theorem chain_end {l : List Int} {n : Nat} (h : l.length ≤ n) : chainM l n = true := by
  unfold chainM
  rw [List.all_eq_true]
  intro i hi
  have := List.mem_range.1 hi
  rw [decide_eq_false (by omega)]; rfl
def pileM (l : List Int) (h : Int) : Bool := handM l && (inR h 0 (l.length : Int) && chainM l (h + 1).toNat)
theorem spec_IsPile_ok (l : List Int) (h : Int) (hl : l.length ≤ 4398046511104) : spec_IsPile l h = some (pileM l h) := by
  have key : ∀ d i : Nat, i + d = l.length → 0 < i → spec_IsPile_L4 i l h = some (chainM l i) := by
    intro d
    induction d with
    | zero =>
      intro i hi h0
      rw [chain_end (by omega), spec_IsPile_L4_eq, if_neg (by simp; omega)]
    | succ d ih =>
      intro i hi h0
      have hil : i < l.length := by omega
      have w1 : IntKind.i64.wrap ((i : Int) + 1) = ((i + 1 : Nat) : Int) := by rw [wrap_id (by omega) (by omega)]; omega
      have w2 : IntKind.i64.wrap ((i : Int) - 1) = ((i - 1 : Nat) : Int) := by rw [wrap_id (by omega) (by omega)]; omega
      rw [spec_IsPile_L4_eq, chain_step hil]
      simp (disch := (first | omega | (simp only [List.length_append, List.length_cons, List.length_nil, List.length_take, List.length_drop, List.length_set, List.length_replicate, List.length_singleton]; omega))) only [↓if_dpos, ↓if_dneg, ↓if_epos, ↓if_eneg, ↓if_npos, ↓if_nneg, ↓if_pos, ↓if_neg, w1, w2, Int.toNat_natCast, List.nil_append, Nat.zero_add, List.length_singleton, Option.bind_some, List.drop_zero, List.take_length, if_true, if_false, spec_l16Step_ok, ih (i + 1) (by omega) (by omega)]
      cases onM (l.getD (i - 1) 0) (l.getD i 0) <;> rfl
  rw [spec_IsPile_eq, spec_IsHand_ok _ (by omega), Option.bind_some, spec_l1In_ok, pileM]
  cases handM l
  · rfl
  · cases hr : inR h 0 (l.length : Int)
    · rfl
    · simp [inR] at hr
      have w1 : IntKind.i64.wrap (h + 1) = (((h + 1).toNat : Nat) : Int) := by rw [wrap_id (by omega) (by omega)]; omega
      simp only [Bool.not_true, Bool.false_eq_true, if_false, Option.bind_some, Bool.true_and, w1]
      by_cases c : (h + 1).toNat ≤ l.length
      · exact key (l.length - (h + 1).toNat) _ (by omega) (by omega)
      · rw [chain_end (by omega), spec_IsPile_L4_eq, if_neg (by simp; omega)]
theorem impl_IsPile_ok (l : List Int) (h : Int) (hl : l.length ≤ 4398046511104) : impl_IsPile l h = some (pileM l h) := by
  have key : ∀ d i : Nat, i + d = l.length → 0 < i → impl_IsPile_L4 i l h = some (chainM l i) := by
    intro d
    induction d with
    | zero =>
      intro i hi h0
      rw [chain_end (by omega), impl_IsPile_L4_eq, if_neg (by simp; omega)]
    | succ d ih =>
      intro i hi h0
      have hil : i < l.length := by omega
      have w1 : IntKind.i64.wrap ((i : Int) + 1) = ((i + 1 : Nat) : Int) := by rw [wrap_id (by omega) (by omega)]; omega
      have w2 : IntKind.i64.wrap ((i : Int) - 1) = ((i - 1 : Nat) : Int) := by rw [wrap_id (by omega) (by omega)]; omega
      rw [impl_IsPile_L4_eq, chain_step hil]
      simp (disch := (first | omega | (simp only [List.length_append, List.length_cons, List.length_nil, List.length_take, List.length_drop, List.length_set, List.length_replicate, List.length_singleton]; omega))) only [↓if_dpos, ↓if_dneg, ↓if_epos, ↓if_eneg, ↓if_npos, ↓if_nneg, ↓if_pos, ↓if_neg, w1, w2, Int.toNat_natCast, List.nil_append, Nat.zero_add, List.length_singleton, Option.bind_some, List.drop_zero, List.take_length, if_true, if_false, impl_goesOn_ok, ih (i + 1) (by omega) (by omega)]
      cases onM (l.getD (i - 1) 0) (l.getD i 0) <;> rfl
  rw [impl_IsPile_eq, impl_IsHand_ok _ (by omega), Option.bind_some, impl_InRange_ok, pileM]
  cases handM l
  · rfl
  · cases hr : inR h 0 (l.length : Int)
    · rfl
    · simp [inR] at hr
      have w1 : IntKind.i64.wrap (h + 1) = (((h + 1).toNat : Nat) : Int) := by rw [wrap_id (by omega) (by omega)]; omega
      simp only [Bool.not_true, Bool.false_eq_true, if_false, Option.bind_some, Bool.true_and, w1]
      by_cases c : (h + 1).toNat ≤ l.length
      · exact key (l.length - (h + 1).toNat) _ (by omega) (by omega)
      · rw [chain_end (by omega), impl_IsPile_L4_eq, if_neg (by simp; omega)]
theorem pileM_hid {l : List Int} {h : Int} (hp : pileM l h = true) : 0 ≤ h ∧ h ≤ (l.length : Int) := by
  simp only [pileM, Bool.and_eq_true] at hp
  simpa [inR] using hp.2.1
def topM (l : List Int) : Int := if l.length = 0 then -1 else l.getD (l.length - 1) 0
theorem spec_TopOf_ok (l : List Int) (h : Int) (hl : l.length ≤ 4398046511104) : spec_TopOf l h = some (topM l) := by
  rw [spec_TopOf_eq, topM]
  by_cases c : l.length = 0
  · rw [if_pos (by simp only [beq_iff_eq]; omega), if_pos c]
  · have w : IntKind.i64.wrap ((l.length : Int) - 1) = ((l.length - 1 : Nat) : Int) := by rw [wrap_id (by omega) (by omega)]; omega
    rw [if_neg c]
    simp (disch := (first | omega | (simp only [List.length_append, List.length_cons, List.length_nil, List.length_take, List.length_drop, List.length_set, List.length_replicate, List.length_singleton]; omega))) only [↓if_dpos, ↓if_dneg, ↓if_epos, ↓if_eneg, ↓if_npos, ↓if_nneg, ↓if_pos, ↓if_neg, w, Int.toNat_natCast, List.nil_append, Nat.zero_add, List.length_singleton, Option.bind_some, List.drop_zero, List.take_length, if_true, if_false]
def openM (l : List Int) (h : Int) : Int := if pileM l h = true then (l.length : Int) - h else 0
theorem spec_OpenCards_ok (l : List Int) (h : Int) (hl : l.length ≤ 4398046511104) : spec_OpenCards l h = some (openM l h) := by
  rw [spec_OpenCards_eq, spec_IsPile_ok l h hl, Option.bind_some, openM]
  cases hp : pileM l h
  · rfl
  · have := pileM_hid hp
    rw [wrap_id (by omega) (by omega)]; rfl
theorem impl_OpenCards_ok (l : List Int) (h : Int) (hl : l.length ≤ 4398046511104) : impl_OpenCards l h = some (openM l h) := by
  rw [impl_OpenCards_eq, impl_IsPile_ok l h hl, Option.bind_some, openM]
  cases hp : pileM l h
  · rfl
  · have := pileM_hid hp
    rw [wrap_id (by omega) (by omega)]; rfl
theorem spec_l16Copy_ok (l : List Int) (h : Int) (hl : l.length ≤ 4398046511104) : spec_l16Copy l h = some (l, h) := by
  rw [spec_l16Copy_eq]
  simp (disch := (first | omega | (simp only [List.length_append, List.length_cons, List.length_nil, List.length_take, List.length_drop, List.length_set, List.length_replicate, List.length_singleton]; omega))) only [↓if_dpos, ↓if_dneg, ↓if_epos, ↓if_eneg, ↓if_npos, ↓if_nneg, ↓if_pos, ↓if_neg, Int.toNat_natCast, List.nil_append, Nat.zero_add, List.length_singleton, Option.bind_some, List.drop_zero, List.take_length, if_true, if_false]
def mayM (l : List Int) (h c : Int) : Bool := pileM l h && (isC c && (!hasM l c && (if l.length = 0 then decide (rankM c = 11) else (decide (h < (l.length : Int)) && onM (topM l) c))))
theorem spec_MayStack_ok (l : List Int) (h c : Int) (hl : l.length ≤ 4398046511104) : spec_MayStack l h c = some (mayM l h c) := by
  rw [spec_MayStack_eq]
  simp only [spec_IsPile_ok l h hl, spec_IsCard_ok, spec_HasCard_ok l c (by omega), spec_RankOf_ok, spec_TopOf_ok l h hl, spec_l16Step_ok, Option.bind_some, mayM]
  cases pileM l h <;> cases isC c <;> cases hasM l c <;> try rfl
  simp only [Bool.not_true, Bool.false_eq_true, if_false, Bool.true_and, Bool.not_false]
  by_cases e : l.length = 0
  · rw [if_pos (by simp only [beq_iff_eq]; omega), if_pos e]
    by_cases e2 : rankM c = 11 <;> simp [e2]
  · rw [if_neg (by simp only [beq_iff_eq]; omega), if_neg e]
    cases decide (h < (l.length : Int)) <;> rfl
/-- Cards put on one after the other; told of the pile as it was, if one may not be put. -/
def stackR (l0 : List Int) (h : Int) : List Int → List Int → List Int × Int × Bool
  | [], l => (l, h, true)
  | c :: cs, l => if mayM l h c = true then stackR l0 h cs (l ++ [c]) else (l0, h, false)
def stackM (l : List Int) (h : Int) (cs : List Int) : List Int × Int × Bool := stackR l h cs l
theorem spec_Stacked_ok (l : List Int) (h : Int) (cs : List Int) (hl : l.length ≤ 2097152) (hc : cs.length ≤ 2097152) : spec_Stacked l h cs = some (stackM l h cs) := by
  have key : ∀ i, i ≤ cs.length → ∀ r : List Int, r.length = l.length + i → spec_Stacked_L3 cs i l h 0 h r = some (stackR l h (cs.drop i) r) := down (by
      intro r hr
      rw [spec_Stacked_L3_eq]
      simp (disch := (first | omega | (simp only [List.length_append, List.length_cons, List.length_nil, List.length_take, List.length_drop, List.length_set, List.length_replicate, List.length_singleton]; omega))) only [↓if_dpos, ↓if_dneg, ↓if_epos, ↓if_eneg, ↓if_npos, ↓if_nneg, ↓if_pos, ↓if_neg, Int.toNat_natCast, List.nil_append, Nat.zero_add, List.length_singleton, Option.bind_some, List.drop_zero, List.take_length, if_true, if_false, ]
      rw [List.drop_of_length_le (Nat.le_refl _)]; rfl) fun i hi ih r hr => by
    have hil : (i : Int) < (cs.length : Int) := by omega
    have hw : IntKind.i64.wrap ((i : Int) + 1) = ((i + 1 : Nat) : Int) := wrap_succ hi (by omega)
    rw [spec_Stacked_L3_eq]
    simp (disch := (first | omega | (simp only [List.length_append, List.length_cons, List.length_nil, List.length_take, List.length_drop, List.length_set, List.length_replicate, List.length_singleton]; omega))) only [↓if_dpos, ↓if_dneg, ↓if_epos, ↓if_eneg, ↓if_npos, ↓if_nneg, ↓if_pos, ↓if_neg, hw, Int.toNat_natCast, List.nil_append, Nat.zero_add, List.length_singleton, Option.bind_some, List.drop_zero, List.take_length, if_true, if_false, spec_MayStack_ok, spec_l16Copy_ok]
    rw [getD_drop (d := 0) hi, stackR]
    cases mayM r h (cs.getD i 0)
    · rfl
    · exact ih _ (by simp; omega)
  rw [spec_Stacked_eq, spec_l16Copy_ok _ _ (by omega), Option.bind_some]
  exact key 0 (Nat.zero_le _) l rfl
def hidM (h : Int) (at' : Nat) : Int := if 0 < at' ∧ h = (at' : Int) then h - 1 else h
def liftM (l : List Int) (h n : Int) : List Int × Int × List Int × Bool :=
  if inR n 1 (openM l h) = true then (l.take (l.length - n.toNat), hidM h (l.length - n.toNat), l.drop (l.length - n.toNat), true) else (l, h, [], false)
theorem openM_pos {l : List Int} {h n : Int} (hn : inR n 1 (openM l h) = true) : pileM l h = true ∧ 1 ≤ n ∧ n ≤ (l.length : Int) - h ∧ 0 ≤ h := by
  unfold openM at hn
  cases hp : pileM l h
  · rw [hp] at hn; simp [inR] at hn; omega
  · rw [hp] at hn
    have := pileM_hid hp
    simp [inR] at hn
    exact ⟨rfl, by omega, by omega, by omega⟩
theorem spec_Lifted_ok (l : List Int) (h n : Int) (hl : l.length ≤ 2097152) : spec_Lifted l h n = some (liftM l h n) := by
  rw [spec_Lifted_eq, spec_l16Copy_ok _ _ (by omega), Option.bind_some, spec_OpenCards_ok _ _ (by omega), Option.bind_some, spec_l1In_ok, Option.bind_some, liftM]
  cases hn : inR n 1 (openM l h)
  · rfl
  · obtain ⟨_, k1, k2, k3⟩ := openM_pos hn
    have w : IntKind.i64.wrap ((l.length : Int) - n) = ((l.length - n.toNat : Nat) : Int) := by rw [wrap_id (by omega) (by omega)]; omega
    rw [if_neg (by simp), if_pos rfl]
    by_cases c1 : 0 < l.length - n.toNat
    · have w2 : IntKind.i64.wrap (((l.length - n.toNat : Nat) : Int) - 1) = ((l.length - n.toNat : Nat) : Int) - 1 := wrap_id (by omega) (by omega)
      by_cases c2 : h = ((l.length - n.toNat : Nat) : Int)
      · have e : hidM h (l.length - n.toNat) = ((l.length - n.toNat : Nat) : Int) - 1 := by rw [hidM, if_pos ⟨c1, c2⟩]; omega
        simp (disch := (first | omega | (simp only [List.length_append, List.length_cons, List.length_nil, List.length_take, List.length_drop, List.length_set, List.length_replicate, List.length_singleton]; omega))) only [↓if_dpos, ↓if_dneg, ↓if_epos, ↓if_eneg, ↓if_npos, ↓if_nneg, ↓if_pos, ↓if_neg, w, w2, Int.toNat_natCast, List.nil_append, Nat.zero_add, List.length_singleton, Option.bind_some, List.drop_zero, List.take_length, if_true, if_false, e]
      · have e : hidM h (l.length - n.toNat) = h := if_neg fun k => c2 k.2
        simp (disch := (first | omega | (simp only [List.length_append, List.length_cons, List.length_nil, List.length_take, List.length_drop, List.length_set, List.length_replicate, List.length_singleton]; omega))) only [↓if_dpos, ↓if_dneg, ↓if_epos, ↓if_eneg, ↓if_npos, ↓if_nneg, ↓if_pos, ↓if_neg, w, w2, Int.toNat_natCast, List.nil_append, Nat.zero_add, List.length_singleton, Option.bind_some, List.drop_zero, List.take_length, if_true, if_false, e]
    · have e : hidM h (l.length - n.toNat) = h := if_neg fun k => c1 k.1
      simp (disch := (first | omega | (simp only [List.length_append, List.length_cons, List.length_nil, List.length_take, List.length_drop, List.length_set, List.length_replicate, List.length_singleton]; omega))) only [↓if_dpos, ↓if_dneg, ↓if_epos, ↓if_eneg, ↓if_npos, ↓if_nneg, ↓if_pos, ↓if_neg, w, Int.toNat_natCast, List.nil_append, Nat.zero_add, List.length_singleton, Option.bind_some, List.drop_zero, List.take_length, if_true, if_false, e]
end Go.Proofs.YtoioaijpdiglfaaGreatDoor.V
