/- Plain laws over the shapes. -/
import Derived.Test.YtoioaijpdiglfaaEWords
import Derived.Test.YtoioaijpdiglfaaS1
import Derived.Test.YtoioaijpdiglfaaS2
import Derived.Test.YtoioaijpdiglfaaS3
set_option linter.unusedVariables false
set_option linter.unusedSimpArgs false
set_option maxRecDepth 10000
namespace Go.Proofs.Ytoioaijpdiglfaa.V
open Go
theorem bindF {α β : Type} {x : Option α} {v : α} (h : x = some v) (k : α → Option β) : x.bind k = k v := by rw [h]; rfl
theorem if_dpos {α : Type} {p : Prop} [Decidable p] {a b : α} (h : p) : (if decide p = true then a else b) = a := if_pos (decide_eq_true h)
theorem if_dneg {α : Type} {p : Prop} [Decidable p] {a b : α} (h : ¬ p) : (if decide p = true then a else b) = b := if_neg (by simpa using h)
theorem if_epos {α : Type} {x y : Int} {a b : α} (h : x = y) : (if (x == y) = true then a else b) = a := if_pos (by simpa using h)
theorem if_eneg {α : Type} {x y : Int} {a b : α} (h : ¬ x = y) : (if (x == y) = true then a else b) = b := if_neg (by simpa using h)
theorem if_npos {α : Type} {x y : Int} {a b : α} (h : ¬ x = y) : (if (x != y) = true then a else b) = a := if_pos (by simpa using h)
theorem if_nneg {α : Type} {x y : Int} {a b : α} (h : x = y) : (if (x != y) = true then a else b) = b := if_neg (by simpa using h)
theorem take_succ_getD {α : Type} {l : List α} {i : Nat} {d : α} (h : i < l.length) : l.take (i + 1) = l.take i ++ [l.getD i d] := by
  rw [List.take_succ_eq_append_getElem h, List.getD_eq_getElem?_getD, List.getElem?_eq_getElem h]; rfl
theorem mono_b {n m : Nat} {l : List (List Int)} (h : ∀ r ∈ l, r.length ≤ n) (hm : n ≤ m) : ∀ r ∈ l, r.length ≤ m := fun r hr => Nat.le_trans (h r hr) hm
theorem impl_copyOf_ok (l : List Int) (h : l.length ≤ 17592186044416) : impl_copyOf l = some l := by
  rw [impl_copyOf_eq]
  simp (disch := (first | omega | (simp only [List.length_append, List.length_cons, List.length_nil, List.length_take, List.length_drop, List.length_set, List.length_replicate, List.length_singleton]; omega))) only [↓if_dpos, ↓if_dneg, ↓if_epos, ↓if_eneg, ↓if_npos, ↓if_nneg, ↓if_pos, ↓if_neg, Int.toNat_natCast, List.nil_append, Nat.zero_add, List.length_singleton, Option.bind_some, List.drop_zero, List.take_length, if_true, if_false]
theorem impl_copyRows_ok (l : List (List Int)) (h : l.length ≤ 2097152) (hr : ∀ r ∈ l, r.length ≤ 17592186044416) : impl_copyRows l = some l := by
  have h : ∀ i, i ≤ l.length → impl_copyRows_L3 l l.length i (l.take i) = some l := down (by
      rw [impl_copyRows_L3_eq]
      simp (disch := (first | omega | (simp only [List.length_append, List.length_cons, List.length_nil, List.length_take, List.length_drop, List.length_set, List.length_replicate, List.length_singleton]; omega))) only [↓if_dpos, ↓if_dneg, ↓if_epos, ↓if_eneg, ↓if_npos, ↓if_nneg, ↓if_pos, ↓if_neg, Int.toNat_natCast, List.nil_append, Nat.zero_add, List.length_singleton, Option.bind_some, List.drop_zero, List.take_length, if_true, if_false, ]) fun i hi ih => by
    have e := impl_copyOf_ok _ (hr _ (getD_mem (d := []) hi))
    have hil : (i : Int) < (l.length : Int) := by omega
    have hw : IntKind.i64.wrap ((i : Int) + 1) = ((i + 1 : Nat) : Int) := wrap_succ hi (by omega)
    rw [impl_copyRows_L3_eq]
    simp (disch := (first | omega | (simp only [List.length_append, List.length_cons, List.length_nil, List.length_take, List.length_drop, List.length_set, List.length_replicate, List.length_singleton]; omega))) only [↓if_dpos, ↓if_dneg, ↓if_epos, ↓if_eneg, ↓if_npos, ↓if_nneg, ↓if_pos, ↓if_neg, hw, Int.toNat_natCast, List.nil_append, Nat.zero_add, List.length_singleton, Option.bind_some, List.drop_zero, List.take_length, if_true, if_false, e]
    rw [← ih, take_succ_getD (d := []) hi]
  rw [impl_copyRows_eq]
  exact h 0 (Nat.zero_le _)
def inR (a b c : Int) : Bool := decide (b ≤ a) && decide (a ≤ c)
theorem spec_l1In_ok (a b c : Int) : spec_l1In a b c = some (inR a b c) := by
  rw [spec_l1In_eq, inR]
  by_cases h : b ≤ a
  · rw [if_pos (decide_eq_true h), decide_eq_true h, Bool.true_and]
  · rw [if_neg (by simpa using h), decide_eq_false h, Bool.false_and]
theorem impl_InRange_ok (a b c : Int) : impl_InRange a b c = some (inR a b c) := by
  rw [impl_InRange_eq, inR]
  by_cases h : b ≤ a
  · rw [if_pos (decide_eq_true h), decide_eq_true h, Bool.true_and]
  · rw [if_neg (by simpa using h), decide_eq_false h, Bool.false_and]
def isC (c : Int) : Bool := decide (0 ≤ c) && decide (c ≤ 51)
theorem spec_IsCard_ok (c : Int) : spec_IsCard c = some (isC c) := by rw [spec_IsCard_eq, spec_l1In_ok, Option.bind_some]; rfl
theorem impl_IsCard_ok (c : Int) : impl_IsCard c = some (isC c) := by rw [impl_IsCard_eq, impl_InRange_ok, Option.bind_some]; rfl
theorem isC_iff {c : Int} : isC c = true ↔ 0 ≤ c ∧ c ≤ 51 := by simp [isC]
/-- A loop over a row, its states kept by I, told by a recursion M over the row. -/
theorem over {α σ R : Type} {l : List α} {d : α} {g : Nat → σ → Option R} {M : List α → σ → R} (I : Nat → σ → Prop)
    (hend : ∀ s, I l.length s → g l.length s = some (M [] s))
    (hstep : ∀ i s, i < l.length → I i s → (∀ s', I (i + 1) s' → g (i + 1) s' = some (M (l.drop (i + 1)) s')) → g i s = some (M (l.getD i d :: l.drop (i + 1)) s)) :
    ∀ s, I 0 s → g 0 s = some (M l s) := fun s hs => by
  have h : ∀ i, i ≤ l.length → ∀ s, I i s → g i s = some (M (l.drop i) s) := down (by
    intro s hs; rw [List.drop_of_length_le (Nat.le_refl _)]; exact hend s hs) fun i hi ih s hs => by
    rw [getD_drop (d := d) hi]; exact hstep i s hi hs ih
  simpa using h 0 (Nat.zero_le _) s hs
def hasM (l : List Int) (c : Int) : Bool := decide (c ∈ l)
def plM : List Int → Int → Int → Int
  | [], _, _ => -1
  | x :: l, c, i => if x = c then i else plM l c (i + 1)
theorem plM_nonneg {l : List Int} {c : Int} : ∀ {i : Int}, 0 ≤ i → (decide (plM l c i ≥ 0) = hasM l c) := by
  induction l with
  | nil => intro i hi; simp [plM, hasM]
  | cons x l ih =>
    intro i hi
    rw [plM]
    by_cases h : x = c
    · subst h; simp [hasM, hi]
    · rw [if_neg h, ih (by omega)]; simp [hasM, Ne.symm h]
def withoutM (l : List Int) (c : Int) : List Int := l.filter fun x => x != c
theorem withoutM_length (l : List Int) (c : Int) : (withoutM l c).length ≤ l.length := List.length_filter_le _ _
def kG (p : Int → Bool) (out : List Int) : Nat → Nat
  | 0 => 0
  | k + 1 => if p (out.getD k 0) = true then kG p out k else k + 1
theorem kG_le (p : Int → Bool) (out : List Int) : ∀ k, kG p out k ≤ k := by
  intro k
  induction k with
  | zero => exact Nat.le_refl _
  | succ k ih => rw [kG]; split <;> omega
def insG (p : Int → Bool) (out : List Int) (c : Int) : List Int := out.take (kG p out out.length) ++ c :: out.drop (kG p out out.length)
theorem insG_perm (p : Int → Bool) (out : List Int) (c : Int) : (insG p out c).Perm (c :: out) := by
  unfold insG
  refine List.perm_middle.trans ?_
  rw [List.take_append_drop]
theorem insG_length (p : Int → Bool) (out : List Int) (c : Int) : (insG p out c).length = out.length + 1 := (insG_perm p out c).length_eq
def insM (out : List Int) (c : Int) : List Int := insG (fun x => decide (x > c)) out c
def sortM (l : List Int) : List Int := l.foldl insM []
theorem foldl_insM_perm (l : List Int) : ∀ out, (l.foldl insM out).Perm (l ++ out) := by
  induction l with
  | nil => intro out; exact List.Perm.refl _
  | cons c l ih =>
    intro out
    refine (ih _).trans ?_
    refine ((insG_perm _ out c).append_left l).trans ?_
    exact List.perm_middle
theorem sortM_perm (l : List Int) : (sortM l).Perm l := by
  have := foldl_insM_perm l []; rw [List.append_nil] at this; exact this
theorem sortM_length (l : List Int) : (sortM l).length = l.length := (sortM_perm l).length_eq
theorem sortM_mem {l : List Int} {c : Int} : c ∈ sortM l ↔ c ∈ l := (sortM_perm l).mem_iff
theorem foldl_take {α β : Type} {f : β → α → β} {a : β} {l : List α} {i : Nat} {d : α} (hi : i < l.length) : (l.take (i + 1)).foldl f a = f ((l.take i).foldl f a) (l.getD i d) := by
  have : l.take (i + 1) = l.take i ++ [l.getD i d] := by
    rw [List.take_succ_eq_append_getElem hi, List.getD_eq_getElem?_getD, List.getElem?_eq_getElem hi]; rfl
  rw [this, List.foldl_append]; rfl
/-- An insertion as the program makes it: one place more, the rest moved on, and the place written. -/
theorem ins_copy (r : List Int) (c : Int) (k : Nat) (hk : k ≤ r.length) :
    ((r ++ [0]).take (k + 1) ++ (((r ++ [0]).take (r ++ [0]).length).drop k).take ((r ++ [0]).length - (k + 1)) ++ (r ++ [0]).drop (k + 1 + min ((r ++ [0]).length - (k + 1)) (((r ++ [0]).take (r ++ [0]).length).drop k).length)).set k c = r.take k ++ c :: r.drop k := by
  have e : r = r.take k ++ r.drop k := (List.take_append_drop k r).symm
  have hl : (r.take k).length = k := by simp; omega
  generalize r.take k = A at e hl
  generalize hB : r.drop k = B at e
  subst e
  have hm : min ((A ++ B ++ [0]).length - (k + 1)) (((A ++ B ++ [0]).take (A ++ B ++ [0]).length).drop k).length = B.length := by simp; omega
  rw [hm]
  have h1 : (A ++ B ++ [(0 : Int)]).take (k + 1) = A ++ (B ++ [0]).take 1 := by
    rw [List.append_assoc, ← hl, List.take_append, List.take_of_length_le (by omega), Nat.add_sub_cancel_left]
  have h2 : (((A ++ B ++ [(0 : Int)]).take (A ++ B ++ [0]).length).drop k).take ((A ++ B ++ [0]).length - (k + 1)) = B := by
    rw [List.take_length, List.append_assoc, ← hl, List.drop_left]
    have : (A ++ (B ++ [(0 : Int)])).length - (A.length + 1) = B.length := by simp; omega
    rw [this, List.take_left]
  have h3 : (A ++ B ++ [(0 : Int)]).drop (k + 1 + B.length) = [] := List.drop_of_length_le (by simp; omega)
  rw [h1, h2, h3, List.append_nil, List.append_assoc, ← hl, List.set_append_right _ _ (Nat.le_refl _), Nat.sub_self]
  congr 1
  cases B <;> rfl
def sumL (l : List Int) : Int := l.foldr (· + ·) 0
theorem flat_len_le {l : List (List Int)} {n m : Nat} (h : ∀ r ∈ l, r.length ≤ m) (hl : l.length ≤ n) : l.flatten.length ≤ n * m := by
  have : l.flatten.length ≤ l.length * m := by
    clear hl
    induction l with
    | nil => simp
    | cons x l ih =>
      have h1 := h x (by simp); have h2 := ih fun r hr => h r (by simp [hr])
      simp [Nat.add_mul] at *; omega
  exact Nat.le_trans this (Nat.mul_le_mul_right _ hl)
def handM (l : List Int) : Bool := l.all isC && decide l.Nodup
theorem handM_perm {a b : List Int} (h : a.Perm b) : handM a = handM b := by
  unfold handM
  rw [Bool.eq_iff_iff]
  simp only [Bool.and_eq_true, decide_eq_true_eq, List.all_eq_true]
  exact and_congr ⟨fun k x hx => k x (h.mem_iff.2 hx), fun k x hx => k x (h.mem_iff.1 hx)⟩ h.nodup_iff
def handR (pre : List Int) : List Int → Bool
  | [] => true
  | x :: l => isC x && (!hasM pre x && handR (pre ++ [x]) l)
theorem handR_eq (l : List Int) : ∀ pre, handR pre l = (handM l && decide (∀ x ∈ l, x ∉ pre)) := by
  induction l with
  | nil => intro pre; simp [handR, handM]
  | cons x l ih =>
    intro pre
    rw [handR, ih]
    unfold handM hasM
    rw [Bool.eq_iff_iff]
    simp only [Bool.and_eq_true, decide_eq_true_eq, List.all_eq_true, List.mem_append, List.mem_singleton, List.nodup_cons, List.mem_cons, Bool.not_eq_true', decide_eq_false_iff_not]
    constructor
    · intro ⟨h1, h2, ⟨h3, h4⟩, h5⟩
      refine ⟨⟨fun y hy => ?_, fun hx => h5 x hx (.inr (.inl rfl)), h4⟩, fun y hy => ?_⟩
      · rcases hy with rfl | hy
        · exact h1
        · exact h3 y hy
      · rcases hy with rfl | hy
        · exact h2
        · exact fun hp => h5 y hy (.inl hp)
    · intro ⟨⟨h1, h2, h3⟩, h4⟩
      refine ⟨h1 x (.inl rfl), h4 x (.inl rfl), ⟨fun y hy => h1 y (.inr hy), h3⟩, fun y hy hp => ?_⟩
      rcases hp with hp | rfl | hp
      · exact h4 y (.inr hy) hp
      · exact h2 hy
      · cases hp
theorem handR_nil (l : List Int) : handR [] l = handM l := by rw [handR_eq]; simp
def handS (s : List Bool) : List Int → Bool
  | [] => true
  | x :: l => isC x && (!s.getD x.toNat false && handS (s.set x.toNat true) l)
theorem handS_eq (l : List Int) : ∀ pre s, s.length = 52 → (∀ c : Nat, c < 52 → s.getD c false = hasM pre c) → handS s l = handR pre l := by
  induction l with
  | nil => intro pre s _ _; rfl
  | cons x l ih =>
    intro pre s h1 h2
    rw [handS, handR]
    by_cases hx : isC x = true
    · obtain ⟨k1, k2⟩ := isC_iff.1 hx
      have e : ((x.toNat : Nat) : Int) = x := Int.toNat_of_nonneg k1
      have hn : x.toNat < 52 := by omega
      rw [h2 _ hn, e, ih (pre ++ [x]) _ (by simpa using h1)]
      intro c hc
      rw [List.getD_eq_getElem?_getD, List.getElem?_set]
      by_cases q : x.toNat = c
      · rw [if_pos q, if_pos (by omega)]; subst q; simp [hasM, e]
      · rw [if_neg q, ← List.getD_eq_getElem?_getD, h2 _ hc]
        have : (c : Int) ≠ x := by omega
        simp [hasM, this]
    · simp [hx]
theorem handS_nil (l : List Int) : handS (List.replicate 52 false) l = handM l := by
  rw [handS_eq l [] _ (by simp), handR_nil]
  intro c hc
  rw [List.getD_eq_getElem?_getD, List.getElem?_replicate, if_pos hc]
  simp [hasM]
/-- Rows of rows, bounded. -/
structure G2 (l : List (List Int)) : Prop where
  len : l.length ≤ 2097152
  row : ∀ r ∈ l, r.length ≤ 2097152
theorem B1.le {α : Type} {l : List α} (h : B1 1048576 l) : l.length ≤ 2097152 := by unfold B1 at h; omega
theorem B2.g {l : List (List Int)} (h : B2 1048576 l) : G2 l := ⟨by have := h.1; omega, fun r hr => by have := h.2 r hr; omega⟩
theorem G2.flat {l : List (List Int)} (h : G2 l) : l.flatten.length ≤ 4398046511104 := flat_len_le h.row h.len
theorem G2.nil : G2 [] := ⟨Nat.zero_le _, fun r hr => by cases hr⟩
theorem G2.at' {l : List (List Int)} (h : G2 l) {i : Nat} : (l.getD i []).length ≤ 2097152 := by
  by_cases hi : i < l.length
  · exact h.row _ (getD_mem hi)
  · rw [List.getD_eq_getElem?_getD, List.getElem?_eq_none (by omega)]; exact Nat.zero_le _
def tot (l : List (List Int)) : Nat := l.flatten.length
theorem G2.tle {l : List (List Int)} (h : G2 l) : tot l ≤ 4398046511104 := h.flat
theorem flat_take {l : List (List Int)} {i : Nat} (hi : i < l.length) : (l.take (i + 1)).flatten = (l.take i).flatten ++ l.getD i [] := by
  have : l.take (i + 1) = l.take i ++ [l.getD i []] := by
    rw [List.take_succ_eq_append_getElem hi, List.getD_eq_getElem?_getD, List.getElem?_eq_getElem hi]; rfl
  rw [this, List.flatten_append]; simp
theorem flat_take_le (l : List (List Int)) (i : Nat) : (l.take i).flatten.length ≤ l.flatten.length := by
  have : l.flatten = (l.take i).flatten ++ (l.drop i).flatten := by rw [← List.flatten_append, List.take_append_drop]
  rw [this, List.length_append]; omega
def sumW (l : List Int) : Int := l.foldl (fun n x => IntKind.i64.wrap (n + x)) 0
theorem G2.set {l : List (List Int)} (h : G2 l) {i : Nat} {r : List Int} (hr : r.length ≤ 2097152) : G2 (l.set i r) := ⟨by rw [List.length_set]; exact h.len, fun x hx => by
  rcases List.mem_or_eq_of_mem_set hx with h1 | h1
  · exact h.row x h1
  · rw [h1]; exact hr⟩
theorem G2.small {l : List (List Int)} {n : Nat} (h1 : l.length ≤ 2097152) (h2 : l.flatten.length ≤ n) (hn : n ≤ 2097152) : G2 l := ⟨h1, fun x hx => by
  have : x.length ≤ l.flatten.length := by
    clear h1 h2
    induction l with
    | nil => cases hx
    | cons y l ih =>
      rw [List.flatten_cons, List.length_append]
      rcases List.mem_cons.1 hx with e | e
      · subst e; omega
      · have := ih e; omega
  omega⟩
/-- Rows of piles, bounded. -/
structure G3 (l : List (List Int × Int)) : Prop where
  len : l.length ≤ 2097152
  row : ∀ r ∈ l, r.1.length ≤ 2097152
theorem G3.at' {l : List (List Int × Int)} (h : G3 l) {i : Nat} : (l.getD i ([], 0)).1.length ≤ 2097152 := by
  by_cases hi : i < l.length
  · exact h.row _ (getD_mem hi)
  · rw [List.getD_eq_getElem?_getD, List.getElem?_eq_none (by omega)]; exact Nat.zero_le _
theorem G3.set {l : List (List Int × Int)} (h : G3 l) {i : Nat} {r : List Int × Int} (hr : r.1.length ≤ 2097152) : G3 (l.set i r) := ⟨by rw [List.length_set]; exact h.len, fun x hx => by
  rcases List.mem_or_eq_of_mem_set hx with h1 | h1
  · exact h.row x h1
  · rw [h1]; exact hr⟩
def cardsP (ps : List (List Int × Int)) : List Int := (ps.map fun p => p.1).flatten
theorem cardsP_take {l : List (List Int × Int)} {i : Nat} (hi : i < l.length) : cardsP (l.take (i + 1)) = cardsP (l.take i) ++ (l.getD i ([], 0)).1 := by
  have : l.take (i + 1) = l.take i ++ [l.getD i ([], 0)] := by
    rw [List.take_succ_eq_append_getElem hi, List.getD_eq_getElem?_getD, List.getElem?_eq_getElem hi]; rfl
  rw [cardsP, this, List.map_append, List.flatten_append]; simp [cardsP]
theorem cardsP_take_le (l : List (List Int × Int)) (i : Nat) : (cardsP (l.take i)).length ≤ (cardsP l).length := by
  have : cardsP l = cardsP (l.take i) ++ cardsP (l.drop i) := by rw [cardsP, cardsP, cardsP, ← List.flatten_append, ← List.map_append, List.take_append_drop]
  rw [this, List.length_append]; omega
theorem G3.cards {l : List (List Int × Int)} (h : G3 l) : (cardsP l).length ≤ 4398046511104 := by
  unfold cardsP
  refine flat_len_le (n := 2097152) (m := 2097152) (fun r hr => ?_) (by simpa using h.len)
  obtain ⟨p, hp, e⟩ := List.mem_map.1 hr
  rw [← e]; exact h.row p hp
theorem hasM_drop {l : List Int} {c : Int} {i : Nat} (hi : i < l.length) : hasM (l.drop i) c = (decide (l.getD i 0 = c) || hasM (l.drop (i + 1)) c) := by
  rw [getD_drop (d := 0) hi]
  unfold hasM
  rw [Bool.eq_iff_iff]
  simp only [List.mem_cons, decide_eq_true_eq, Bool.or_eq_true]
  exact or_congr eq_comm Iff.rfl
theorem spec_HasCard_ok (l : List Int) (c : Int) (h : l.length ≤ 17592186044416) : spec_HasCard l c = some (hasM l c) := by
  have h : ∀ i, i ≤ l.length → spec_HasCard_L2 l c i = some (hasM (l.drop i) c) := down (by
      rw [spec_HasCard_L2_eq]
      simp (disch := (first | omega | (simp only [List.length_append, List.length_cons, List.length_nil, List.length_take, List.length_drop, List.length_set, List.length_replicate, List.length_singleton]; omega))) only [↓if_dpos, ↓if_dneg, ↓if_epos, ↓if_eneg, ↓if_npos, ↓if_nneg, ↓if_pos, ↓if_neg, Int.toNat_natCast, List.nil_append, Nat.zero_add, List.length_singleton, Option.bind_some, List.drop_zero, List.take_length, if_true, if_false, ]
      simp [hasM]) fun i hi ih => by
    have hil : (i : Int) < (l.length : Int) := by omega
    have hw : IntKind.i64.wrap ((i : Int) + 1) = ((i + 1 : Nat) : Int) := wrap_succ hi (by omega)
    rw [spec_HasCard_L2_eq]
    simp (disch := (first | omega | (simp only [List.length_append, List.length_cons, List.length_nil, List.length_take, List.length_drop, List.length_set, List.length_replicate, List.length_singleton]; omega))) only [↓if_dpos, ↓if_dneg, ↓if_epos, ↓if_eneg, ↓if_npos, ↓if_nneg, ↓if_pos, ↓if_neg, hw, Int.toNat_natCast, List.nil_append, Nat.zero_add, List.length_singleton, Option.bind_some, List.drop_zero, List.take_length, if_true, if_false, ih]
    rw [hasM_drop hi]
    by_cases e : l.getD i 0 = c
    · rw [if_pos (by simpa using e), decide_eq_true e, Bool.true_or]
    · rw [if_neg (by simpa using e), decide_eq_false e, Bool.false_or]
  rw [spec_HasCard_eq]
  exact h 0 (Nat.zero_le _)
theorem impl_PlaceOf_ok (l : List Int) (c : Int) (h : l.length ≤ 17592186044416) : impl_PlaceOf l c = some (plM l c 0) := by
  have h : ∀ i, i ≤ l.length → impl_PlaceOf_L2 c l l.length i = some (plM (l.drop i) c i) := down (by
      rw [impl_PlaceOf_L2_eq]
      simp (disch := (first | omega | (simp only [List.length_append, List.length_cons, List.length_nil, List.length_take, List.length_drop, List.length_set, List.length_replicate, List.length_singleton]; omega))) only [↓if_dpos, ↓if_dneg, ↓if_epos, ↓if_eneg, ↓if_npos, ↓if_nneg, ↓if_pos, ↓if_neg, Int.toNat_natCast, List.nil_append, Nat.zero_add, List.length_singleton, Option.bind_some, List.drop_zero, List.take_length, if_true, if_false, ]
      rw [List.drop_of_length_le (Nat.le_refl _)]; rfl) fun i hi ih => by
    have hil : (i : Int) < (l.length : Int) := by omega
    have hw : IntKind.i64.wrap ((i : Int) + 1) = ((i + 1 : Nat) : Int) := wrap_succ hi (by omega)
    rw [impl_PlaceOf_L2_eq]
    simp (disch := (first | omega | (simp only [List.length_append, List.length_cons, List.length_nil, List.length_take, List.length_drop, List.length_set, List.length_replicate, List.length_singleton]; omega))) only [↓if_dpos, ↓if_dneg, ↓if_epos, ↓if_eneg, ↓if_npos, ↓if_nneg, ↓if_pos, ↓if_neg, hw, Int.toNat_natCast, List.nil_append, Nat.zero_add, List.length_singleton, Option.bind_some, List.drop_zero, List.take_length, if_true, if_false, ih]
    rw [getD_drop (d := 0) hi, plM]
    by_cases e : l.getD i 0 = c
    · rw [if_pos (by simpa using e), if_pos e]
    · rw [if_neg (by simpa using e), if_neg e]; rfl
  rw [impl_PlaceOf_eq]
  exact h 0 (Nat.zero_le _)
theorem impl_HasCard_ok (l : List Int) (c : Int) (h : l.length ≤ 17592186044416) : impl_HasCard l c = some (hasM l c) := by
  rw [impl_HasCard_eq, impl_PlaceOf_ok l c h, Option.bind_some, plM_nonneg (by omega)]
theorem spec_IsHand_ok (l : List Int) (h : l.length ≤ 17592186044416) : spec_IsHand l = some (handM l) := by
  have h : ∀ i, i ≤ l.length → spec_IsHand_L2 l i = some (handR (l.take i) (l.drop i)) := down (by
      rw [spec_IsHand_L2_eq]
      simp (disch := (first | omega | (simp only [List.length_append, List.length_cons, List.length_nil, List.length_take, List.length_drop, List.length_set, List.length_replicate, List.length_singleton]; omega))) only [↓if_dpos, ↓if_dneg, ↓if_epos, ↓if_eneg, ↓if_npos, ↓if_nneg, ↓if_pos, ↓if_neg, Int.toNat_natCast, List.nil_append, Nat.zero_add, List.length_singleton, Option.bind_some, List.drop_zero, List.take_length, if_true, if_false, ]
      rw [List.drop_of_length_le (Nat.le_refl _)]; rfl) fun i hi ih => by
    have e := spec_HasCard_ok (l.take i) (l.getD i 0) (by simp; omega)
    have hil : (i : Int) < (l.length : Int) := by omega
    have hw : IntKind.i64.wrap ((i : Int) + 1) = ((i + 1 : Nat) : Int) := wrap_succ hi (by omega)
    rw [spec_IsHand_L2_eq]
    simp (disch := (first | omega | (simp only [List.length_append, List.length_cons, List.length_nil, List.length_take, List.length_drop, List.length_set, List.length_replicate, List.length_singleton]; omega))) only [↓if_dpos, ↓if_dneg, ↓if_epos, ↓if_eneg, ↓if_npos, ↓if_nneg, ↓if_pos, ↓if_neg, hw, Int.toNat_natCast, List.nil_append, Nat.zero_add, List.length_singleton, Option.bind_some, List.drop_zero, List.take_length, if_true, if_false, ih, spec_IsCard_ok, e]
    rw [getD_drop (d := 0) hi, handR, ← take_succ_getD hi]
    cases isC (l.getD i 0) <;> cases hasM (l.take i) (l.getD i 0) <;> simp
  rw [spec_IsHand_eq, ← handR_nil]
  exact h 0 (Nat.zero_le _)
theorem impl_IsHand_ok (l : List Int) (h : l.length ≤ 17592186044416) : impl_IsHand l = some (handM l) := by
  have h : ∀ i, i ≤ l.length → ∀ s : List Bool, s.length = 52 → impl_IsHand_L3 l l.length i s = some (handS s (l.drop i)) := down (by
      intro s hs
      rw [impl_IsHand_L3_eq]
      simp (disch := (first | omega | (simp only [List.length_append, List.length_cons, List.length_nil, List.length_take, List.length_drop, List.length_set, List.length_replicate, List.length_singleton]; omega))) only [↓if_dpos, ↓if_dneg, ↓if_epos, ↓if_eneg, ↓if_npos, ↓if_nneg, ↓if_pos, ↓if_neg, Int.toNat_natCast, List.nil_append, Nat.zero_add, List.length_singleton, Option.bind_some, List.drop_zero, List.take_length, if_true, if_false, ]
      rw [List.drop_of_length_le (Nat.le_refl _)]; rfl) fun i hi ih s hs => by
    have hil : (i : Int) < (l.length : Int) := by omega
    have hw : IntKind.i64.wrap ((i : Int) + 1) = ((i + 1 : Nat) : Int) := wrap_succ hi (by omega)
    rw [impl_IsHand_L3_eq]
    simp (disch := (first | omega | (simp only [List.length_append, List.length_cons, List.length_nil, List.length_take, List.length_drop, List.length_set, List.length_replicate, List.length_singleton]; omega))) only [↓if_dpos, ↓if_dneg, ↓if_epos, ↓if_eneg, ↓if_npos, ↓if_nneg, ↓if_pos, ↓if_neg, hw, Int.toNat_natCast, List.nil_append, Nat.zero_add, List.length_singleton, Option.bind_some, List.drop_zero, List.take_length, if_true, if_false, impl_IsCard_ok]
    rw [getD_drop (d := 0) hi, handS]
    cases hc : isC (l.getD i 0)
    · rfl
    · obtain ⟨h1, h2⟩ := isC_iff.1 hc
      simp only [Bool.not_true, Bool.false_eq_true, if_false]
      simp (disch := (first | omega | (simp only [List.length_append, List.length_cons, List.length_nil, List.length_take, List.length_drop, List.length_set, List.length_replicate, List.length_singleton]; omega))) only [↓if_dpos, ↓if_dneg, ↓if_epos, ↓if_eneg, ↓if_npos, ↓if_nneg, ↓if_pos, ↓if_neg, Int.toNat_natCast, List.nil_append, Nat.zero_add, List.length_singleton, Option.bind_some, List.drop_zero, List.take_length, if_true, if_false]
      rw [ih _ (by simpa using hs)]
      cases s.getD (l.getD i 0).toNat false <;> rfl
  rw [impl_IsHand_eq, ← handS_nil]
  exact h 0 (Nat.zero_le _) _ (by simp)
theorem filter_take {l : List Int} {i : Nat} (p : Int → Bool) (hi : i < l.length) : (l.take (i + 1)).filter p = (l.take i).filter p ++ (if p (l.getD i 0) = true then [l.getD i 0] else []) := by
  rw [take_succ_getD (d := 0) hi, List.filter_append]
  congr 1
  rw [List.filter_cons]; rfl
theorem flen {l : List Int} {i : Nat} {p : Int → Bool} : ((l.take i).filter p).length ≤ l.length := Nat.le_trans (List.length_filter_le _ _) (by simp; omega)
theorem spec_Without_ok (l : List Int) (c : Int) (h : l.length ≤ 4398046511104) : spec_Without l c = some (withoutM l c) := by
  have h : ∀ i, i ≤ l.length → spec_Without_L3 l c i (withoutM (l.take i) c) = some (withoutM l c) := down (by
      rw [spec_Without_L3_eq]
      simp (disch := (first | omega | (simp only [List.length_append, List.length_cons, List.length_nil, List.length_take, List.length_drop, List.length_set, List.length_replicate, List.length_singleton]; omega))) only [↓if_dpos, ↓if_dneg, ↓if_epos, ↓if_eneg, ↓if_npos, ↓if_nneg, ↓if_pos, ↓if_neg, Int.toNat_natCast, List.nil_append, Nat.zero_add, List.length_singleton, Option.bind_some, List.drop_zero, List.take_length, if_true, if_false, ]) fun i hi ih => by
    have hf : (withoutM (l.take i) c).length ≤ l.length := flen
    have hil : (i : Int) < (l.length : Int) := by omega
    have hw : IntKind.i64.wrap ((i : Int) + 1) = ((i + 1 : Nat) : Int) := wrap_succ hi (by omega)
    rw [spec_Without_L3_eq]
    simp (disch := (first | omega | (simp only [List.length_append, List.length_cons, List.length_nil, List.length_take, List.length_drop, List.length_set, List.length_replicate, List.length_singleton]; omega))) only [↓if_dpos, ↓if_dneg, ↓if_epos, ↓if_eneg, ↓if_npos, ↓if_nneg, ↓if_pos, ↓if_neg, hw, Int.toNat_natCast, List.nil_append, Nat.zero_add, List.length_singleton, Option.bind_some, List.drop_zero, List.take_length, if_true, if_false, ]
    rw [← ih]
    unfold withoutM
    rw [filter_take _ hi]
    split <;> simp
  rw [spec_Without_eq]
  exact h 0 (Nat.zero_le _)
theorem impl_Without_ok (l : List Int) (c : Int) (h : l.length ≤ 4398046511104) : impl_Without l c = some (withoutM l c) := by
  have h : ∀ i, i ≤ l.length → impl_Without_L3 c l l.length i (withoutM (l.take i) c) = some (withoutM l c) := down (by
      rw [impl_Without_L3_eq]
      simp (disch := (first | omega | (simp only [List.length_append, List.length_cons, List.length_nil, List.length_take, List.length_drop, List.length_set, List.length_replicate, List.length_singleton]; omega))) only [↓if_dpos, ↓if_dneg, ↓if_epos, ↓if_eneg, ↓if_npos, ↓if_nneg, ↓if_pos, ↓if_neg, Int.toNat_natCast, List.nil_append, Nat.zero_add, List.length_singleton, Option.bind_some, List.drop_zero, List.take_length, if_true, if_false, ]) fun i hi ih => by
    have hf : (withoutM (l.take i) c).length ≤ l.length := flen
    have hil : (i : Int) < (l.length : Int) := by omega
    have hw : IntKind.i64.wrap ((i : Int) + 1) = ((i + 1 : Nat) : Int) := wrap_succ hi (by omega)
    rw [impl_Without_L3_eq]
    simp (disch := (first | omega | (simp only [List.length_append, List.length_cons, List.length_nil, List.length_take, List.length_drop, List.length_set, List.length_replicate, List.length_singleton]; omega))) only [↓if_dpos, ↓if_dneg, ↓if_epos, ↓if_eneg, ↓if_npos, ↓if_nneg, ↓if_pos, ↓if_neg, hw, Int.toNat_natCast, List.nil_append, Nat.zero_add, List.length_singleton, Option.bind_some, List.drop_zero, List.take_length, if_true, if_false, ]
    rw [← ih]
    unfold withoutM
    rw [filter_take _ hi]
    split <;> simp
  rw [impl_Without_eq]
  exact h 0 (Nat.zero_le _)
theorem spec_Sorted_in (l : List Int) (i : Nat) (hi : i < l.length) (hl : l.length ≤ 4398046511104) (r : List Int) (hr : r.length ≤ 4398046511104) : ∀ k, k ≤ r.length → spec_Sorted_L6 l i k r = spec_Sorted_L3 l ((i + 1 : Nat) : Int) (r.take (kG (fun x => decide (x > l.getD i 0)) r k) ++ l.getD i 0 :: r.drop (kG (fun x => decide (x > l.getD i 0)) r k)) := by
  intro k
  induction k with
  | zero =>
    intro hk
    have hil : (i : Int) < (l.length : Int) := by omega
    have hw : IntKind.i64.wrap ((i : Int) + 1) = ((i + 1 : Nat) : Int) := wrap_succ hi (by omega)
    rw [spec_Sorted_L6_eq]
    simp (disch := (first | omega | (simp only [List.length_append, List.length_cons, List.length_nil, List.length_take, List.length_drop, List.length_set, List.length_replicate, List.length_singleton]; omega))) only [↓if_dpos, ↓if_dneg, ↓if_epos, ↓if_eneg, ↓if_npos, ↓if_nneg, ↓if_pos, ↓if_neg, hw, Int.toNat_natCast, List.nil_append, Nat.zero_add, List.length_singleton, Option.bind_some, List.drop_zero, List.take_length, if_true, if_false, kG, Int.natCast_zero, Int.toNat_zero, List.append_assoc, List.singleton_append]
  | succ k ih =>
    intro hk
    have hil : (i : Int) < (l.length : Int) := by omega
    have hw : IntKind.i64.wrap ((i : Int) + 1) = ((i + 1 : Nat) : Int) := wrap_succ hi (by omega)
    have hk1 : IntKind.i64.wrap (((k + 1 : Nat) : Int) - 1) = (k : Int) := by rw [wrap_id (by omega) (by omega)]; omega
    rw [spec_Sorted_L6_eq]
    simp (disch := (first | omega | (simp only [List.length_append, List.length_cons, List.length_nil, List.length_take, List.length_drop, List.length_set, List.length_replicate, List.length_singleton]; omega))) only [↓if_dpos, ↓if_dneg, ↓if_epos, ↓if_eneg, ↓if_npos, ↓if_nneg, ↓if_pos, ↓if_neg, hw, hk1, Int.toNat_natCast, List.nil_append, Nat.zero_add, List.length_singleton, Option.bind_some, List.drop_zero, List.take_length, if_true, if_false, kG, ih (by omega), List.append_assoc, List.singleton_append]
    split <;> simp
theorem spec_Sorted_ok (l : List Int) (hl : l.length ≤ 1099511627776) : spec_Sorted l = some (sortM l) := by
  have h : ∀ i, i ≤ l.length → spec_Sorted_L3 l i (sortM (l.take i)) = some (sortM l) := down (by
      rw [spec_Sorted_L3_eq]
      simp (disch := (first | omega | (simp only [List.length_append, List.length_cons, List.length_nil, List.length_take, List.length_drop, List.length_set, List.length_replicate, List.length_singleton]; omega))) only [↓if_dpos, ↓if_dneg, ↓if_epos, ↓if_eneg, ↓if_npos, ↓if_nneg, ↓if_pos, ↓if_neg, Int.toNat_natCast, List.nil_append, Nat.zero_add, List.length_singleton, Option.bind_some, List.drop_zero, List.take_length, if_true, if_false, ]) fun i hi ih => by
    have hs : (sortM (l.take i)).length ≤ l.length := by rw [sortM_length]; simp; omega
    have hil : (i : Int) < (l.length : Int) := by omega
    have hw : IntKind.i64.wrap ((i : Int) + 1) = ((i + 1 : Nat) : Int) := wrap_succ hi (by omega)
    rw [spec_Sorted_L3_eq]
    simp (disch := (first | omega | (simp only [List.length_append, List.length_cons, List.length_nil, List.length_take, List.length_drop, List.length_set, List.length_replicate, List.length_singleton]; omega))) only [↓if_dpos, ↓if_dneg, ↓if_epos, ↓if_eneg, ↓if_npos, ↓if_nneg, ↓if_pos, ↓if_neg, hw, Int.toNat_natCast, List.nil_append, Nat.zero_add, List.length_singleton, Option.bind_some, List.drop_zero, List.take_length, if_true, if_false, ]
    rw [spec_Sorted_in l i hi (by omega) _ (by omega) _ (Nat.le_refl _), ← ih]
    unfold sortM
    rw [foldl_take (d := 0) hi]; rfl
  rw [spec_Sorted_eq]
  exact h 0 (Nat.zero_le _)
theorem impl_Sorted_in (l : List Int) (i : Nat) (hi : i < l.length) (hl : l.length ≤ 4398046511104) (c : Int) (r : List Int) (hr : r.length ≤ 4398046511104) : ∀ k, k ≤ r.length → impl_Sorted_L6 c k l l.length i r = impl_Sorted_L3 l l.length ((i + 1 : Nat) : Int) (r.take (kG (fun x => decide (x > c)) r k) ++ c :: r.drop (kG (fun x => decide (x > c)) r k)) := by
  intro k
  induction k with
  | zero =>
    intro hk
    have hil : (i : Int) < (l.length : Int) := by omega
    have hw : IntKind.i64.wrap ((i : Int) + 1) = ((i + 1 : Nat) : Int) := wrap_succ hi (by omega)
    have h0 : IntKind.i64.wrap (((0 : Nat) : Int) + 1) = ((0 + 1 : Nat) : Int) := by rw [wrap_id (by omega) (by omega)]; rfl
    rw [impl_Sorted_L6_eq]
    have e := ins_copy r c 0 (Nat.zero_le _)
    simp (disch := (first | omega | (simp only [List.length_append, List.length_cons, List.length_nil, List.length_take, List.length_drop, List.length_set, List.length_replicate, List.length_singleton]; omega))) only [↓if_dpos, ↓if_dneg, ↓if_epos, ↓if_eneg, ↓if_npos, ↓if_nneg, ↓if_pos, ↓if_neg, hw, h0, Int.toNat_natCast, e, kG]
  | succ k ih =>
    intro hk
    have hil : (i : Int) < (l.length : Int) := by omega
    have hw : IntKind.i64.wrap ((i : Int) + 1) = ((i + 1 : Nat) : Int) := wrap_succ hi (by omega)
    have hk1 : IntKind.i64.wrap (((k + 1 : Nat) : Int) - 1) = (k : Int) := by rw [wrap_id (by omega) (by omega)]; omega
    have hk2 : IntKind.i64.wrap (((k + 1 : Nat) : Int) + 1) = ((k + 1 + 1 : Nat) : Int) := by rw [wrap_id (by omega) (by omega)]; omega
    have e := ins_copy r c (k + 1) hk
    rw [impl_Sorted_L6_eq]
    simp (disch := (first | omega | (simp only [List.length_append, List.length_cons, List.length_nil, List.length_take, List.length_drop, List.length_set, List.length_replicate, List.length_singleton]; omega))) only [↓if_dpos, ↓if_dneg, ↓if_epos, ↓if_eneg, ↓if_npos, ↓if_nneg, ↓if_pos, ↓if_neg, hw, hk1, hk2, Int.toNat_natCast, e, kG, ih (by omega)]
    split <;> simp
theorem impl_Sorted_ok (l : List Int) (hl : l.length ≤ 1099511627776) : impl_Sorted l = some (sortM l) := by
  have h : ∀ i, i ≤ l.length → impl_Sorted_L3 l l.length i (sortM (l.take i)) = some (sortM l) := down (by
      rw [impl_Sorted_L3_eq]
      simp (disch := (first | omega | (simp only [List.length_append, List.length_cons, List.length_nil, List.length_take, List.length_drop, List.length_set, List.length_replicate, List.length_singleton]; omega))) only [↓if_dpos, ↓if_dneg, ↓if_epos, ↓if_eneg, ↓if_npos, ↓if_nneg, ↓if_pos, ↓if_neg, Int.toNat_natCast, List.nil_append, Nat.zero_add, List.length_singleton, Option.bind_some, List.drop_zero, List.take_length, if_true, if_false, ]) fun i hi ih => by
    have hs : (sortM (l.take i)).length ≤ l.length := by rw [sortM_length]; simp; omega
    have hil : (i : Int) < (l.length : Int) := by omega
    have hw : IntKind.i64.wrap ((i : Int) + 1) = ((i + 1 : Nat) : Int) := wrap_succ hi (by omega)
    rw [impl_Sorted_L3_eq]
    simp (disch := (first | omega | (simp only [List.length_append, List.length_cons, List.length_nil, List.length_take, List.length_drop, List.length_set, List.length_replicate, List.length_singleton]; omega))) only [↓if_dpos, ↓if_dneg, ↓if_epos, ↓if_eneg, ↓if_npos, ↓if_nneg, ↓if_pos, ↓if_neg, hw, Int.toNat_natCast, List.nil_append, Nat.zero_add, List.length_singleton, Option.bind_some, List.drop_zero, List.take_length, if_true, if_false, ]
    rw [impl_Sorted_in l i hi (by omega) _ _ (by omega) _ (Nat.le_refl _), ← ih]
    unfold sortM
    rw [foldl_take (d := 0) hi]; rfl
  rw [impl_Sorted_eq]
  exact h 0 (Nat.zero_le _)
def modM (p q : Int) : Int := if inR q 1 1000000000000 = true then (IntKind.i64.wrap (p.tmod q + q)).tmod q else 0
theorem spec_Mod_ok (p q : Int) : spec_Mod p q = some (modM p q) := by
  rw [spec_Mod_eq, spec_l1In_ok, Option.bind_some, modM]
  cases h : inR q 1 1000000000000
  · rfl
  · have : ¬ q = 0 := by intro e; subst e; cases h
    simp [this]
theorem modM_bound {p q : Int} (h1 : 1 ≤ q) (h2 : q ≤ 1000000000000) : 0 ≤ modM p q ∧ modM p q < q := by
  have hq : inR q 1 1000000000000 = true := by simp [inR, h1, h2]
  rw [modM, if_pos hq]
  have a1 := Int.lt_tmod_of_pos p (by omega : 0 < q)
  have a2 := Int.tmod_lt_of_pos p (by omega : 0 < q)
  rw [wrap_id (by omega) (by omega)]
  exact ⟨Int.tmod_nonneg _ (by omega), Int.tmod_lt_of_pos _ (by omega)⟩
def hashStep (d v : Int) : Int := (IntKind.i64.wrap (IntKind.i64.wrap (IntKind.i64.wrap (d * 1000003) + modM v 2147483647) + 13)).tmod 2147483647
def hashM (l : List Int) : Int := l.foldl hashStep 11
theorem spec_Hash_ok (l : List Int) (hl : l.length ≤ 1099511627776) : spec_Hash l = some (hashM l) := by
  have h : ∀ i, i ≤ l.length → spec_Hash_L3 l (hashM (l.take i)) i = some (hashM l) := down (by
      rw [spec_Hash_L3_eq]
      simp (disch := (first | omega | (simp only [List.length_append, List.length_cons, List.length_nil, List.length_take, List.length_drop, List.length_set, List.length_replicate, List.length_singleton]; omega))) only [↓if_dpos, ↓if_dneg, ↓if_epos, ↓if_eneg, ↓if_npos, ↓if_nneg, ↓if_pos, ↓if_neg, Int.toNat_natCast, List.nil_append, Nat.zero_add, List.length_singleton, Option.bind_some, List.drop_zero, List.take_length, if_true, if_false, ]) fun i hi ih => by
    have hil : (i : Int) < (l.length : Int) := by omega
    have hw : IntKind.i64.wrap ((i : Int) + 1) = ((i + 1 : Nat) : Int) := wrap_succ hi (by omega)
    rw [spec_Hash_L3_eq]
    simp (disch := (first | omega | (simp only [List.length_append, List.length_cons, List.length_nil, List.length_take, List.length_drop, List.length_set, List.length_replicate, List.length_singleton]; omega))) only [↓if_dpos, ↓if_dneg, ↓if_epos, ↓if_eneg, ↓if_npos, ↓if_nneg, ↓if_pos, ↓if_neg, hw, Int.toNat_natCast, List.nil_append, Nat.zero_add, List.length_singleton, Option.bind_some, List.drop_zero, List.take_length, if_true, if_false, spec_Mod_ok]
    rw [← ih]
    unfold hashM
    rw [foldl_take (d := 0) hi]; rfl
  rw [spec_Hash_eq]
  exact h 0 (Nat.zero_le _)
def shufM (seed : Int) : Nat → List Int → List Int
  | 0, r => r
  | i + 1, r => shufM seed i ((r.set (i + 1) (r.getD (modM (hashM [seed, ((i + 1 : Nat) : Int)]) ((i + 2 : Nat) : Int)).toNat 0)).set (modM (hashM [seed, ((i + 1 : Nat) : Int)]) ((i + 2 : Nat) : Int)).toNat (r.getD (i + 1) 0))
def shuffledM (l : List Int) (seed : Int) : List Int := shufM seed (l.length - 1) l
theorem shufM_length (seed : Int) : ∀ i r, (shufM seed i r).length = r.length := by
  intro i
  induction i with
  | zero => intro r; rfl
  | succ i ih => intro r; rw [shufM, ih]; simp
theorem swap_perm {r : List Int} {i j : Nat} (hi : i < r.length) (hj : j < r.length) : ((r.set i (r.getD j 0)).set j (r.getD i 0)).Perm r := by
  rw [List.getD_eq_getElem?_getD, List.getD_eq_getElem?_getD, List.getElem?_eq_getElem hi, List.getElem?_eq_getElem hj]
  exact List.set_set_perm hi hj
theorem shufM_perm (seed : Int) : ∀ i r, i < r.length → r.length ≤ 549755813888 → (shufM seed i r).Perm r := by
  intro i
  induction i with
  | zero => intro r _ _; exact List.Perm.refl _
  | succ i ih =>
    intro r hr hl
    obtain ⟨b1, b2⟩ := modM_bound (p := hashM [seed, ((i + 1 : Nat) : Int)]) (q := ((i + 2 : Nat) : Int)) (by omega) (by omega)
    rw [shufM]
    exact (ih _ (by simp; omega) (by simpa using hl)).trans (swap_perm (by omega) (by omega))
theorem spec_Shuffled_ok (l : List Int) (seed : Int) (hl : l.length ≤ 549755813888) : spec_Shuffled l seed = some (shuffledM l seed) := by
  have h : ∀ i (r : List Int), (r.length = 0 → i = 0) → (0 < r.length → i < r.length) → r.length ≤ 549755813888 → spec_Shuffled_L3 seed i r = some (shufM seed i r) := by
    intro i
    induction i with
    | zero =>
      intro r _ _ _
      rw [spec_Shuffled_L3_eq]
      simp (disch := (first | omega | (simp only [List.length_append, List.length_cons, List.length_nil, List.length_take, List.length_drop, List.length_set, List.length_replicate, List.length_singleton]; omega))) only [↓if_dpos, ↓if_dneg, ↓if_epos, ↓if_eneg, ↓if_npos, ↓if_nneg, ↓if_pos, ↓if_neg, Int.toNat_natCast, List.nil_append, Nat.zero_add, List.length_singleton, Option.bind_some, List.drop_zero, List.take_length, if_true, if_false, ]
      rfl
    | succ i ih =>
      intro r h0 h1 h2
      obtain ⟨b1, b2⟩ := modM_bound (p := hashM [seed, ((i + 1 : Nat) : Int)]) (q := ((i + 2 : Nat) : Int)) (by omega) (by omega)
      have w1 : IntKind.i64.wrap (((i + 1 : Nat) : Int) + 1) = ((i + 2 : Nat) : Int) := by rw [wrap_id (by omega) (by omega)]; omega
      have w2 : IntKind.i64.wrap (((i + 1 : Nat) : Int) - 1) = (i : Int) := by rw [wrap_id (by omega) (by omega)]; omega
      rw [spec_Shuffled_L3_eq, spec_Hash_ok _ (by simp)]
      simp (disch := (first | omega | (simp only [List.length_append, List.length_cons, List.length_nil, List.length_take, List.length_drop, List.length_set, List.length_replicate, List.length_singleton]; omega))) only [↓if_dpos, ↓if_dneg, ↓if_epos, ↓if_eneg, ↓if_npos, ↓if_nneg, ↓if_pos, ↓if_neg, w1, w2, Int.toNat_natCast, List.nil_append, Nat.zero_add, List.length_singleton, Option.bind_some, List.drop_zero, List.take_length, if_true, if_false, spec_Mod_ok]
      exact ih _ (by simp only [List.length_set]; omega) (by simp only [List.length_set]; omega) (by simpa using h2)
  rw [spec_Shuffled_eq]
  simp (disch := (first | omega | (simp only [List.length_append, List.length_cons, List.length_nil, List.length_take, List.length_drop, List.length_set, List.length_replicate, List.length_singleton]; omega))) only [↓if_dpos, ↓if_dneg, ↓if_epos, ↓if_eneg, ↓if_npos, ↓if_nneg, ↓if_pos, ↓if_neg, Int.toNat_natCast, List.nil_append, Nat.zero_add, List.length_singleton, Option.bind_some, List.drop_zero, List.take_length, if_true, if_false]
  rw [shuffledM]
  by_cases e : l.length = 0
  · have w : IntKind.i64.wrap ((l.length : Int) - 1) = -1 := by rw [wrap_id (by omega) (by omega)]; omega
    rw [w]
    rw [spec_Shuffled_L3_eq]
    simp (disch := (first | omega | (simp only [List.length_append, List.length_cons, List.length_nil, List.length_take, List.length_drop, List.length_set, List.length_replicate, List.length_singleton]; omega))) only [↓if_dpos, ↓if_dneg, ↓if_epos, ↓if_eneg, ↓if_npos, ↓if_nneg, ↓if_pos, ↓if_neg, Int.toNat_natCast, List.nil_append, Nat.zero_add, List.length_singleton, Option.bind_some, List.drop_zero, List.take_length, if_true, if_false, ]
    rw [e]; rfl
  · have w : IntKind.i64.wrap ((l.length : Int) - 1) = ((l.length - 1 : Nat) : Int) := by rw [wrap_id (by omega) (by omega)]; omega
    rw [w]
    exact h _ _ (by omega) (by omega) hl
def rankM (c : Int) : Int := if isC c = true then c.tmod 13 else -1
def suitM (c : Int) : Int := if isC c = true then IntKind.i64.wrap (c.tdiv 13) else -1
theorem spec_RankOf_ok (c : Int) : spec_RankOf c = some (rankM c) := by
  rw [spec_RankOf_eq, spec_IsCard_ok, Option.bind_some, rankM]; cases isC c <;> rfl
theorem impl_RankOf_ok (c : Int) : impl_RankOf c = some (rankM c) := by
  rw [impl_RankOf_eq, impl_IsCard_ok, Option.bind_some, rankM]; cases isC c <;> rfl
theorem spec_SuitOf_ok (c : Int) : spec_SuitOf c = some (suitM c) := by
  rw [spec_SuitOf_eq, spec_IsCard_ok, Option.bind_some, suitM]; cases isC c <;> rfl
theorem impl_SuitOf_ok (c : Int) : impl_SuitOf c = some (suitM c) := by
  rw [impl_SuitOf_eq, impl_IsCard_ok, Option.bind_some, suitM]; cases isC c <;> rfl
def redM (c : Int) : Bool := inR (suitM c) 1 2
theorem impl_EqualInts_ok (l r : List Int) (hl : l.length ≤ 1048576) : impl_EqualInts l r = some (decide (l = r)) := by
  rw [impl_EqualInts_eq]
  by_cases hlen : l.length = r.length
  · rw [if_neg (by simp [hlen])]
    exact eq_loop (d := 0) (fun i => impl_EqualInts_L4 l r l.length i) hlen (by show impl_EqualInts_L4 l r l.length (l.length : Int) = _; rw [impl_EqualInts_L4_eq, if_neg (by simp)]) fun i hi => by
      show impl_EqualInts_L4 l r l.length (i : Int) = _
      rw [impl_EqualInts_L4_eq, if_pos (by simpa using hi), if_pos (by omega), if_pos (by omega), if_pos (by omega), if_pos (by omega), wrap_succ hi (by omega), Int.toNat_natCast]
      by_cases e : l.getD i 0 = r.getD i 0
      · rw [if_neg (by simpa using e), if_pos e]
      · rw [if_pos (by simpa using e), if_neg e]
  · rw [if_pos (by simp; omega), decide_eq_false (fun e => hlen (by rw [e]))]
theorem impl_AllApart_ok (l : List (List Int)) (hl : l.length ≤ 4194304) (hf : l.flatten.length ≤ 8796093022208) : impl_AllApart l = some (handM l.flatten) := by
  have h : ∀ i, i ≤ l.length → impl_AllApart_L3 l l.length i (l.take i).flatten = some (handM l.flatten) := down (by
      rw [impl_AllApart_L3_eq]
      simp (disch := (first | omega | (simp only [List.length_append, List.length_cons, List.length_nil, List.length_take, List.length_drop, List.length_set, List.length_replicate, List.length_singleton]; omega))) only [↓if_dpos, ↓if_dneg, ↓if_epos, ↓if_eneg, ↓if_npos, ↓if_nneg, ↓if_pos, ↓if_neg, Int.toNat_natCast, List.nil_append, Nat.zero_add, List.length_singleton, Option.bind_some, List.drop_zero, List.take_length, if_true, if_false, impl_IsHand_ok _ (by omega : l.flatten.length ≤ 17592186044416)]) fun i hi ih => by
    have h1 := flat_take_le l (i + 1)
    rw [flat_take hi, List.length_append] at h1
    have hil : (i : Int) < (l.length : Int) := by omega
    have hw : IntKind.i64.wrap ((i : Int) + 1) = ((i + 1 : Nat) : Int) := wrap_succ hi (by omega)
    rw [impl_AllApart_L3_eq]
    simp (disch := (first | omega | (simp only [List.length_append, List.length_cons, List.length_nil, List.length_take, List.length_drop, List.length_set, List.length_replicate, List.length_singleton]; omega))) only [↓if_dpos, ↓if_dneg, ↓if_epos, ↓if_eneg, ↓if_npos, ↓if_nneg, ↓if_pos, ↓if_neg, hw, Int.toNat_natCast, List.nil_append, Nat.zero_add, List.length_singleton, Option.bind_some, List.drop_zero, List.take_length, if_true, if_false, ]
    rw [← ih, flat_take hi]
  rw [impl_AllApart_eq]
  exact h 0 (Nat.zero_le _)
theorem impl_TotalCards_ok (l : List (List Int)) (hl : l.length ≤ 4194304) (hf : l.flatten.length ≤ 8796093022208) : impl_TotalCards l = some (l.flatten.length : Int) := by
  have h : ∀ i, i ≤ l.length → impl_TotalCards_L3 ((l.take i).flatten.length : Int) l l.length i = some (l.flatten.length : Int) := down (by
      rw [impl_TotalCards_L3_eq]
      simp (disch := (first | omega | (simp only [List.length_append, List.length_cons, List.length_nil, List.length_take, List.length_drop, List.length_set, List.length_replicate, List.length_singleton]; omega))) only [↓if_dpos, ↓if_dneg, ↓if_epos, ↓if_eneg, ↓if_npos, ↓if_nneg, ↓if_pos, ↓if_neg, Int.toNat_natCast, List.nil_append, Nat.zero_add, List.length_singleton, Option.bind_some, List.drop_zero, List.take_length, if_true, if_false, ]) fun i hi ih => by
    have h1 := flat_take_le l (i + 1)
    rw [flat_take hi, List.length_append] at h1
    have hw2 : IntKind.i64.wrap (((l.take i).flatten.length : Int) + ((l.getD i []).length : Int)) = ((l.take (i + 1)).flatten.length : Int) := by
      rw [wrap_id (by omega) (by omega), flat_take hi, List.length_append]; omega
    have hil : (i : Int) < (l.length : Int) := by omega
    have hw : IntKind.i64.wrap ((i : Int) + 1) = ((i + 1 : Nat) : Int) := wrap_succ hi (by omega)
    rw [impl_TotalCards_L3_eq]
    simp (disch := (first | omega | (simp only [List.length_append, List.length_cons, List.length_nil, List.length_take, List.length_drop, List.length_set, List.length_replicate, List.length_singleton]; omega))) only [↓if_dpos, ↓if_dneg, ↓if_epos, ↓if_eneg, ↓if_npos, ↓if_nneg, ↓if_pos, ↓if_neg, hw, Int.toNat_natCast, List.nil_append, Nat.zero_add, List.length_singleton, Option.bind_some, List.drop_zero, List.take_length, if_true, if_false, hw2]
    exact ih
  rw [impl_TotalCards_eq]
  exact h 0 (Nat.zero_le _)
def wholeL (all : List Int) : Bool := decide (all.length = 52) && handM all
theorem wholeL_perm {a b : List Int} (h : a.Perm b) : wholeL a = wholeL b := by rw [wholeL, wholeL, h.length_eq, handM_perm h]
theorem impl_allIn_ok (l : List Int) (lo hi' : Int) (hl : l.length ≤ 4398046511104) : impl_allIn l lo hi' = some (l.all (fun x => inR x lo hi')) := by
  have h : ∀ i, i ≤ l.length → impl_allIn_L2 lo hi' l l.length i = some ((l.drop i).all (fun x => inR x lo hi')) := down (by
      rw [impl_allIn_L2_eq]
      simp (disch := (first | omega | (simp only [List.length_append, List.length_cons, List.length_nil, List.length_take, List.length_drop, List.length_set, List.length_replicate, List.length_singleton]; omega))) only [↓if_dpos, ↓if_dneg, ↓if_epos, ↓if_eneg, ↓if_npos, ↓if_nneg, ↓if_pos, ↓if_neg, Int.toNat_natCast, List.nil_append, Nat.zero_add, List.length_singleton, Option.bind_some, List.drop_zero, List.take_length, if_true, if_false, ]
      rw [List.drop_of_length_le (Nat.le_refl _), List.all_nil]) fun i hi ih => by
    have hil : (i : Int) < (l.length : Int) := by omega
    have hw : IntKind.i64.wrap ((i : Int) + 1) = ((i + 1 : Nat) : Int) := wrap_succ hi (by omega)
    rw [impl_allIn_L2_eq]
    simp (disch := (first | omega | (simp only [List.length_append, List.length_cons, List.length_nil, List.length_take, List.length_drop, List.length_set, List.length_replicate, List.length_singleton]; omega))) only [↓if_dpos, ↓if_dneg, ↓if_epos, ↓if_eneg, ↓if_npos, ↓if_nneg, ↓if_pos, ↓if_neg, hw, Int.toNat_natCast, List.nil_append, Nat.zero_add, List.length_singleton, Option.bind_some, List.drop_zero, List.take_length, if_true, if_false, impl_InRange_ok, ih]
    rw [getD_drop (d := 0) hi, List.all_cons]
    cases inR (l.getD i 0) lo hi' <;> rfl
  rw [impl_allIn_eq]
  exact h 0 (Nat.zero_le _)
theorem impl_sum_ok (l : List Int) (hl : l.length ≤ 4398046511104) : impl_sum l = some (sumW l) := by
  have h : ∀ i, i ≤ l.length → impl_sum_L3 (sumW (l.take i)) l l.length i = some (sumW l) := down (by
      rw [impl_sum_L3_eq]
      simp (disch := (first | omega | (simp only [List.length_append, List.length_cons, List.length_nil, List.length_take, List.length_drop, List.length_set, List.length_replicate, List.length_singleton]; omega))) only [↓if_dpos, ↓if_dneg, ↓if_epos, ↓if_eneg, ↓if_npos, ↓if_nneg, ↓if_pos, ↓if_neg, Int.toNat_natCast, List.nil_append, Nat.zero_add, List.length_singleton, Option.bind_some, List.drop_zero, List.take_length, if_true, if_false, ]) fun i hi ih => by
    have hil : (i : Int) < (l.length : Int) := by omega
    have hw : IntKind.i64.wrap ((i : Int) + 1) = ((i + 1 : Nat) : Int) := wrap_succ hi (by omega)
    rw [impl_sum_L3_eq]
    simp (disch := (first | omega | (simp only [List.length_append, List.length_cons, List.length_nil, List.length_take, List.length_drop, List.length_set, List.length_replicate, List.length_singleton]; omega))) only [↓if_dpos, ↓if_dneg, ↓if_epos, ↓if_eneg, ↓if_npos, ↓if_nneg, ↓if_pos, ↓if_neg, hw, Int.toNat_natCast, List.nil_append, Nat.zero_add, List.length_singleton, Option.bind_some, List.drop_zero, List.take_length, if_true, if_false, ]
    rw [← ih]
    unfold sumW
    rw [foldl_take (d := 0) hi]
  rw [impl_sum_eq]
  exact h 0 (Nat.zero_le _)
theorem row_le_flat {l : List (List Int)} {r : List Int} (h : r ∈ l) : r.length ≤ l.flatten.length := by
  induction l with
  | nil => cases h
  | cons x l ih =>
    rw [List.flatten_cons, List.length_append]
    rcases List.mem_cons.1 h with e | e
    · subst e; omega
    · have := ih e; omega
theorem getD_le_flat (l : List (List Int)) (i : Nat) : (l.getD i []).length ≤ l.flatten.length := by
  by_cases hi : i < l.length
  · exact row_le_flat (getD_mem hi)
  · rw [List.getD_eq_getElem?_getD, List.getElem?_eq_none (by omega)]; exact Nat.zero_le _
theorem perm_of_count {a b : List Int} (h : ∀ c, a.count c = b.count c) : a.Perm b := List.perm_iff_count.2 h
theorem flat_set (c : Int) : ∀ (hs : List (List Int)) (i : Nat) (r : List Int), i < hs.length → (hs.set i r).flatten.count c + (hs.getD i []).count c = hs.flatten.count c + r.count c
  | [], i, r, h => by simp at h
  | q :: hs, 0, r, h => by
    rw [List.set_cons_zero, List.flatten_cons, List.flatten_cons, List.count_append, List.count_append, List.getD_cons_zero]; omega
  | q :: hs, i + 1, r, h => by
    have := flat_set c hs i r (by simpa using h)
    rw [List.set_cons_succ, List.flatten_cons, List.flatten_cons, List.count_append, List.count_append, List.getD_cons_succ]; omega
theorem inR_iff {x a b : Int} : inR x a b = true ↔ a ≤ x ∧ x ≤ b := by simp [inR]
theorem row_sub {hs : List (List Int)} {i : Nat} (hi : i < hs.length) : (hs.getD i []).Sublist hs.flatten := by
  rw [List.getD_eq_getElem?_getD, List.getElem?_eq_getElem hi]
  exact List.sublist_flatten_of_mem (List.getElem_mem hi)
theorem without_count {l : List Int} (hn : l.Nodup) {c : Int} (hc : c ∈ l) (x : Int) : (withoutM l c).count x + [c].count x = l.count x := by
  unfold withoutM
  have h1 : l.count c = 1 := by
    have := List.nodup_iff_count.1 hn c
    have := List.count_pos_iff.2 hc
    omega
  by_cases e : x = c
  · subst e
    rw [h1, List.count_eq_zero.2 (by rw [List.mem_filter]; simp)]
    simp
  · rw [List.count_filter (by simpa using e), (show [c].count x = 0 from List.count_eq_zero.2 (by simpa using e))]; omega
theorem without_length {l : List Int} (hn : l.Nodup) {c : Int} (hc : c ∈ l) : (withoutM l c).length + 1 = l.length := by
  have : (withoutM l c ++ [c]).Perm l := perm_of_count fun x => by rw [List.count_append]; exact without_count hn hc x
  have := this.length_eq
  rwa [List.length_append, List.length_singleton] at this
theorem laws_ascends_ok (l : List Int) (hl : l.length ≤ 1000000) (h : l.Pairwise (· < ·)) : laws_ascends l = some true := by
  rw [laws_ascends_eq]
  have key : ∀ d i : Nat, i + 1 + d = l.length ∨ (l.length ≤ i + 1 ∧ d = 0) → laws_ascends_L2 l ((i + 1 : Nat) : Int) = some true := by
    intro d
    induction d with
    | zero => intro i hi; rw [laws_ascends_L2_eq, if_dneg (by omega)]
    | succ d ih =>
      intro i hi
      have w1 : IntKind.i64.wrap (((i + 1 : Nat) : Int) - 1) = (i : Int) := by rw [wrap_id (by omega) (by omega)]; omega
      have w2 : IntKind.i64.wrap (((i + 1 : Nat) : Int) + 1) = ((i + 1 + 1 : Nat) : Int) := by rw [wrap_id (by omega) (by omega)]; omega
      have hlt : l.getD i 0 < l.getD (i + 1) 0 := by
        rw [List.getD_eq_getElem?_getD, List.getElem?_eq_getElem (by omega), List.getD_eq_getElem?_getD, List.getElem?_eq_getElem (by omega)]
        exact List.pairwise_iff_getElem.1 h i (i + 1) (by omega) (by omega) (by omega)
      rw [laws_ascends_L2_eq, w1, w2]
      simp (disch := (first | omega | (simp only [List.length_append, List.length_cons, List.length_nil, List.length_take, List.length_drop, List.length_set, List.length_replicate, List.length_singleton]; omega))) only [↓if_dpos, ↓if_dneg, ↓if_epos, ↓if_eneg, ↓if_npos, ↓if_nneg, ↓if_pos, ↓if_neg, Int.toNat_natCast, List.nil_append, Nat.zero_add, List.length_singleton, Option.bind_some, List.drop_zero, List.take_length, if_true, if_false]
      exact ih (i + 1) (by omega)
  by_cases e : l.length ≤ 1
  · exact key 0 0 (.inr ⟨by omega, rfl⟩)
  · exact key (l.length - 1) 0 (.inl (by omega))
theorem laws_contains_ok (l : List Int) (c : Int) (hl : l.length ≤ 1000000) : laws_contains l c = some (hasM l c) := by
  rw [laws_contains_eq]
  have key : ∀ i, i ≤ l.length → laws_contains_L2 l c (i : Int) = some (hasM (l.drop i) c) := down (by
      rw [laws_contains_L2_eq]
      simp (disch := (first | omega | (simp only [List.length_append, List.length_cons, List.length_nil, List.length_take, List.length_drop, List.length_set, List.length_replicate, List.length_singleton]; omega))) only [↓if_dpos, ↓if_dneg, ↓if_epos, ↓if_eneg, ↓if_npos, ↓if_nneg, ↓if_pos, ↓if_neg, Int.toNat_natCast, List.nil_append, Nat.zero_add, List.length_singleton, Option.bind_some, List.drop_zero, List.take_length, if_true, if_false, ]
      rw [List.drop_of_length_le (Nat.le_refl _)]; rfl) fun i hi ih => by
    have hil : (i : Int) < (l.length : Int) := by omega
    have hw : IntKind.i64.wrap ((i : Int) + 1) = ((i + 1 : Nat) : Int) := wrap_succ hi (by omega)
    rw [laws_contains_L2_eq]
    simp (disch := (first | omega | (simp only [List.length_append, List.length_cons, List.length_nil, List.length_take, List.length_drop, List.length_set, List.length_replicate, List.length_singleton]; omega))) only [↓if_dpos, ↓if_dneg, ↓if_epos, ↓if_eneg, ↓if_npos, ↓if_nneg, ↓if_pos, ↓if_neg, hw, Int.toNat_natCast, List.nil_append, Nat.zero_add, List.length_singleton, Option.bind_some, List.drop_zero, List.take_length, if_true, if_false, ih]
    rw [hasM_drop hi]
    by_cases e : l.getD i 0 = c
    · rw [if_pos (by rw [beq_iff_eq]; exact e), decide_eq_true e]; rfl
    · rw [if_neg (by rw [beq_iff_eq]; exact e), decide_eq_false e]; rfl
  exact key 0 (Nat.zero_le _)
theorem laws_sum_ok (l : List Int) (hl : l.length ≤ 4398046511104) : laws_sum l = some (sumW l) := by
  have h : ∀ i, i ≤ l.length → laws_sum_L3 l (sumW (l.take i)) i = some (sumW l) := down (by
      rw [laws_sum_L3_eq]
      simp (disch := (first | omega | (simp only [List.length_append, List.length_cons, List.length_nil, List.length_take, List.length_drop, List.length_set, List.length_replicate, List.length_singleton]; omega))) only [↓if_dpos, ↓if_dneg, ↓if_epos, ↓if_eneg, ↓if_npos, ↓if_nneg, ↓if_pos, ↓if_neg, Int.toNat_natCast, List.nil_append, Nat.zero_add, List.length_singleton, Option.bind_some, List.drop_zero, List.take_length, if_true, if_false, ]) fun i hi ih => by
    have hil : (i : Int) < (l.length : Int) := by omega
    have hw : IntKind.i64.wrap ((i : Int) + 1) = ((i + 1 : Nat) : Int) := wrap_succ hi (by omega)
    rw [laws_sum_L3_eq]
    simp (disch := (first | omega | (simp only [List.length_append, List.length_cons, List.length_nil, List.length_take, List.length_drop, List.length_set, List.length_replicate, List.length_singleton]; omega))) only [↓if_dpos, ↓if_dneg, ↓if_epos, ↓if_eneg, ↓if_npos, ↓if_nneg, ↓if_pos, ↓if_neg, hw, Int.toNat_natCast, List.nil_append, Nat.zero_add, List.length_singleton, Option.bind_some, List.drop_zero, List.take_length, if_true, if_false, ]
    rw [← ih]
    unfold sumW
    rw [foldl_take (d := 0) hi]
  rw [laws_sum_eq]
  exact h 0 (Nat.zero_le _)
def handN (deck : List Int) (p q n : Nat) : List Int := (List.range n).map fun (i : Nat) => deck.getD (i * p + q) 0
def handsN (deck : List Int) (p e : Nat) : List (List Int) := (List.range p).map fun (q : Nat) => handN deck p q e
theorem handN_length (deck : List Int) (p q n : Nat) : (handN deck p q n).length = n := by simp [handN]
theorem handsN_length (deck : List Int) (p e : Nat) : (handsN deck p e).length = p := by simp [handsN]
theorem handN_succ (deck : List Int) (p q n : Nat) : handN deck p q (n + 1) = handN deck p q n ++ [deck.getD (n * p + q) 0] := by simp [handN, List.range_succ]
def dealtM (deck : List Int) (p e : Int) : List (List Int) × List Int × Bool :=
  if handM deck = true ∧ inR p 1 6 = true ∧ inR e 0 20 = true ∧ p * e ≤ (deck.length : Int) then (handsN deck p.toNat e.toNat, deck.drop (p.toNat * e.toNat), true) else ([], deck, false)
theorem spec_Dealt_in (deck : List Int) (p e : Nat) (hp : p ≤ 6) (he : e ≤ 20) (hl : p * e ≤ deck.length) (hd : deck.length ≤ 2097152) : ∀ q, q ≤ p → spec_Dealt_L5 deck p e q ((List.range q).map fun (q : Nat) => handN deck p q e) = some (handsN deck p e, deck.drop (p * e), true) := by
  have hpe : p * e ≤ 120 := Nat.mul_le_mul hp he
  have wpe : IntKind.i64.wrap ((p : Int) * (e : Int)) = ((p * e : Nat) : Int) := by rw [← Int.natCast_mul, wrap_id (by omega) (by omega)]
  refine down (by
    rw [spec_Dealt_L5_eq]
    simp (disch := (first | omega | (simp only [List.length_append, List.length_cons, List.length_nil, List.length_take, List.length_drop, List.length_set, List.length_replicate, List.length_singleton]; omega))) only [↓if_dpos, ↓if_dneg, ↓if_epos, ↓if_eneg, ↓if_npos, ↓if_nneg, ↓if_pos, ↓if_neg, Int.toNat_natCast, List.nil_append, Nat.zero_add, List.length_singleton, Option.bind_some, List.drop_zero, List.take_length, if_true, if_false, wpe]
    rfl) fun q hq ih => ?_
  have hw : IntKind.i64.wrap ((q : Int) + 1) = ((q + 1 : Nat) : Int) := by rw [wrap_id (by omega) (by omega)]; omega
  have hin : ∀ i, i ≤ e → spec_Dealt_L9 deck p e q i ((List.range q).map fun (q : Nat) => handN deck p q e) (handN deck p q i) = some (handsN deck p e, deck.drop (p * e), true) := down (by
      rw [List.range_succ, List.map_append] at ih
      have hlr : ((List.range q).map fun (q : Nat) => handN deck p q e).length = q := by simp
      rw [spec_Dealt_L9_eq]
      simp (disch := (first | omega | (simp only [List.length_append, List.length_cons, List.length_nil, List.length_take, List.length_drop, List.length_set, List.length_replicate, List.length_singleton]; omega))) only [↓if_dpos, ↓if_dneg, ↓if_epos, ↓if_eneg, ↓if_npos, ↓if_nneg, ↓if_pos, ↓if_neg, Int.toNat_natCast, List.nil_append, Nat.zero_add, List.length_singleton, Option.bind_some, List.drop_zero, List.take_length, if_true, if_false, hw, hlr]
      exact ih) fun i hi jh => by
    have hi1 : IntKind.i64.wrap ((i : Int) + 1) = ((i + 1 : Nat) : Int) := by rw [wrap_id (by omega) (by omega)]; omega
    have h1 : i * p + p ≤ e * p := by rw [← Nat.succ_mul]; exact Nat.mul_le_mul_right _ hi
    rw [Nat.mul_comm e p] at h1
    have h2 : IntKind.i64.wrap ((i : Int) * (p : Int)) = ((i * p : Nat) : Int) := by rw [← Int.natCast_mul, wrap_id (by omega) (by omega)]
    have h3 : IntKind.i64.wrap (((i * p : Nat) : Int) + (q : Int)) = ((i * p + q : Nat) : Int) := by rw [wrap_id (by omega) (by omega)]; omega
    have hk := handN_length deck p q i
    rw [spec_Dealt_L9_eq]
    simp (disch := (first | omega | (simp only [List.length_append, List.length_cons, List.length_nil, List.length_take, List.length_drop, List.length_set, List.length_replicate, List.length_singleton]; omega))) only [↓if_dpos, ↓if_dneg, ↓if_epos, ↓if_eneg, ↓if_npos, ↓if_nneg, ↓if_pos, ↓if_neg, hi1, h2, h3, Int.toNat_natCast, List.nil_append, Nat.zero_add, List.length_singleton, Option.bind_some, List.drop_zero, List.take_length, if_true, if_false]
    rw [← jh, handN_succ]
  rw [spec_Dealt_L5_eq, if_pos (decide_eq_true (by omega))]
  exact hin 0 (Nat.zero_le _)
theorem spec_Dealt_ok (deck : List Int) (p e : Int) (hd : deck.length ≤ 2097152) : spec_Dealt deck p e = some (dealtM deck p e) := by
  rw [spec_Dealt_eq, spec_IsHand_ok _ (by omega), Option.bind_some, spec_l1In_ok, Option.bind_some, spec_l1In_ok, Option.bind_some, dealtM]
  have hz : (0 + deck.length) * 8 ≤ 140737488355328 := by omega
  cases hh : handM deck
  · simp; omega
  · cases h1 : inR p 1 6
    · simp; omega
    · cases h2 : inR e 0 20
      · simp; omega
      · simp [inR] at h1 h2
        have hpp : p = (p.toNat : Int) := by omega
        have hee : e = (e.toNat : Int) := by omega
        generalize p.toNat = P at hpp
        generalize e.toNat = E at hee
        subst hpp; subst hee
        have hpe : P * E ≤ 120 := Nat.mul_le_mul (by omega : P ≤ 6) (by omega : E ≤ 20)
        have wpe : IntKind.i64.wrap ((P : Int) * (E : Int)) = ((P * E : Nat) : Int) := by rw [← Int.natCast_mul, wrap_id (by omega) (by omega)]
        rw [wpe, ← Int.natCast_mul]
        simp only [Bool.not_true, Bool.false_eq_true, if_false, true_and]
        by_cases h3 : ((P * E : Nat) : Int) ≤ (deck.length : Int)
        · rw [if_neg (by simp; omega), if_pos h3]
          exact spec_Dealt_in deck P E (by omega) (by omega) (by omega) hd 0 (Nat.zero_le _)
        · rw [if_pos (by simp; omega), if_neg h3, if_pos hz]; rfl
def dealRow (deck : List Int) (p j : Nat) : List (List Int) := (List.range p).map fun (q : Nat) => handN deck p q ((j + (p - 1 - q)) / p)
theorem dealRow_length (deck : List Int) (p j : Nat) : (dealRow deck p j).length = p := by simp [dealRow]
theorem dealRow_get {deck : List Int} {p j q : Nat} (hq : q < p) : (dealRow deck p j).getD q [] = handN deck p q ((j + (p - 1 - q)) / p) := by
  rw [List.getD_eq_getElem?_getD, dealRow, List.getElem?_map, List.getElem?_range hq]; rfl
theorem div6 {p j q : Nat} (h1 : 1 ≤ p) (h6 : p ≤ 6) (hq : q < p) : (j + 1 + (p - 1 - q)) / p = (j + (p - 1 - q)) / p + (if q = j % p then 1 else 0) ∧ (q = j % p → (j + (p - 1 - q)) / p * p + q = j) := by
  have : p = 1 ∨ p = 2 ∨ p = 3 ∨ p = 4 ∨ p = 5 ∨ p = 6 := by omega
  rcases this with rfl | rfl | rfl | rfl | rfl | rfl <;> (constructor <;> (try split) <;> omega)
theorem deal_step {deck : List Int} {p j : Nat} (h1 : 1 ≤ p) (h6 : p ≤ 6) : (dealRow deck p j).set (j % p) ((dealRow deck p j).getD (j % p) [] ++ [deck.getD j 0]) = dealRow deck p (j + 1) := by
  have hq : j % p < p := Nat.mod_lt _ h1
  apply List.ext_getElem?
  intro k
  by_cases hk : k < p
  · obtain ⟨d1, d2⟩ := div6 (j := j) h1 h6 hk
    have e1 : (dealRow deck p (j + 1))[k]? = some (handN deck p k ((j + 1 + (p - 1 - k)) / p)) := by rw [dealRow, List.getElem?_map, List.getElem?_range hk]; rfl
    rw [e1, d1]
    by_cases c : k = j % p
    · rw [if_pos c, ← c, List.getElem?_set_self (by rw [dealRow_length]; exact hk), dealRow_get hk, handN_succ, d2 c]
    · rw [if_neg c, List.getElem?_set_ne (fun h => c h.symm), dealRow, List.getElem?_map, List.getElem?_range hk]; rfl
  · rw [List.getElem?_eq_none (by rw [List.length_set, dealRow_length]; omega), List.getElem?_eq_none (by rw [dealRow_length]; omega)]
theorem deal_zero (deck : List Int) {p : Nat} (h1 : 1 ≤ p) : dealRow deck p 0 = List.replicate p [] := by
  apply List.ext_getElem?
  intro k
  by_cases hk : k < p
  · rw [dealRow, List.getElem?_map, List.getElem?_range hk, List.getElem?_replicate, if_pos hk]
    have : (0 + (p - 1 - k)) / p = 0 := Nat.div_eq_of_lt (by omega)
    simp [this, handN]; omega
  · rw [List.getElem?_eq_none (by rw [dealRow_length]; omega), List.getElem?_eq_none (by simp; omega)]
theorem deal_all (deck : List Int) {p e : Nat} (h1 : 1 ≤ p) : dealRow deck p (p * e) = handsN deck p e := by
  unfold dealRow handsN
  apply List.map_congr_left
  intro q hq
  have hq := List.mem_range.1 hq
  have : (p * e + (p - 1 - q)) / p = e := by rw [Nat.mul_add_div (by omega), Nat.div_eq_of_lt (by omega)]; rfl
  rw [this]
def idxN (p e : Nat) : List (List Nat) := (List.range p).map fun q => (List.range e).map fun i => i * p + q
theorem idx_perm : ∀ p : Nat, p < 7 → ∀ e : Nat, e < 9 → (idxN p e).flatten.Perm (List.range (p * e)) := by decide +kernel
theorem map_range (deck : List Int) : ∀ n : Nat, n ≤ deck.length → (List.range n).map (fun i => deck.getD i 0) = deck.take n := by
  intro n
  induction n with
  | zero => intro _; rfl
  | succ n ih =>
    intro h
    rw [List.range_succ, List.map_append, ih (by omega), take_succ_getD (d := 0) (by omega)]; rfl
theorem hands_perm (deck : List Int) {p e : Nat} (hp : p < 7) (he : e < 9) (hl : p * e ≤ deck.length) : (handsN deck p e).flatten.Perm (deck.take (p * e)) := by
  have e1 : handsN deck p e = (idxN p e).map (List.map fun i => deck.getD i 0) := by
    simp [handsN, idxN, handN, Function.comp_def]
  rw [e1, ← List.map_flatten, ← map_range deck _ hl]
  exact (idx_perm p hp e he).map _
end Go.Proofs.Ytoioaijpdiglfaa.V
