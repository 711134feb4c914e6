/- Plain laws over the shapes. -/
import Derived.Test.YthppocflbgnjlaaDoorEWords
import Derived.Test.YthppocflbgnjlaaDoorS1
import Derived.Test.YthppocflbgnjlaaDoorS3
set_option linter.unusedVariables false
set_option linter.unusedSimpArgs false
set_option maxRecDepth 10000
namespace Go.Proofs.YthppocflbgnjlaaDoor.V
open Go
theorem bindF {α β : Type} {x : Option α} {v : α} (h : x = some v) (k : α → Option β) : x.bind k = k v := by rw [h]; rfl
theorem if_dpos {α : Type} {p : Prop} [Decidable p] {a b : α} (h : p) : (if decide p = true then a else b) = a := if_pos (decide_eq_true h)
theorem if_dneg {α : Type} {p : Prop} [Decidable p] {a b : α} (h : ¬ p) : (if decide p = true then a else b) = b := if_neg (by simpa using h)
theorem if_epos {α : Type} {x y : Int} {a b : α} (h : x = y) : (if (x == y) = true then a else b) = a := if_pos (by simpa using h)
theorem if_eneg {α : Type} {x y : Int} {a b : α} (h : ¬ x = y) : (if (x == y) = true then a else b) = b := if_neg (by simpa using h)
theorem if_npos {α : Type} {x y : Int} {a b : α} (h : ¬ x = y) : (if (x != y) = true then a else b) = a := if_pos (by simpa using h)
theorem if_nneg {α : Type} {x y : Int} {a b : α} (h : x = y) : (if (x != y) = true then a else b) = b := if_neg (by simpa using h)
theorem take_succ_getD {α : Type} {l : List α} {i : Nat} {d : α} (h : i < l.length) : l.take (i + 1) = l.take i ++ [l.getD i d] := by
  rw [List.take_succ_eq_append_getElem h, List.getD_eq_getElem?_getD, List.getElem?_eq_getElem h]; rfl
theorem mono_b {n m : Nat} {l : List (List Int)} (h : ∀ r ∈ l, r.length ≤ n) (hm : n ≤ m) : ∀ r ∈ l, r.length ≤ m := fun r hr => Nat.le_trans (h r hr) hm
theorem impl_copyOf_ok (l : List Int) (h : l.length ≤ 17592186044416) : impl_copyOf l = some l := by
  rw [impl_copyOf_eq]
  simp (disch := (first | omega | (simp only [List.length_append, List.length_cons, List.length_nil, List.length_take, List.length_drop, List.length_set, List.length_replicate, List.length_singleton]; omega))) only [↓if_dpos, ↓if_dneg, ↓if_epos, ↓if_eneg, ↓if_npos, ↓if_nneg, ↓if_pos, ↓if_neg, Int.toNat_natCast, List.nil_append, Nat.zero_add, List.length_singleton, Option.bind_some, List.drop_zero, List.take_length, if_true, if_false]
theorem impl_copyRows_ok (l : List (List Int)) (h : l.length ≤ 2097152) (hr : ∀ r ∈ l, r.length ≤ 17592186044416) : impl_copyRows l = some l := by
  have h : ∀ i, i ≤ l.length → impl_copyRows_L3 l l.length i (l.take i) = some l := down (by
      rw [impl_copyRows_L3_eq]
      simp (disch := (first | omega | (simp only [List.length_append, List.length_cons, List.length_nil, List.length_take, List.length_drop, List.length_set, List.length_replicate, List.length_singleton]; omega))) only [↓if_dpos, ↓if_dneg, ↓if_epos, ↓if_eneg, ↓if_npos, ↓if_nneg, ↓if_pos, ↓if_neg, Int.toNat_natCast, List.nil_append, Nat.zero_add, List.length_singleton, Option.bind_some, List.drop_zero, List.take_length, if_true, if_false, ]) fun i hi ih => by
    have e := impl_copyOf_ok _ (hr _ (getD_mem (d := []) hi))
    have hil : (i : Int) < (l.length : Int) := by omega
    have hw : IntKind.i64.wrap ((i : Int) + 1) = ((i + 1 : Nat) : Int) := wrap_succ hi (by omega)
    rw [impl_copyRows_L3_eq]
    simp (disch := (first | omega | (simp only [List.length_append, List.length_cons, List.length_nil, List.length_take, List.length_drop, List.length_set, List.length_replicate, List.length_singleton]; omega))) only [↓if_dpos, ↓if_dneg, ↓if_epos, ↓if_eneg, ↓if_npos, ↓if_nneg, ↓if_pos, ↓if_neg, hw, Int.toNat_natCast, List.nil_append, Nat.zero_add, List.length_singleton, Option.bind_some, List.drop_zero, List.take_length, if_true, if_false, e]
    rw [← ih, take_succ_getD (d := []) hi]
  rw [impl_copyRows_eq]
  exact h 0 (Nat.zero_le _)
def inR (a b c : Int) : Bool := decide (b ≤ a) && decide (a ≤ c)
theorem spec_l1In_ok (a b c : Int) : spec_l1In a b c = some (inR a b c) := by
  rw [spec_l1In_eq, inR]
  by_cases h : b ≤ a
  · rw [if_pos (decide_eq_true h), decide_eq_true h, Bool.true_and]
  · rw [if_neg (by simpa using h), decide_eq_false h, Bool.false_and]
theorem impl_InRange_ok (a b c : Int) : impl_InRange a b c = some (inR a b c) := by
  rw [impl_InRange_eq, inR]
  by_cases h : b ≤ a
  · rw [if_pos (decide_eq_true h), decide_eq_true h, Bool.true_and]
  · rw [if_neg (by simpa using h), decide_eq_false h, Bool.false_and]
def isC (c : Int) : Bool := decide (0 ≤ c) && decide (c ≤ 51)
theorem spec_IsCard_ok (c : Int) : spec_IsCard c = some (isC c) := by rw [spec_IsCard_eq, spec_l1In_ok, Option.bind_some]; rfl
theorem impl_IsCard_ok (c : Int) : impl_IsCard c = some (isC c) := by rw [impl_IsCard_eq, impl_InRange_ok, Option.bind_some]; rfl
theorem isC_iff {c : Int} : isC c = true ↔ 0 ≤ c ∧ c ≤ 51 := by simp [isC]
/-- A loop over a row, its states kept by I, told by a recursion M over the row. -/
theorem over {α σ R : Type} {l : List α} {d : α} {g : Nat → σ → Option R} {M : List α → σ → R} (I : Nat → σ → Prop)
    (hend : ∀ s, I l.length s → g l.length s = some (M [] s))
    (hstep : ∀ i s, i < l.length → I i s → (∀ s', I (i + 1) s' → g (i + 1) s' = some (M (l.drop (i + 1)) s')) → g i s = some (M (l.getD i d :: l.drop (i + 1)) s)) :
    ∀ s, I 0 s → g 0 s = some (M l s) := fun s hs => by
  have h : ∀ i, i ≤ l.length → ∀ s, I i s → g i s = some (M (l.drop i) s) := down (by
    intro s hs; rw [List.drop_of_length_le (Nat.le_refl _)]; exact hend s hs) fun i hi ih s hs => by
    rw [getD_drop (d := d) hi]; exact hstep i s hi hs ih
  simpa using h 0 (Nat.zero_le _) s hs
def hasM (l : List Int) (c : Int) : Bool := decide (c ∈ l)
def plM : List Int → Int → Int → Int
  | [], _, _ => -1
  | x :: l, c, i => if x = c then i else plM l c (i + 1)
theorem plM_nonneg {l : List Int} {c : Int} : ∀ {i : Int}, 0 ≤ i → (decide (plM l c i ≥ 0) = hasM l c) := by
  induction l with
  | nil => intro i hi; simp [plM, hasM]
  | cons x l ih =>
    intro i hi
    rw [plM]
    by_cases h : x = c
    · subst h; simp [hasM, hi]
    · rw [if_neg h, ih (by omega)]; simp [hasM, Ne.symm h]
def withoutM (l : List Int) (c : Int) : List Int := l.filter fun x => x != c
theorem withoutM_length (l : List Int) (c : Int) : (withoutM l c).length ≤ l.length := List.length_filter_le _ _
def kG (p : Int → Bool) (out : List Int) : Nat → Nat
  | 0 => 0
  | k + 1 => if p (out.getD k 0) = true then kG p out k else k + 1
theorem kG_le (p : Int → Bool) (out : List Int) : ∀ k, kG p out k ≤ k := by
  intro k
  induction k with
  | zero => exact Nat.le_refl _
  | succ k ih => rw [kG]; split <;> omega
def insG (p : Int → Bool) (out : List Int) (c : Int) : List Int := out.take (kG p out out.length) ++ c :: out.drop (kG p out out.length)
theorem insG_perm (p : Int → Bool) (out : List Int) (c : Int) : (insG p out c).Perm (c :: out) := by
  unfold insG
  refine List.perm_middle.trans ?_
  rw [List.take_append_drop]
theorem insG_length (p : Int → Bool) (out : List Int) (c : Int) : (insG p out c).length = out.length + 1 := (insG_perm p out c).length_eq
def insM (out : List Int) (c : Int) : List Int := insG (fun x => decide (x > c)) out c
def sortM (l : List Int) : List Int := l.foldl insM []
theorem foldl_insM_perm (l : List Int) : ∀ out, (l.foldl insM out).Perm (l ++ out) := by
  induction l with
  | nil => intro out; exact List.Perm.refl _
  | cons c l ih =>
    intro out
    refine (ih _).trans ?_
    refine ((insG_perm _ out c).append_left l).trans ?_
    exact List.perm_middle
theorem sortM_perm (l : List Int) : (sortM l).Perm l := by
  have := foldl_insM_perm l []; rw [List.append_nil] at this; exact this
theorem sortM_length (l : List Int) : (sortM l).length = l.length := (sortM_perm l).length_eq
theorem sortM_mem {l : List Int} {c : Int} : c ∈ sortM l ↔ c ∈ l := (sortM_perm l).mem_iff
theorem foldl_take {α β : Type} {f : β → α → β} {a : β} {l : List α} {i : Nat} {d : α} (hi : i < l.length) : (l.take (i + 1)).foldl f a = f ((l.take i).foldl f a) (l.getD i d) := by
  have : l.take (i + 1) = l.take i ++ [l.getD i d] := by
    rw [List.take_succ_eq_append_getElem hi, List.getD_eq_getElem?_getD, List.getElem?_eq_getElem hi]; rfl
  rw [this, List.foldl_append]; rfl
/-- An insertion as the program makes it: one place more, the rest moved on, and the place written. -/
theorem ins_copy (r : List Int) (c : Int) (k : Nat) (hk : k ≤ r.length) :
    ((r ++ [0]).take (k + 1) ++ (((r ++ [0]).take (r ++ [0]).length).drop k).take ((r ++ [0]).length - (k + 1)) ++ (r ++ [0]).drop (k + 1 + min ((r ++ [0]).length - (k + 1)) (((r ++ [0]).take (r ++ [0]).length).drop k).length)).set k c = r.take k ++ c :: r.drop k := by
  have e : r = r.take k ++ r.drop k := (List.take_append_drop k r).symm
  have hl : (r.take k).length = k := by simp; omega
  generalize r.take k = A at e hl
  generalize hB : r.drop k = B at e
  subst e
  have hm : min ((A ++ B ++ [0]).length - (k + 1)) (((A ++ B ++ [0]).take (A ++ B ++ [0]).length).drop k).length = B.length := by simp; omega
  rw [hm]
  have h1 : (A ++ B ++ [(0 : Int)]).take (k + 1) = A ++ (B ++ [0]).take 1 := by
    rw [List.append_assoc, ← hl, List.take_append, List.take_of_length_le (by omega), Nat.add_sub_cancel_left]
  have h2 : (((A ++ B ++ [(0 : Int)]).take (A ++ B ++ [0]).length).drop k).take ((A ++ B ++ [0]).length - (k + 1)) = B := by
    rw [List.take_length, List.append_assoc, ← hl, List.drop_left]
    have : (A ++ (B ++ [(0 : Int)])).length - (A.length + 1) = B.length := by simp; omega
    rw [this, List.take_left]
  have h3 : (A ++ B ++ [(0 : Int)]).drop (k + 1 + B.length) = [] := List.drop_of_length_le (by simp; omega)
  rw [h1, h2, h3, List.append_nil, List.append_assoc, ← hl, List.set_append_right _ _ (Nat.le_refl _), Nat.sub_self]
  congr 1
  cases B <;> rfl
def sumL (l : List Int) : Int := l.foldr (· + ·) 0
theorem flat_len_le {l : List (List Int)} {n m : Nat} (h : ∀ r ∈ l, r.length ≤ m) (hl : l.length ≤ n) : l.flatten.length ≤ n * m := by
  have : l.flatten.length ≤ l.length * m := by
    clear hl
    induction l with
    | nil => simp
    | cons x l ih =>
      have h1 := h x (by simp); have h2 := ih fun r hr => h r (by simp [hr])
      simp [Nat.add_mul] at *; omega
  exact Nat.le_trans this (Nat.mul_le_mul_right _ hl)
def handM (l : List Int) : Bool := l.all isC && decide l.Nodup
theorem handM_perm {a b : List Int} (h : a.Perm b) : handM a = handM b := by
  unfold handM
  rw [Bool.eq_iff_iff]
  simp only [Bool.and_eq_true, decide_eq_true_eq, List.all_eq_true]
  exact and_congr ⟨fun k x hx => k x (h.mem_iff.2 hx), fun k x hx => k x (h.mem_iff.1 hx)⟩ h.nodup_iff
def handR (pre : List Int) : List Int → Bool
  | [] => true
  | x :: l => isC x && (!hasM pre x && handR (pre ++ [x]) l)
theorem handR_eq (l : List Int) : ∀ pre, handR pre l = (handM l && decide (∀ x ∈ l, x ∉ pre)) := by
  induction l with
  | nil => intro pre; simp [handR, handM]
  | cons x l ih =>
    intro pre
    rw [handR, ih]
    unfold handM hasM
    rw [Bool.eq_iff_iff]
    simp only [Bool.and_eq_true, decide_eq_true_eq, List.all_eq_true, List.mem_append, List.mem_singleton, List.nodup_cons, List.mem_cons, Bool.not_eq_true', decide_eq_false_iff_not]
    constructor
    · intro ⟨h1, h2, ⟨h3, h4⟩, h5⟩
      refine ⟨⟨fun y hy => ?_, fun hx => h5 x hx (.inr (.inl rfl)), h4⟩, fun y hy => ?_⟩
      · rcases hy with rfl | hy
        · exact h1
        · exact h3 y hy
      · rcases hy with rfl | hy
        · exact h2
        · exact fun hp => h5 y hy (.inl hp)
    · intro ⟨⟨h1, h2, h3⟩, h4⟩
      refine ⟨h1 x (.inl rfl), h4 x (.inl rfl), ⟨fun y hy => h1 y (.inr hy), h3⟩, fun y hy hp => ?_⟩
      rcases hp with hp | rfl | hp
      · exact h4 y (.inr hy) hp
      · exact h2 hy
      · cases hp
theorem handR_nil (l : List Int) : handR [] l = handM l := by rw [handR_eq]; simp
def handS (s : List Bool) : List Int → Bool
  | [] => true
  | x :: l => isC x && (!s.getD x.toNat false && handS (s.set x.toNat true) l)
theorem handS_eq (l : List Int) : ∀ pre s, s.length = 52 → (∀ c : Nat, c < 52 → s.getD c false = hasM pre c) → handS s l = handR pre l := by
  induction l with
  | nil => intro pre s _ _; rfl
  | cons x l ih =>
    intro pre s h1 h2
    rw [handS, handR]
    by_cases hx : isC x = true
    · obtain ⟨k1, k2⟩ := isC_iff.1 hx
      have e : ((x.toNat : Nat) : Int) = x := Int.toNat_of_nonneg k1
      have hn : x.toNat < 52 := by omega
      rw [h2 _ hn, e, ih (pre ++ [x]) _ (by simpa using h1)]
      intro c hc
      rw [List.getD_eq_getElem?_getD, List.getElem?_set]
      by_cases q : x.toNat = c
      · rw [if_pos q, if_pos (by omega)]; subst q; simp [hasM, e]
      · rw [if_neg q, ← List.getD_eq_getElem?_getD, h2 _ hc]
        have : (c : Int) ≠ x := by omega
        simp [hasM, this]
    · simp [hx]
theorem handS_nil (l : List Int) : handS (List.replicate 52 false) l = handM l := by
  rw [handS_eq l [] _ (by simp), handR_nil]
  intro c hc
  rw [List.getD_eq_getElem?_getD, List.getElem?_replicate, if_pos hc]
  simp [hasM]
/-- Rows of rows, bounded. -/
structure G2 (l : List (List Int)) : Prop where
  len : l.length ≤ 2097152
  row : ∀ r ∈ l, r.length ≤ 2097152
theorem B1.le {α : Type} {l : List α} (h : B1 1048576 l) : l.length ≤ 2097152 := by unfold B1 at h; omega
theorem B2.g {l : List (List Int)} (h : B2 1048576 l) : G2 l := ⟨by have := h.1; omega, fun r hr => by have := h.2 r hr; omega⟩
theorem G2.flat {l : List (List Int)} (h : G2 l) : l.flatten.length ≤ 4398046511104 := flat_len_le h.row h.len
theorem G2.nil : G2 [] := ⟨Nat.zero_le _, fun r hr => by cases hr⟩
theorem G2.at' {l : List (List Int)} (h : G2 l) {i : Nat} : (l.getD i []).length ≤ 2097152 := by
  by_cases hi : i < l.length
  · exact h.row _ (getD_mem hi)
  · rw [List.getD_eq_getElem?_getD, List.getElem?_eq_none (by omega)]; exact Nat.zero_le _
def tot (l : List (List Int)) : Nat := l.flatten.length
theorem G2.tle {l : List (List Int)} (h : G2 l) : tot l ≤ 4398046511104 := h.flat
theorem flat_take {l : List (List Int)} {i : Nat} (hi : i < l.length) : (l.take (i + 1)).flatten = (l.take i).flatten ++ l.getD i [] := by
  have : l.take (i + 1) = l.take i ++ [l.getD i []] := by
    rw [List.take_succ_eq_append_getElem hi, List.getD_eq_getElem?_getD, List.getElem?_eq_getElem hi]; rfl
  rw [this, List.flatten_append]; simp
theorem flat_take_le (l : List (List Int)) (i : Nat) : (l.take i).flatten.length ≤ l.flatten.length := by
  have : l.flatten = (l.take i).flatten ++ (l.drop i).flatten := by rw [← List.flatten_append, List.take_append_drop]
  rw [this, List.length_append]; omega
def sumW (l : List Int) : Int := l.foldl (fun n x => IntKind.i64.wrap (n + x)) 0
theorem G2.set {l : List (List Int)} (h : G2 l) {i : Nat} {r : List Int} (hr : r.length ≤ 2097152) : G2 (l.set i r) := ⟨by rw [List.length_set]; exact h.len, fun x hx => by
  rcases List.mem_or_eq_of_mem_set hx with h1 | h1
  · exact h.row x h1
  · rw [h1]; exact hr⟩
theorem G2.small {l : List (List Int)} {n : Nat} (h1 : l.length ≤ 2097152) (h2 : l.flatten.length ≤ n) (hn : n ≤ 2097152) : G2 l := ⟨h1, fun x hx => by
  have : x.length ≤ l.flatten.length := by
    clear h1 h2
    induction l with
    | nil => cases hx
    | cons y l ih =>
      rw [List.flatten_cons, List.length_append]
      rcases List.mem_cons.1 hx with e | e
      · subst e; omega
      · have := ih e; omega
  omega⟩
/-- Rows of piles, bounded. -/
structure G3 (l : List (List Int × Int)) : Prop where
  len : l.length ≤ 2097152
  row : ∀ r ∈ l, r.1.length ≤ 2097152
theorem G3.at' {l : List (List Int × Int)} (h : G3 l) {i : Nat} : (l.getD i ([], 0)).1.length ≤ 2097152 := by
  by_cases hi : i < l.length
  · exact h.row _ (getD_mem hi)
  · rw [List.getD_eq_getElem?_getD, List.getElem?_eq_none (by omega)]; exact Nat.zero_le _
theorem G3.set {l : List (List Int × Int)} (h : G3 l) {i : Nat} {r : List Int × Int} (hr : r.1.length ≤ 2097152) : G3 (l.set i r) := ⟨by rw [List.length_set]; exact h.len, fun x hx => by
  rcases List.mem_or_eq_of_mem_set hx with h1 | h1
  · exact h.row x h1
  · rw [h1]; exact hr⟩
def cardsP (ps : List (List Int × Int)) : List Int := (ps.map fun p => p.1).flatten
theorem cardsP_take {l : List (List Int × Int)} {i : Nat} (hi : i < l.length) : cardsP (l.take (i + 1)) = cardsP (l.take i) ++ (l.getD i ([], 0)).1 := by
  have : l.take (i + 1) = l.take i ++ [l.getD i ([], 0)] := by
    rw [List.take_succ_eq_append_getElem hi, List.getD_eq_getElem?_getD, List.getElem?_eq_getElem hi]; rfl
  rw [cardsP, this, List.map_append, List.flatten_append]; simp [cardsP]
theorem cardsP_take_le (l : List (List Int × Int)) (i : Nat) : (cardsP (l.take i)).length ≤ (cardsP l).length := by
  have : cardsP l = cardsP (l.take i) ++ cardsP (l.drop i) := by rw [cardsP, cardsP, cardsP, ← List.flatten_append, ← List.map_append, List.take_append_drop]
  rw [this, List.length_append]; omega
theorem G3.cards {l : List (List Int × Int)} (h : G3 l) : (cardsP l).length ≤ 4398046511104 := by
  unfold cardsP
  refine flat_len_le (n := 2097152) (m := 2097152) (fun r hr => ?_) (by simpa using h.len)
  obtain ⟨p, hp, e⟩ := List.mem_map.1 hr
  rw [← e]; exact h.row p hp
theorem hasM_drop {l : List Int} {c : Int} {i : Nat} (hi : i < l.length) : hasM (l.drop i) c = (decide (l.getD i 0 = c) || hasM (l.drop (i + 1)) c) := by
  rw [getD_drop (d := 0) hi]
  unfold hasM
  rw [Bool.eq_iff_iff]
  simp only [List.mem_cons, decide_eq_true_eq, Bool.or_eq_true]
  exact or_congr eq_comm Iff.rfl
theorem spec_HasCard_ok (l : List Int) (c : Int) (h : l.length ≤ 17592186044416) : spec_HasCard l c = some (hasM l c) := by
  have h : ∀ i, i ≤ l.length → spec_HasCard_L2 l c i = some (hasM (l.drop i) c) := down (by
      rw [spec_HasCard_L2_eq]
      simp (disch := (first | omega | (simp only [List.length_append, List.length_cons, List.length_nil, List.length_take, List.length_drop, List.length_set, List.length_replicate, List.length_singleton]; omega))) only [↓if_dpos, ↓if_dneg, ↓if_epos, ↓if_eneg, ↓if_npos, ↓if_nneg, ↓if_pos, ↓if_neg, Int.toNat_natCast, List.nil_append, Nat.zero_add, List.length_singleton, Option.bind_some, List.drop_zero, List.take_length, if_true, if_false, ]
      simp [hasM]) fun i hi ih => by
    have hil : (i : Int) < (l.length : Int) := by omega
    have hw : IntKind.i64.wrap ((i : Int) + 1) = ((i + 1 : Nat) : Int) := wrap_succ hi (by omega)
    rw [spec_HasCard_L2_eq]
    simp (disch := (first | omega | (simp only [List.length_append, List.length_cons, List.length_nil, List.length_take, List.length_drop, List.length_set, List.length_replicate, List.length_singleton]; omega))) only [↓if_dpos, ↓if_dneg, ↓if_epos, ↓if_eneg, ↓if_npos, ↓if_nneg, ↓if_pos, ↓if_neg, hw, Int.toNat_natCast, List.nil_append, Nat.zero_add, List.length_singleton, Option.bind_some, List.drop_zero, List.take_length, if_true, if_false, ih]
    rw [hasM_drop hi]
    by_cases e : l.getD i 0 = c
    · rw [if_pos (by simpa using e), decide_eq_true e, Bool.true_or]
    · rw [if_neg (by simpa using e), decide_eq_false e, Bool.false_or]
  rw [spec_HasCard_eq]
  exact h 0 (Nat.zero_le _)
theorem spec_IsHand_ok (l : List Int) (h : l.length ≤ 17592186044416) : spec_IsHand l = some (handM l) := by
  have h : ∀ i, i ≤ l.length → spec_IsHand_L2 l i = some (handR (l.take i) (l.drop i)) := down (by
      rw [spec_IsHand_L2_eq]
      simp (disch := (first | omega | (simp only [List.length_append, List.length_cons, List.length_nil, List.length_take, List.length_drop, List.length_set, List.length_replicate, List.length_singleton]; omega))) only [↓if_dpos, ↓if_dneg, ↓if_epos, ↓if_eneg, ↓if_npos, ↓if_nneg, ↓if_pos, ↓if_neg, Int.toNat_natCast, List.nil_append, Nat.zero_add, List.length_singleton, Option.bind_some, List.drop_zero, List.take_length, if_true, if_false, ]
      rw [List.drop_of_length_le (Nat.le_refl _)]; rfl) fun i hi ih => by
    have e := spec_HasCard_ok (l.take i) (l.getD i 0) (by simp; omega)
    have hil : (i : Int) < (l.length : Int) := by omega
    have hw : IntKind.i64.wrap ((i : Int) + 1) = ((i + 1 : Nat) : Int) := wrap_succ hi (by omega)
    rw [spec_IsHand_L2_eq]
    simp (disch := (first | omega | (simp only [List.length_append, List.length_cons, List.length_nil, List.length_take, List.length_drop, List.length_set, List.length_replicate, List.length_singleton]; omega))) only [↓if_dpos, ↓if_dneg, ↓if_epos, ↓if_eneg, ↓if_npos, ↓if_nneg, ↓if_pos, ↓if_neg, hw, Int.toNat_natCast, List.nil_append, Nat.zero_add, List.length_singleton, Option.bind_some, List.drop_zero, List.take_length, if_true, if_false, ih, spec_IsCard_ok, e]
    rw [getD_drop (d := 0) hi, handR, ← take_succ_getD hi]
    cases isC (l.getD i 0) <;> cases hasM (l.take i) (l.getD i 0) <;> simp
  rw [spec_IsHand_eq, ← handR_nil]
  exact h 0 (Nat.zero_le _)
theorem impl_IsHand_ok (l : List Int) (h : l.length ≤ 17592186044416) : impl_IsHand l = some (handM l) := by
  have h : ∀ i, i ≤ l.length → ∀ s : List Bool, s.length = 52 → impl_IsHand_L3 l l.length i s = some (handS s (l.drop i)) := down (by
      intro s hs
      rw [impl_IsHand_L3_eq]
      simp (disch := (first | omega | (simp only [List.length_append, List.length_cons, List.length_nil, List.length_take, List.length_drop, List.length_set, List.length_replicate, List.length_singleton]; omega))) only [↓if_dpos, ↓if_dneg, ↓if_epos, ↓if_eneg, ↓if_npos, ↓if_nneg, ↓if_pos, ↓if_neg, Int.toNat_natCast, List.nil_append, Nat.zero_add, List.length_singleton, Option.bind_some, List.drop_zero, List.take_length, if_true, if_false, ]
      rw [List.drop_of_length_le (Nat.le_refl _)]; rfl) fun i hi ih s hs => by
    have hil : (i : Int) < (l.length : Int) := by omega
    have hw : IntKind.i64.wrap ((i : Int) + 1) = ((i + 1 : Nat) : Int) := wrap_succ hi (by omega)
    rw [impl_IsHand_L3_eq]
    simp (disch := (first | omega | (simp only [List.length_append, List.length_cons, List.length_nil, List.length_take, List.length_drop, List.length_set, List.length_replicate, List.length_singleton]; omega))) only [↓if_dpos, ↓if_dneg, ↓if_epos, ↓if_eneg, ↓if_npos, ↓if_nneg, ↓if_pos, ↓if_neg, hw, Int.toNat_natCast, List.nil_append, Nat.zero_add, List.length_singleton, Option.bind_some, List.drop_zero, List.take_length, if_true, if_false, impl_IsCard_ok]
    rw [getD_drop (d := 0) hi, handS]
    cases hc : isC (l.getD i 0)
    · rfl
    · obtain ⟨h1, h2⟩ := isC_iff.1 hc
      simp only [Bool.not_true, Bool.false_eq_true, if_false]
      simp (disch := (first | omega | (simp only [List.length_append, List.length_cons, List.length_nil, List.length_take, List.length_drop, List.length_set, List.length_replicate, List.length_singleton]; omega))) only [↓if_dpos, ↓if_dneg, ↓if_epos, ↓if_eneg, ↓if_npos, ↓if_nneg, ↓if_pos, ↓if_neg, Int.toNat_natCast, List.nil_append, Nat.zero_add, List.length_singleton, Option.bind_some, List.drop_zero, List.take_length, if_true, if_false]
      rw [ih _ (by simpa using hs)]
      cases s.getD (l.getD i 0).toNat false <;> rfl
  rw [impl_IsHand_eq, ← handS_nil]
  exact h 0 (Nat.zero_le _) _ (by simp)
theorem filter_take {l : List Int} {i : Nat} (p : Int → Bool) (hi : i < l.length) : (l.take (i + 1)).filter p = (l.take i).filter p ++ (if p (l.getD i 0) = true then [l.getD i 0] else []) := by
  rw [take_succ_getD (d := 0) hi, List.filter_append]
  congr 1
  rw [List.filter_cons]; rfl
theorem flen {l : List Int} {i : Nat} {p : Int → Bool} : ((l.take i).filter p).length ≤ l.length := Nat.le_trans (List.length_filter_le _ _) (by simp; omega)
def modM (p q : Int) : Int := if inR q 1 1000000000000 = true then (IntKind.i64.wrap (p.tmod q + q)).tmod q else 0
theorem modM_bound {p q : Int} (h1 : 1 ≤ q) (h2 : q ≤ 1000000000000) : 0 ≤ modM p q ∧ modM p q < q := by
  have hq : inR q 1 1000000000000 = true := by simp [inR, h1, h2]
  rw [modM, if_pos hq]
  have a1 := Int.lt_tmod_of_pos p (by omega : 0 < q)
  have a2 := Int.tmod_lt_of_pos p (by omega : 0 < q)
  rw [wrap_id (by omega) (by omega)]
  exact ⟨Int.tmod_nonneg _ (by omega), Int.tmod_lt_of_pos _ (by omega)⟩
def hashStep (d v : Int) : Int := (IntKind.i64.wrap (IntKind.i64.wrap (IntKind.i64.wrap (d * 1000003) + modM v 2147483647) + 13)).tmod 2147483647
def hashM (l : List Int) : Int := l.foldl hashStep 11
def shufM (seed : Int) : Nat → List Int → List Int
  | 0, r => r
  | i + 1, r => shufM seed i ((r.set (i + 1) (r.getD (modM (hashM [seed, ((i + 1 : Nat) : Int)]) ((i + 2 : Nat) : Int)).toNat 0)).set (modM (hashM [seed, ((i + 1 : Nat) : Int)]) ((i + 2 : Nat) : Int)).toNat (r.getD (i + 1) 0))
def shuffledM (l : List Int) (seed : Int) : List Int := shufM seed (l.length - 1) l
theorem shufM_length (seed : Int) : ∀ i r, (shufM seed i r).length = r.length := by
  intro i
  induction i with
  | zero => intro r; rfl
  | succ i ih => intro r; rw [shufM, ih]; simp
theorem swap_perm {r : List Int} {i j : Nat} (hi : i < r.length) (hj : j < r.length) : ((r.set i (r.getD j 0)).set j (r.getD i 0)).Perm r := by
  rw [List.getD_eq_getElem?_getD, List.getD_eq_getElem?_getD, List.getElem?_eq_getElem hi, List.getElem?_eq_getElem hj]
  exact List.set_set_perm hi hj
theorem shufM_perm (seed : Int) : ∀ i r, i < r.length → r.length ≤ 549755813888 → (shufM seed i r).Perm r := by
  intro i
  induction i with
  | zero => intro r _ _; exact List.Perm.refl _
  | succ i ih =>
    intro r hr hl
    obtain ⟨b1, b2⟩ := modM_bound (p := hashM [seed, ((i + 1 : Nat) : Int)]) (q := ((i + 2 : Nat) : Int)) (by omega) (by omega)
    rw [shufM]
    exact (ih _ (by simp; omega) (by simpa using hl)).trans (swap_perm (by omega) (by omega))
def rankM (c : Int) : Int := if isC c = true then c.tmod 13 else -1
def suitM (c : Int) : Int := if isC c = true then IntKind.i64.wrap (c.tdiv 13) else -1
theorem spec_RankOf_ok (c : Int) : spec_RankOf c = some (rankM c) := by
  rw [spec_RankOf_eq, spec_IsCard_ok, Option.bind_some, rankM]; cases isC c <;> rfl
theorem impl_RankOf_ok (c : Int) : impl_RankOf c = some (rankM c) := by
  rw [impl_RankOf_eq, impl_IsCard_ok, Option.bind_some, rankM]; cases isC c <;> rfl
theorem spec_SuitOf_ok (c : Int) : spec_SuitOf c = some (suitM c) := by
  rw [spec_SuitOf_eq, spec_IsCard_ok, Option.bind_some, suitM]; cases isC c <;> rfl
theorem impl_SuitOf_ok (c : Int) : impl_SuitOf c = some (suitM c) := by
  rw [impl_SuitOf_eq, impl_IsCard_ok, Option.bind_some, suitM]; cases isC c <;> rfl
def redM (c : Int) : Bool := inR (suitM c) 1 2
theorem spec_IsRed_ok (c : Int) : spec_IsRed c = some (redM c) := by rw [spec_IsRed_eq, spec_SuitOf_ok, Option.bind_some, spec_l1In_ok, Option.bind_some]; rfl
theorem impl_IsRed_ok (c : Int) : impl_IsRed c = some (redM c) := by
  rw [impl_IsRed_eq, impl_SuitOf_ok, Option.bind_some, redM, inR]
  by_cases h1 : suitM c = 1
  · rw [if_pos (by simpa using h1), h1]; rfl
  · rw [if_neg (by simpa using h1), Option.bind_some]
    by_cases h2 : suitM c = 2
    · rw [h2]; rfl
    · congr 1
      rw [Bool.eq_iff_iff]
      simp
      omega
theorem impl_AllApart_ok (l : List (List Int)) (hl : l.length ≤ 4194304) (hf : l.flatten.length ≤ 8796093022208) : impl_AllApart l = some (handM l.flatten) := by
  have h : ∀ i, i ≤ l.length → impl_AllApart_L3 l l.length i (l.take i).flatten = some (handM l.flatten) := down (by
      rw [impl_AllApart_L3_eq]
      simp (disch := (first | omega | (simp only [List.length_append, List.length_cons, List.length_nil, List.length_take, List.length_drop, List.length_set, List.length_replicate, List.length_singleton]; omega))) only [↓if_dpos, ↓if_dneg, ↓if_epos, ↓if_eneg, ↓if_npos, ↓if_nneg, ↓if_pos, ↓if_neg, Int.toNat_natCast, List.nil_append, Nat.zero_add, List.length_singleton, Option.bind_some, List.drop_zero, List.take_length, if_true, if_false, impl_IsHand_ok _ (by omega : l.flatten.length ≤ 17592186044416)]) fun i hi ih => by
    have h1 := flat_take_le l (i + 1)
    rw [flat_take hi, List.length_append] at h1
    have hil : (i : Int) < (l.length : Int) := by omega
    have hw : IntKind.i64.wrap ((i : Int) + 1) = ((i + 1 : Nat) : Int) := wrap_succ hi (by omega)
    rw [impl_AllApart_L3_eq]
    simp (disch := (first | omega | (simp only [List.length_append, List.length_cons, List.length_nil, List.length_take, List.length_drop, List.length_set, List.length_replicate, List.length_singleton]; omega))) only [↓if_dpos, ↓if_dneg, ↓if_epos, ↓if_eneg, ↓if_npos, ↓if_nneg, ↓if_pos, ↓if_neg, hw, Int.toNat_natCast, List.nil_append, Nat.zero_add, List.length_singleton, Option.bind_some, List.drop_zero, List.take_length, if_true, if_false, ]
    rw [← ih, flat_take hi]
  rw [impl_AllApart_eq]
  exact h 0 (Nat.zero_le _)
theorem impl_TotalCards_ok (l : List (List Int)) (hl : l.length ≤ 4194304) (hf : l.flatten.length ≤ 8796093022208) : impl_TotalCards l = some (l.flatten.length : Int) := by
  have h : ∀ i, i ≤ l.length → impl_TotalCards_L3 ((l.take i).flatten.length : Int) l l.length i = some (l.flatten.length : Int) := down (by
      rw [impl_TotalCards_L3_eq]
      simp (disch := (first | omega | (simp only [List.length_append, List.length_cons, List.length_nil, List.length_take, List.length_drop, List.length_set, List.length_replicate, List.length_singleton]; omega))) only [↓if_dpos, ↓if_dneg, ↓if_epos, ↓if_eneg, ↓if_npos, ↓if_nneg, ↓if_pos, ↓if_neg, Int.toNat_natCast, List.nil_append, Nat.zero_add, List.length_singleton, Option.bind_some, List.drop_zero, List.take_length, if_true, if_false, ]) fun i hi ih => by
    have h1 := flat_take_le l (i + 1)
    rw [flat_take hi, List.length_append] at h1
    have hw2 : IntKind.i64.wrap (((l.take i).flatten.length : Int) + ((l.getD i []).length : Int)) = ((l.take (i + 1)).flatten.length : Int) := by
      rw [wrap_id (by omega) (by omega), flat_take hi, List.length_append]; omega
    have hil : (i : Int) < (l.length : Int) := by omega
    have hw : IntKind.i64.wrap ((i : Int) + 1) = ((i + 1 : Nat) : Int) := wrap_succ hi (by omega)
    rw [impl_TotalCards_L3_eq]
    simp (disch := (first | omega | (simp only [List.length_append, List.length_cons, List.length_nil, List.length_take, List.length_drop, List.length_set, List.length_replicate, List.length_singleton]; omega))) only [↓if_dpos, ↓if_dneg, ↓if_epos, ↓if_eneg, ↓if_npos, ↓if_nneg, ↓if_pos, ↓if_neg, hw, Int.toNat_natCast, List.nil_append, Nat.zero_add, List.length_singleton, Option.bind_some, List.drop_zero, List.take_length, if_true, if_false, hw2]
    exact ih
  rw [impl_TotalCards_eq]
  exact h 0 (Nat.zero_le _)
def wholeL (all : List Int) : Bool := decide (all.length = 52) && handM all
theorem wholeL_perm {a b : List Int} (h : a.Perm b) : wholeL a = wholeL b := by rw [wholeL, wholeL, h.length_eq, handM_perm h]
theorem impl_isWhole_ok (l : List (List Int)) (hl : l.length ≤ 4194304) (hf : l.flatten.length ≤ 8796093022208) : impl_isWhole l = some (wholeL l.flatten) := by
  rw [impl_isWhole_eq, impl_AllApart_ok l hl hf, Option.bind_some, impl_TotalCards_ok l hl hf, wholeL, Bool.and_comm]
  cases handM l.flatten
  · rfl
  · simp only [Option.bind_some, if_true, Bool.true_and]
    congr 1
    rw [Bool.eq_iff_iff]; simp; omega
theorem impl_allIn_ok (l : List Int) (lo hi' : Int) (hl : l.length ≤ 4398046511104) : impl_allIn l lo hi' = some (l.all (fun x => inR x lo hi')) := by
  have h : ∀ i, i ≤ l.length → impl_allIn_L2 lo hi' l l.length i = some ((l.drop i).all (fun x => inR x lo hi')) := down (by
      rw [impl_allIn_L2_eq]
      simp (disch := (first | omega | (simp only [List.length_append, List.length_cons, List.length_nil, List.length_take, List.length_drop, List.length_set, List.length_replicate, List.length_singleton]; omega))) only [↓if_dpos, ↓if_dneg, ↓if_epos, ↓if_eneg, ↓if_npos, ↓if_nneg, ↓if_pos, ↓if_neg, Int.toNat_natCast, List.nil_append, Nat.zero_add, List.length_singleton, Option.bind_some, List.drop_zero, List.take_length, if_true, if_false, ]
      rw [List.drop_of_length_le (Nat.le_refl _), List.all_nil]) fun i hi ih => by
    have hil : (i : Int) < (l.length : Int) := by omega
    have hw : IntKind.i64.wrap ((i : Int) + 1) = ((i + 1 : Nat) : Int) := wrap_succ hi (by omega)
    rw [impl_allIn_L2_eq]
    simp (disch := (first | omega | (simp only [List.length_append, List.length_cons, List.length_nil, List.length_take, List.length_drop, List.length_set, List.length_replicate, List.length_singleton]; omega))) only [↓if_dpos, ↓if_dneg, ↓if_epos, ↓if_eneg, ↓if_npos, ↓if_nneg, ↓if_pos, ↓if_neg, hw, Int.toNat_natCast, List.nil_append, Nat.zero_add, List.length_singleton, Option.bind_some, List.drop_zero, List.take_length, if_true, if_false, impl_InRange_ok, ih]
    rw [getD_drop (d := 0) hi, List.all_cons]
    cases inR (l.getD i 0) lo hi' <;> rfl
  rw [impl_allIn_eq]
  exact h 0 (Nat.zero_le _)
theorem impl_sum_ok (l : List Int) (hl : l.length ≤ 4398046511104) : impl_sum l = some (sumW l) := by
  have h : ∀ i, i ≤ l.length → impl_sum_L3 (sumW (l.take i)) l l.length i = some (sumW l) := down (by
      rw [impl_sum_L3_eq]
      simp (disch := (first | omega | (simp only [List.length_append, List.length_cons, List.length_nil, List.length_take, List.length_drop, List.length_set, List.length_replicate, List.length_singleton]; omega))) only [↓if_dpos, ↓if_dneg, ↓if_epos, ↓if_eneg, ↓if_npos, ↓if_nneg, ↓if_pos, ↓if_neg, Int.toNat_natCast, List.nil_append, Nat.zero_add, List.length_singleton, Option.bind_some, List.drop_zero, List.take_length, if_true, if_false, ]) fun i hi ih => by
    have hil : (i : Int) < (l.length : Int) := by omega
    have hw : IntKind.i64.wrap ((i : Int) + 1) = ((i + 1 : Nat) : Int) := wrap_succ hi (by omega)
    rw [impl_sum_L3_eq]
    simp (disch := (first | omega | (simp only [List.length_append, List.length_cons, List.length_nil, List.length_take, List.length_drop, List.length_set, List.length_replicate, List.length_singleton]; omega))) only [↓if_dpos, ↓if_dneg, ↓if_epos, ↓if_eneg, ↓if_npos, ↓if_nneg, ↓if_pos, ↓if_neg, hw, Int.toNat_natCast, List.nil_append, Nat.zero_add, List.length_singleton, Option.bind_some, List.drop_zero, List.take_length, if_true, if_false, ]
    rw [← ih]
    unfold sumW
    rw [foldl_take (d := 0) hi]
  rw [impl_sum_eq]
  exact h 0 (Nat.zero_le _)
end Go.Proofs.YthppocflbgnjlaaDoor.V
