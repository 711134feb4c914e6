/- Plain laws over the shapes. -/
import Derived.Test.YtenojifdoofcfaaPMoves
import Derived.Test.YtenojifdoofcfaaFMovePile
import Derived.Test.YtenojifdoofcfaaFMoveWaste
import Derived.Test.YtenojifdoofcfaaFNewPatience
import Derived.Test.YtenojifdoofcfaaFStacked
import Derived.Test.YtenojifdoofcfaaS1
import Derived.Test.YtenojifdoofcfaaS2
import Derived.Test.YtenojifdoofcfaaS3
import Derived.Test.YtenojifdoofcfaaS4
import Derived.Test.YtenojifdoofcfaaS5
import Derived.Test.YtenojifdoofcfaaS6
import Derived.Test.YtenojifdoofcfaaS7
set_option linter.unusedVariables false
set_option linter.unusedSimpArgs false
set_option maxRecDepth 10000
namespace Go.Proofs.Ytenojifdoofcfaa.V
open Go
/-- It has an answer, and one of these. -/
def Tot {α : Type} (x : Option α) (Q : α → Prop) : Prop := ∃ r, x = some r ∧ Q r
theorem Tot.bind {α β : Type} {x : Option α} {k : α → Option β} {Q : α → Prop} {Q' : β → Prop} (h : Tot x Q) (hk : ∀ r, Q r → Tot (k r) Q') : Tot (x.bind k) Q' := by
  obtain ⟨r, rfl, hr⟩ := h
  exact hk r hr
theorem Tot.mono {α : Type} {x : Option α} {Q Q' : α → Prop} (h : Tot x Q) (hk : ∀ r, Q r → Q' r) : Tot x Q' := by
  obtain ⟨r, e, hr⟩ := h
  exact ⟨r, e, hk r hr⟩
theorem Tot.ret {α : Type} {r : α} {Q : α → Prop} (h : Q r) : Tot (some r) Q := ⟨r, rfl, h⟩
theorem Tot.guard {α : Type} {p : Prop} [Decidable p] {x : Option α} {Q : α → Prop} (h : p) (hx : Tot x Q) : Tot (if p then x else none) Q := by rw [if_pos h]; exact hx
theorem Tot.nguard {α : Type} {p : Prop} [Decidable p] {x : Option α} {Q : α → Prop} (h : ¬ p) (hx : Tot x Q) : Tot (if p then none else x) Q := by rw [if_neg h]; exact hx
theorem Tot.ite {α : Type} {p : Prop} [Decidable p] {x y : Option α} {Q : α → Prop} (hx : p → Tot x Q) (hy : ¬ p → Tot y Q) : Tot (if p then x else y) Q := by
  by_cases h : p
  · rw [if_pos h]; exact hx h
  · rw [if_neg h]; exact hy h
theorem Tot.dite {α : Type} {p : Prop} [Decidable p] {x y : Option α} {Q : α → Prop} (hx : p → Tot x Q) (hy : ¬ p → Tot y Q) : Tot (if decide p = true then x else y) Q := by
  by_cases h : p
  · rw [if_dpos h]; exact hx h
  · rw [if_dneg h]; exact hy h
theorem Tot.of {α : Type} {x : Option α} {r : α} {Q : α → Prop} (e : x = some r) (h : Q r) : Tot x Q := ⟨r, e, h⟩
theorem Tot.eq {α : Type} {x : Option α} {r : α} (e : x = some r) : Tot x (fun s => s = r) := ⟨r, e, rfl⟩
/-- A cursor. -/
def Cur (c : List Int × Int × Int) : Prop := 0 ≤ c.2.1 ∧ c.1.length ≤ 1048576
theorem l1New_tot {a : List Int} (ha : a.length ≤ 1048576) : Tot (spec_l1New a) Cur := by
  have key : ∀ i, i ≤ a.length → ∀ h : Int, Tot (spec_l1New_L3 a h (i : Int)) Cur := down (by
      intro h
      rw [spec_l1New_L3_eq, if_dneg (by omega)]
      exact Tot.ret ⟨Int.le_refl _, ha⟩) fun i hi ih h => by
    rw [spec_l1New_L3_eq, if_dpos (by omega)]
    refine Tot.dite (fun _ => ?_) fun _ => Tot.ret ⟨Int.le_refl _, ha⟩
    rw [if_pos (by omega), if_pos (by omega), wrap_succ hi (by omega)]
    exact ih _
  rw [spec_l1New_eq]
  exact key 0 (Nat.zero_le _) _
theorem and_255 (x : BitVec IntKind.i64.bits) : 0 ≤ IntKind.i64.wrap ((x &&& BitVec.ofInt IntKind.i64.bits 255).toNat : Int) ∧ IntKind.i64.wrap ((x &&& BitVec.ofInt IntKind.i64.bits 255).toNat : Int) ≤ 255 := by
  have h : (x &&& BitVec.ofInt IntKind.i64.bits 255).toNat ≤ 255 := by
    rw [BitVec.toNat_and]
    exact Nat.le_trans Nat.and_le_right (by decide)
  rw [wrap_id (by omega) (by omega)]
  omega
theorem l1Byte_tot {c : List Int × Int × Int} (hc : Cur c) : Tot (spec_l1Byte c) (fun r => Cur r.2 ∧ 0 ≤ r.1 ∧ r.1 ≤ 255) := by
  obtain ⟨h1, h2⟩ := hc
  rw [spec_l1Byte_eq]
  refine Tot.dite (fun h => ?_) fun h => ?_
  · refine Tot.guard h1 (Tot.guard h (Tot.ret ⟨⟨?_, h2⟩, and_255 _⟩))
    show 0 ≤ IntKind.i64.wrap (c.2.1 + 1)
    rw [wrap_id (by omega) (by omega)]; omega
  · exact Tot.ret ⟨⟨h1, h2⟩, and_255 _⟩
def Below (n : Int) (x : Int) : Prop := 0 ≤ x ∧ (0 < n → x < n) ∧ (n ≤ 0 → x = 0)
theorem tmod_below {x n : Int} (hx : 0 ≤ x) (hn : 0 < n) : Below n (x.tmod n) := by
  rw [Below, Int.tmod_eq_emod_of_nonneg hx]
  have := Int.emod_nonneg x (by omega : n ≠ 0)
  have := Int.emod_lt_of_pos x hn
  omega
theorem l1Below_tot {c : List Int × Int × Int} (hc : Cur c) (n : Int) : Tot (spec_l1Below c n) (fun r => Cur r.2 ∧ Below n r.1) := by
  rw [spec_l1Below_eq]
  refine Tot.dite (fun h => Tot.ret ⟨hc, Int.le_refl _, fun h' => by omega, fun _ => rfl⟩) fun h => Tot.dite (fun h' => ?_) fun h' => ?_
  · refine Tot.bind (l1Byte_tot hc) fun r ⟨hr, h1, h2⟩ => Tot.nguard (by omega) (Tot.ret ⟨hr, tmod_below h1 (by omega)⟩)
  · refine Tot.bind (l1Byte_tot hc) fun r ⟨hr, h1, h2⟩ => Tot.bind (l1Byte_tot hr) fun s ⟨hs, g1, g2⟩ => Tot.bind (l1Byte_tot hs) fun t ⟨ht, k1, k2⟩ => Tot.nguard (by omega) (Tot.ret ⟨ht, tmod_below ?_ (by omega)⟩)
    rw [wrap_id (x := r.1 * 65536) (by omega) (by omega), wrap_id (x := s.1 * 256) (by omega) (by omega), wrap_id (x := r.1 * 65536 + s.1 * 256) (by omega) (by omega), wrap_id (by omega) (by omega)]
    omega
theorem l1Once_tot {c : List Int × Int × Int} (hc : Cur c) (n : Int) : Tot (spec_l1Once c n) (fun r => Cur r.2) := by
  rw [spec_l1Once_eq]
  exact Tot.bind (l1Below_tot hc n) fun r hr => Tot.ret hr.1
theorem l1Int_tot {c : List Int × Int × Int} (hc : Cur c) {l : List Int} (hl : 0 < l.length) : Tot (spec_l1Int c l) (fun r => Cur r.2 ∧ r.1 ∈ l) := by
  rw [spec_l1Int_eq]
  refine Tot.bind (l1Below_tot hc _) fun r ⟨hr, h1, h2, h3⟩ => ?_
  have := h2 (by omega)
  exact Tot.guard h1 (Tot.guard this (Tot.ret ⟨hr, getD_mem (by omega)⟩))
theorem l4Card_tot {c : List Int × Int × Int} (hc : Cur c) : Tot (spec_l4Card c) (fun r => Cur r.2) := by
  rw [spec_l4Card_eq]
  refine Tot.bind (l1Below_tot hc _) fun r ⟨hr, _⟩ => Tot.bind (l1Below_tot hr _) fun s ⟨hs, _⟩ => Tot.bind (l1Below_tot hs _) fun t ⟨ht, _⟩ => Tot.bind (l1Int_tot ht (Nat.zero_lt_succ _)) fun u ⟨hu, _⟩ => Tot.ret hu
theorem pigeon : ∀ {l r : List Int}, l.Nodup → (∀ c ∈ l, c ∈ r) → l.length ≤ r.length
  | [], _, _, _ => Nat.zero_le _
  | a :: l, r, hn, h => by
    obtain ⟨h1, h2⟩ := List.nodup_cons.1 hn
    have ha := h a List.mem_cons_self
    have := pigeon h2 (r := r.erase a) fun c hc => (List.mem_erase_of_ne (fun e => h1 (by rw [← e]; exact hc))).2 (h c (List.mem_cons_of_mem _ hc))
    rw [List.length_erase_of_mem ha] at this
    have := List.length_pos_of_mem ha
    simp only [List.length_cons]; omega
theorem seven_nodup : ∀ x : Nat, x < 52 → ((List.range 52).map fun (k : Nat) => ((x : Int) + 7 * (k : Int)) % 52).Nodup := by decide +kernel
/-- The cards are taken one after the other, each the seventh behind, until one is free. -/
theorem seven_free (r : List Int) (h : r.length < 52) (x : Int) (hx : 0 ≤ x ∧ x < 52) : ∃ k : Nat, k < 52 ∧ hasM r ((x + 7 * (k : Int)) % 52) = false := by
  obtain ⟨y, rfl⟩ : ∃ y : Nat, x = (y : Int) := ⟨x.toNat, by omega⟩
  apply Classical.byContradiction
  intro hn
  have hall : ∀ k : Nat, k < 52 → ((y : Int) + 7 * (k : Int)) % 52 ∈ r := fun k hk => by
    cases e : hasM r (((y : Int) + 7 * (k : Int)) % 52) with
    | false => exact absurd ⟨k, hk, e⟩ hn
    | true => simpa [hasM] using e
  have := pigeon (seven_nodup y (by omega)) (r := r) fun c hc => by
    obtain ⟨k, hk, rfl⟩ := List.mem_map.1 hc
    exact hall k (List.mem_range.1 hk)
  rw [List.length_map, List.length_range] at this
  omega
theorem l5Some_tot {c : List Int × Int × Int} (hc : Cur c) (n : Int) (hn : n ≤ 52) : Tot (spec_l5Some c n) (fun r => Cur r.2 ∧ (r.1.length : Int) = max 0 n) := by
  rw [spec_l5Some_eq]
  have key : ∀ d i : Nat, ∀ (b0 : List Int) (b1 b2 : Int) (r : List Int), Cur (b0, b1, b2) → r.length = i → max 0 n - (i : Int) = (d : Int) → Tot (spec_l5Some_L3 n (i : Int) b0 b1 b2 r) (fun r => Cur r.2 ∧ (r.1.length : Int) = max 0 n) := by
    intro d
    induction d with
    | zero =>
      intro i b0 b1 b2 r hb hr hd
      rw [spec_l5Some_L3_eq, if_dneg (by omega)]
      exact Tot.ret ⟨hb, by show (r.length : Int) = _; omega⟩
    | succ d ih =>
      intro i b0 b1 b2 r hb hr hd
      rw [spec_l5Some_L3_eq, if_dpos (by omega)]
      refine Tot.bind (l1Below_tot hb _) fun s ⟨hs, s1, s2, _⟩ => ?_
      have s2 := s2 (by decide)
      obtain ⟨k, hk, hf⟩ := seven_free r (by omega) s.1 ⟨s1, s2⟩
      have inner : ∀ k : Nat, ∀ x : Int, 0 ≤ x → x < 52 → hasM r ((x + 7 * (k : Int)) % 52) = false → Tot (spec_l5Some_L6 n (i : Int) x s.2.1 s.2.2.1 s.2.2.2 r) (fun r => Cur r.2 ∧ (r.1.length : Int) = max 0 n) := by
        intro k
        induction k with
        | zero =>
          intro x h1 h2 h3
          rw [spec_l5Some_L6_eq, spec_HasCard_ok _ _ (by omega), Option.bind_some]
          have e : (x + 7 * ((0 : Nat) : Int)) % 52 = x := by omega
          rw [e] at h3
          rw [h3, if_neg (by decide), if_pos (by rw [List.length_singleton]; omega), wrap_id (by omega) (by omega)]
          have := ih (i + 1) s.2.1 s.2.2.1 s.2.2.2 (r ++ [x]) hs (by rw [List.length_append, List.length_singleton]; omega) (by omega)
          rw [show ((i + 1 : Nat) : Int) = (i : Int) + 1 by omega] at this
          exact this
        | succ k ih2 =>
          intro x h1 h2 h3
          rw [spec_l5Some_L6_eq, spec_HasCard_ok _ _ (by omega), Option.bind_some]
          cases hx : hasM r x with
          | false =>
            rw [if_neg (by decide), if_pos (by rw [List.length_singleton]; omega), wrap_id (by omega) (by omega)]
            have := ih (i + 1) s.2.1 s.2.2.1 s.2.2.2 (r ++ [x]) hs (by rw [List.length_append, List.length_singleton]; omega) (by omega)
            rw [show ((i + 1 : Nat) : Int) = (i : Int) + 1 by omega] at this
            exact this
          | true =>
            rw [if_pos rfl, wrap_id (by omega) (by omega), Int.tmod_eq_emod_of_nonneg (by omega)]
            exact ih2 _ (by omega) (by omega) (by rw [← h3]; congr 1; omega)
      exact inner k s.1 s1 s2 hf
  exact key (max 0 n).toNat 0 _ _ _ [] hc rfl (by omega)
theorem l16Next_tot {c : List Int × Int × Int} (hc : Cur c) (k : Int) : Tot (spec_l16Next c k) (fun r => Cur r.2) := by
  rw [spec_l16Next_eq, spec_RankOf_ok, Option.bind_some]
  refine Tot.dite (fun _ => Tot.bind (l1Below_tot hc _) fun r hr => Tot.ret hr.1) fun _ => ?_
  rw [spec_IsRed_ok, Option.bind_some]
  refine Tot.ite (fun _ => ?_) fun _ => ?_
  · exact Tot.bind (l1Int_tot hc (Nat.zero_lt_succ _)) fun r hr => Tot.ret hr.1
  · exact Tot.bind (l1Int_tot hc (Nat.zero_lt_succ _)) fun r hr => Tot.ret hr.1
/-- A drawn pile. -/
def DP (r : List Int × Int × List Int × Int × Int) : Prop := Cur r.2.2 ∧ r.1.length ≤ 1000
theorem l16Draw_tot {c : List Int × Int × Int} (hc : Cur c) : Tot (spec_l16Draw c) DP := by
  rw [spec_l16Draw_eq]
  refine Tot.bind (l1Below_tot hc _) fun r ⟨hr, r1, r2, _⟩ => ?_
  have r2 := r2 (by decide)
  rw [wrap_id (by omega) (by omega)]
  refine Tot.bind (l5Some_tot hr _ (by omega)) fun s ⟨hs, s1⟩ => Tot.bind (l1Below_tot hs _) fun t ⟨ht, t1, t2, _⟩ => ?_
  have t2 := t2 (by decide)
  have key : ∀ i : Nat, i ≤ 4 → ∀ (b0 : List Int) (b1 b2 x h : Int) (l : List Int), Cur (b0, b1, b2) → l.length + i ≤ 100 → Tot (spec_l16Draw_L4 (i : Int) b0 b1 b2 x h l) DP := by
    intro i
    induction i with
    | zero =>
      intro _ b0 b1 b2 x h l hb hl
      rw [spec_l16Draw_L4_eq, if_dneg (by omega)]
      refine Tot.bind (l1Below_tot hb _) fun u ⟨hu, _⟩ => Tot.ite (fun _ => ?_) fun _ => Tot.ite (fun _ => ?_) fun _ => Tot.ite (fun _ => ?_) fun _ => Tot.ite (fun _ => ?_) fun _ => ?_
      · exact Tot.bind (l1Int_tot hu (Nat.zero_lt_succ _)) fun v hv => Tot.ret ⟨hv.1, by show l.length ≤ _; omega⟩
      · exact Tot.bind (l4Card_tot hu) fun v hv => Tot.guard (by rw [List.length_singleton]; omega) (Tot.ret ⟨hv, by show (l ++ [_]).length ≤ _; rw [List.length_append, List.length_singleton]; omega⟩)
      · exact Tot.ret ⟨hu, Nat.zero_le _⟩
      · exact Tot.ret ⟨hu, by show l.length ≤ _; omega⟩
      · exact Tot.ret ⟨hu, by show l.length ≤ _; omega⟩
    | succ i ih =>
      intro hi b0 b1 b2 x h l hb hl
      rw [spec_l16Draw_L4_eq, if_dpos (by omega), spec_TopOf_ok _ _ (by omega), Option.bind_some]
      refine Tot.bind (l16Next_tot hb _) fun u hu => ?_
      rw [spec_Stacked_ok _ _ _ (by omega) (by rw [List.length_singleton]; omega), Option.bind_some, wrap_id (by omega) (by omega), show ((i + 1 : Nat) : Int) - 1 = (i : Int) by omega]
      refine ih (by omega) _ _ _ _ _ _ hu ?_
      have := stackR_length l h [u.1] l
      rw [List.length_singleton] at this
      unfold stackM
      omega
  have := key t.1.toNat (by omega) t.2.1 t.2.2.1 t.2.2.2 0 (IntKind.i64.wrap ((s.1.length : Int) - 1)) s.1 ht (by omega)
  rw [show ((t.1.toNat : Nat) : Int) = t.1 by omega] at this
  exact this
theorem DrawLifted_tot {a : List Int} (ha : a.length ≤ 1048576) : Tot (spec_DrawLifted a) (fun r => r.1.length ≤ 1000) := by
  rw [spec_DrawLifted_eq]
  exact Tot.bind (l1New_tot ha) fun c hc => Tot.bind (l16Draw_tot hc) fun p hp => Tot.bind (l1Below_tot hp.1 _) fun r _ => Tot.ret hp.2
theorem DrawMayStack_tot {a : List Int} (ha : a.length ≤ 1048576) : Tot (spec_DrawMayStack a) (fun r => r.1.length ≤ 1000) := by
  rw [spec_DrawMayStack_eq]
  refine Tot.bind (l1New_tot ha) fun c hc => Tot.bind (l16Draw_tot hc) fun p hp => Tot.ite (fun _ => ?_) fun _ => Tot.bind (l1Once_tot hp.1 _) fun o ho => Tot.ite (fun _ => ?_) fun _ => ?_
  · exact Tot.bind (l4Card_tot hp.1) fun r hr => Tot.bind (l1Int_tot hr (Nat.zero_lt_succ _)) fun _ _ => Tot.ret hp.2
  · exact Tot.bind (l4Card_tot ho) fun r hr => Tot.bind (l1Int_tot hr (Nat.zero_lt_succ _)) fun _ _ => Tot.ret hp.2
  · have := hp.2
    rw [spec_TopOf_ok _ _ (by omega), Option.bind_some]
    exact Tot.bind (l16Next_tot ho _) fun _ _ => Tot.ret hp.2
theorem DrawStacked_tot {a : List Int} (ha : a.length ≤ 1048576) : Tot (spec_DrawStacked a) (fun r => r.1.length ≤ 1000 ∧ 0 < r.2.2.length ∧ r.2.2.length ≤ 2) := by
  rw [spec_DrawStacked_eq]
  refine Tot.bind (DrawMayStack_tot ha) fun p hp => Tot.bind (l1New_tot ha) fun c hc => Tot.bind (l16Next_tot hc _) fun u hu => Tot.bind (l1Below_tot hu _) fun v ⟨_, v1, v2, _⟩ => ?_
  have v2 := v2 (by decide)
  rw [wrap_id (by omega) (by omega)]
  refine Tot.guard (by omega) (Tot.guard (by show (1 + v.1 : Int) ≤ ((2 : Nat) : Int); omega) (Tot.ret ⟨hp, ?_⟩))
  show 0 < (List.drop 0 (List.take _ [_, _])).length ∧ (List.drop 0 (List.take _ [_, _])).length ≤ 2
  rw [List.drop_zero, List.length_take, List.length_cons, List.length_singleton]
  omega
/-- What a game's own cards are few. -/
structure PH (ps : List (List Int × Int)) (b st wa : List Int) : Prop where
  p : G3 ps
  b : b.length ≤ 1000000
  s : st.length ≤ 1000000
  w : wa.length ≤ 1000000
theorem patM_ph (ps : List (List Int × Int)) (b st wa : List Int) (h : patM ps b st wa = true) : PH ps b st wa := by
  obtain ⟨h1, h2, h3, h4⟩ := patM_size ps b st wa h
  refine ⟨⟨by omega, fun r hr => ?_⟩, by rw [baseM_len h3]; omega, by omega, by omega⟩
  obtain ⟨i, hi, rfl⟩ := List.mem_iff_getElem.1 hr
  have := pile_le ps i
  rw [List.getD_eq_getElem?_getD, List.getElem?_eq_getElem hi] at this
  have : ps[i].1.length ≤ (cardsP ps).length := this
  omega
theorem shuffledM_perm {l : List Int} (seed : Int) (hl : l.length ≤ 1000) : (shuffledM l seed).Perm l := by
  unfold shuffledM
  by_cases e : l.length = 0
  · have : l = [] := List.length_eq_zero_iff.1 e
    subst this
    have := shufM_length seed 0 []
    have : shufM seed 0 [] = [] := List.length_eq_zero_iff.1 this
    show (shufM seed 0 []).Perm []
    rw [this]
  · exact shufM_perm seed _ _ (by omega) (by omega)
def DG (r : List (List Int × Int) × List Int × List Int × List Int × List Int × Int × Int) : Prop := Cur r.2.2.2.2 ∧ patM r.1 r.2.1 r.2.2.1 r.2.2.2.1 = true
def DGE (r : List (List Int × Int) × List Int × List Int × List Int × List Int × Int × Int) : Prop := Cur r.2.2.2.2 ∧ PH r.1 r.2.1 r.2.2.1 r.2.2.2.1
theorem newPM_ok {deck : List Int} {n : Int} (h1 : handM deck = true) (h2 : deck.length = 52) (h3 : 1 ≤ n) (h4 : n ≤ 7) : (newPM deck n).2.2.2.2 = true := by
  rw [newPM, h1, decide_eq_true h2, show inR n 1 7 = true by simp [inR]; omega]; rfl
theorem full_ex : ∃ D : List Int, spec_FullDeck = some D ∧ D.length = 52 ∧ handM D = true := ⟨_, spec_FullDeck_ok, cards52_length 52, full_hand⟩
theorem shuffled_ex {D : List Int} (h1 : D.length = 52) (h2 : handM D = true) (s : Int) : ∃ E : List Int, spec_Shuffled D s = some E ∧ E.length = 52 ∧ handM E = true := by
  have hp := shuffledM_perm s (l := D) (by omega)
  exact ⟨_, spec_Shuffled_ok _ _ (by omega), by rw [hp.length_eq]; exact h1, by rw [handM_perm hp]; exact h2⟩
theorem newPat_ex {D : List Int} (h1 : D.length = 52) (h2 : handM D = true) {n : Int} (h3 : 1 ≤ n) (h4 : n ≤ 7) : ∃ r, spec_NewPatience D n = some r ∧ patM r.1 r.2.1 r.2.2.1 r.2.2.2.1 = true :=
  ⟨_, spec_NewPatience_ok _ _ (by omega), (newPM_pat (newPM_ok h2 h1 h3 h4)).1⟩
theorem l18Start_tot {c : List Int × Int × Int} (hc : Cur c) : Tot (spec_l18Start c) DG := by
  obtain ⟨D, e1, d1, d2⟩ := full_ex
  rw [spec_l18Start_eq, e1, Option.bind_some]
  refine Tot.bind (l1Once_tot hc _) fun r hr => Tot.ite (fun _ => ?_) fun _ => ?_
  · refine Tot.bind (l1Below_tot hr _) fun s ⟨hs, _⟩ => ?_
    obtain ⟨E, e2, k1, k2⟩ := shuffled_ex d1 d2 s.1
    rw [e2, Option.bind_some]
    refine Tot.bind (l1Below_tot hs _) fun t ⟨ht, t1, t2, _⟩ => ?_
    have t2 := t2 (by decide)
    obtain ⟨g, e3, g1⟩ := newPat_ex k1 k2 (n := 1 + t.1) (by omega) (by omega)
    rw [wrap_id (by omega) (by omega), e3, Option.bind_some]
    exact Tot.ret ⟨ht, g1⟩
  · refine Tot.bind (l1Below_tot hr _) fun t ⟨ht, t1, t2, _⟩ => ?_
    have t2 := t2 (by decide)
    obtain ⟨g, e3, g1⟩ := newPat_ex d1 d2 (n := 1 + t.1) (by omega) (by omega)
    rw [wrap_id (by omega) (by omega), e3, Option.bind_some]
    exact Tot.ret ⟨ht, g1⟩
theorem l18Step_tot {c : List Int × Int × Int} (hc : Cur c) (ps : List (List Int × Int)) (b st wa : List Int) (h : patM ps b st wa = true) : Tot (spec_l18Step c ps b st wa) DG := by
  obtain ⟨q1, q2, q3, q4⟩ := patM_ph ps b st wa h
  have turn : ∀ {c : List Int × Int × Int}, Cur c → Tot ((spec_Turn ps b st wa).bind fun c10 => some (c10.1, c10.2.1, c10.2.2.1, c10.2.2.2.1, c.1, c.2.1, c.2.2)) DG := fun hc => by
    rw [spec_Turn_ok ps b st wa q1 (by omega) (by omega) (by omega), Option.bind_some]
    exact Tot.ret ⟨hc, turnM_pat ps b st wa h⟩
  have waste : ∀ {c : List Int × Int × Int} (t : Int), Cur c → Tot ((spec_MoveWaste ps b st wa t).bind fun c10 => some (c10.1, c10.2.1, c10.2.2.1, c10.2.2.2.1, c.1, c.2.1, c.2.2)) DG := fun t hc => by
    rw [spec_MoveWaste_ok ps b st wa t q1 (by omega) (by omega) (by omega), Option.bind_some]
    exact Tot.ret ⟨hc, moveWasteM_pat ps b st wa t h⟩
  rw [spec_l18Step_eq]
  refine Tot.bind (l1Below_tot hc _) fun r ⟨hr, _⟩ => Tot.ite (fun _ => ?_) fun _ => Tot.ite (fun _ => ?_) fun _ => Tot.ite (fun _ => Tot.ite (fun _ => ?_) fun _ => turn hr) fun _ => Tot.ite (fun _ => ?_) fun _ => turn hr
  · refine Tot.bind (l1Below_tot hr _) fun s ⟨hs, _⟩ => Tot.bind (l1Below_tot hs _) fun t ⟨ht, _⟩ => Tot.bind (l1Below_tot ht _) fun u ⟨hu, _⟩ => ?_
    rw [spec_MovePile_ok ps b st wa _ _ _ q1 (by omega) (by omega) (by omega), Option.bind_some]
    exact Tot.ret ⟨hu, movePileM_pat ps b st wa _ _ _ h⟩
  · refine Tot.bind (l1Below_tot hr _) fun s ⟨hs, _⟩ => ?_
    rw [spec_MoveUp_ok ps b st wa _ q1 (by omega) (by omega) (by omega), Option.bind_some]
    exact Tot.ret ⟨hs, (moveUpM_pat ps b st wa _ h).1⟩
  · exact Tot.bind (l1Below_tot hr _) fun s ⟨hs, _⟩ => waste _ hs
  · exact Tot.bind (l1Below_tot hr _) fun s ⟨hs, _⟩ => waste _ hs
theorem l17Any_tot {c : List Int × Int × Int} (hc : Cur c) : Tot (spec_l17Any c) (fun r => Cur r.2 ∧ r.1.length ≤ 1000) := by
  rw [spec_l17Any_eq]
  have key : ∀ i : Nat, i ≤ 4 → ∀ (b0 : List Int) (b1 b2 : Int) (r : List Int), Cur (b0, b1, b2) → r.length = i → Tot (spec_l17Any_L3 (i : Int) b0 b1 b2 r) (fun r => Cur r.2 ∧ r.1.length ≤ 1000) := down (by
      intro b0 b1 b2 r hb hr
      rw [spec_l17Any_L3_eq, if_dneg (by omega)]
      refine Tot.bind (l1Below_tot hb _) fun s ⟨hs, _⟩ => Tot.ite (fun _ => ?_) fun _ => Tot.ite (fun _ => ?_) fun _ => Tot.ite (fun _ => ?_) fun _ => ?_
      · exact Tot.bind (l1Int_tot hs (Nat.zero_lt_succ _)) fun t ht => Tot.guard (by omega) (Tot.ret ⟨ht.1, by show (r.set 0 _).length ≤ _; rw [List.length_set]; omega⟩)
      · exact Tot.guard (by omega) (Tot.ret ⟨hs, by show ((r.take _).drop 1).length ≤ _; rw [List.length_drop, List.length_take]; omega⟩)
      · exact Tot.ret ⟨hs, by show 4 ≤ 1000; omega⟩
      · exact Tot.ret ⟨hs, by show r.length ≤ _; omega⟩) fun i hi ih b0 b1 b2 r hb hr => by
    rw [spec_l17Any_L3_eq, if_dpos (by omega)]
    refine Tot.bind (l1Below_tot hb _) fun s ⟨hs, _⟩ => Tot.guard (by rw [List.length_singleton]; omega) ?_
    rw [wrap_succ (n := 4) hi (by omega)]
    exact ih _ _ _ _ hs (by rw [List.length_append, List.length_singleton]; omega)
  exact key 0 (by omega) _ _ _ [] hc rfl
theorem l18Draw_tot {c : List Int × Int × Int} (hc : Cur c) : Tot (spec_l18Draw c) DGE := by
  rw [spec_l18Draw_eq]
  refine Tot.bind (l18Start_tot hc) fun g ⟨hg, gp⟩ => Tot.bind (l1Below_tot hg _) fun t ⟨ht, t1, t2, _⟩ => ?_
  have t2 := t2 (by decide)
  have key : ∀ i : Nat, i ≤ 20 → ∀ (b0 : List Int) (b1 b2 : Int) (ps : List (List Int × Int)) (b st wa : List Int), Cur (b0, b1, b2) → patM ps b st wa = true → Tot (spec_l18Draw_L3 (i : Int) b0 b1 b2 ps b st wa) DGE := by
    intro i
    induction i with
    | zero =>
      intro _ b0 b1 b2 ps b st wa hb hp
      obtain ⟨q1, q2, q3, q4⟩ := patM_ph ps b st wa hp
      obtain ⟨z1, z2, _⟩ := (patM_iff ps b st wa).1 hp
      rw [spec_l18Draw_L3_eq, if_dneg (by omega)]
      have hst : st.length ≤ 52 := by have := patM_size ps b st wa hp; omega
      refine Tot.bind (l1Below_tot hb _) fun s ⟨hs, _⟩ => Tot.ite (fun _ => ?_) fun _ => Tot.ite (fun _ => ?_) fun _ => Tot.ite (fun _ => ?_) fun _ => Tot.ite (fun _ => ?_) fun _ => ?_
      · exact Tot.bind (l4Card_tot hs) fun u hu => Tot.guard (by rw [List.length_singleton]; omega) (Tot.ret ⟨hu, q1, q2, by show (st ++ [_]).length ≤ _; rw [List.length_append, List.length_singleton]; omega, q4⟩)
      · exact Tot.bind (l17Any_tot hs) fun u hu => Tot.ret ⟨hu.1, q1, by show u.1.length ≤ _; have := hu.2; omega, q3, q4⟩
      · exact Tot.guard (by omega) (Tot.guard (by omega) (Tot.ret ⟨hs, q1.set q1.at', q2, q3, q4⟩))
      · have h13 : PH [([], 0)] [13, 13, 13, 13] [] [] := ⟨⟨by decide, fun r hr => by rw [List.mem_singleton.1 hr]; exact Nat.zero_le _⟩, by decide, by decide, by decide⟩
        exact Tot.ret ⟨hs, h13⟩
      · exact Tot.ret ⟨hs, q1, q2, q3, q4⟩
    | succ i ih =>
      intro hi b0 b1 b2 ps b st wa hb hp
      rw [spec_l18Draw_L3_eq, if_dpos (by omega)]
      refine Tot.bind (l18Step_tot hb ps b st wa hp) fun s ⟨hs, sp⟩ => ?_
      rw [wrap_id (by omega) (by omega), show ((i + 1 : Nat) : Int) - 1 = (i : Int) by omega]
      exact ih (by omega) _ _ _ _ _ _ _ hs sp
  have := key t.1.toNat (by omega) t.2.1 t.2.2.1 t.2.2.2 g.1 g.2.1 g.2.2.1 g.2.2.2.1 ht gp
  rw [show ((t.1.toNat : Nat) : Int) = t.1 by omega] at this
  exact this
theorem DrawIsPatience_tot {a : List Int} (ha : a.length ≤ 1048576) : Tot (spec_DrawIsPatience a) (fun r => PH r.1 r.2.1 r.2.2.1 r.2.2.2) := by
  rw [spec_DrawIsPatience_eq]
  exact Tot.bind (l1New_tot ha) fun c hc => Tot.bind (l18Draw_tot hc) fun p hp => Tot.ret hp.2
theorem DrawTurn_tot {a : List Int} (ha : a.length ≤ 1048576) : Tot (spec_DrawTurn a) (fun r => PH r.1 r.2.1 r.2.2.1 r.2.2.2) := by
  rw [spec_DrawTurn_eq]
  exact Tot.bind (DrawIsPatience_tot ha) fun p hp => Tot.ret hp
theorem DrawIsWon_tot {a : List Int} (ha : a.length ≤ 1048576) : Tot (spec_DrawIsWon a) (fun r => PH r.1 r.2.1 r.2.2.1 r.2.2.2) := by
  rw [spec_DrawIsWon_eq]
  exact Tot.bind (DrawIsPatience_tot ha) fun p hp => Tot.ret hp
theorem DrawMovePile_tot {a : List Int} (ha : a.length ≤ 1048576) : Tot (spec_DrawMovePile a) (fun r => PH r.1 r.2.1 r.2.2.1 r.2.2.2.1) := by
  rw [spec_DrawMovePile_eq]
  exact Tot.bind (l1New_tot ha) fun c hc => Tot.bind (l18Draw_tot hc) fun p hp => Tot.bind (l1Below_tot hp.1 _) fun r hr => Tot.bind (l1Below_tot hr.1 _) fun s hs => Tot.bind (l1Below_tot hs.1 _) fun t _ => Tot.ret hp.2
theorem DrawMoveWaste_tot {a : List Int} (ha : a.length ≤ 1048576) : Tot (spec_DrawMoveWaste a) (fun r => PH r.1 r.2.1 r.2.2.1 r.2.2.2.1) := by
  rw [spec_DrawMoveWaste_eq]
  exact Tot.bind (l1New_tot ha) fun c hc => Tot.bind (l18Draw_tot hc) fun p hp => Tot.bind (l1Below_tot hp.1 _) fun r _ => Tot.ret hp.2
theorem DrawMoveUp_tot {a : List Int} (ha : a.length ≤ 1048576) : Tot (spec_DrawMoveUp a) (fun r => PH r.1 r.2.1 r.2.2.1 r.2.2.2.1) := by
  rw [spec_DrawMoveUp_eq]
  exact Tot.bind (DrawMoveWaste_tot ha) fun p hp => Tot.ret hp
theorem DrawNewPatience_tot {a : List Int} (ha : a.length ≤ 1048576) : Tot (spec_DrawNewPatience a) (fun r => r.1.length ≤ 1000) := by
  obtain ⟨D, e1, d1, d2⟩ := full_ex
  rw [spec_DrawNewPatience_eq]
  refine Tot.bind (l1New_tot ha) fun c hc => ?_
  rw [e1, Option.bind_some]
  refine Tot.bind (l1Below_tot hc _) fun s ⟨hs, _⟩ => ?_
  obtain ⟨E, e2, k1, k2⟩ := shuffled_ex d1 d2 s.1
  rw [e2, Option.bind_some]
  refine Tot.bind (l1Once_tot hs _) fun t ht => Tot.ite (fun _ => Tot.guard (by omega) ?_) fun _ => ?_
  · exact Tot.bind (l1Below_tot ht _) fun u _ => Tot.ret (by show ((List.take _ _).drop 1).length ≤ 1000; rw [List.length_drop, List.length_take]; omega)
  · exact Tot.bind (l1Below_tot ht _) fun u _ => Tot.ret (by show E.length ≤ 1000; omega)
end Go.Proofs.Ytenojifdoofcfaa.V
