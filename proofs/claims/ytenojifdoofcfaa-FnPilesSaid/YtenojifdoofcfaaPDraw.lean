/- Plain laws over the shapes. -/
import Derived.Test.YtenojifdoofcfaaP1
import Derived.Test.YtenojifdoofcfaaS1
set_option linter.unusedVariables false
set_option linter.unusedSimpArgs false
set_option maxRecDepth 10000
namespace Go.Proofs.Ytenojifdoofcfaa.V
open Go
/-- It has an answer, and one of these. -/
def Tot {α : Type} (x : Option α) (Q : α → Prop) : Prop := ∃ r, x = some r ∧ Q r
theorem Tot.bind {α β : Type} {x : Option α} {k : α → Option β} {Q : α → Prop} {Q' : β → Prop} (h : Tot x Q) (hk : ∀ r, Q r → Tot (k r) Q') : Tot (x.bind k) Q' := by
  obtain ⟨r, rfl, hr⟩ := h
  exact hk r hr
theorem Tot.mono {α : Type} {x : Option α} {Q Q' : α → Prop} (h : Tot x Q) (hk : ∀ r, Q r → Q' r) : Tot x Q' := by
  obtain ⟨r, e, hr⟩ := h
  exact ⟨r, e, hk r hr⟩
theorem Tot.ret {α : Type} {r : α} {Q : α → Prop} (h : Q r) : Tot (some r) Q := ⟨r, rfl, h⟩
theorem Tot.guard {α : Type} {p : Prop} [Decidable p] {x : Option α} {Q : α → Prop} (h : p) (hx : Tot x Q) : Tot (if p then x else none) Q := by rw [if_pos h]; exact hx
theorem Tot.nguard {α : Type} {p : Prop} [Decidable p] {x : Option α} {Q : α → Prop} (h : ¬ p) (hx : Tot x Q) : Tot (if p then none else x) Q := by rw [if_neg h]; exact hx
theorem Tot.ite {α : Type} {p : Prop} [Decidable p] {x y : Option α} {Q : α → Prop} (hx : p → Tot x Q) (hy : ¬ p → Tot y Q) : Tot (if p then x else y) Q := by
  by_cases h : p
  · rw [if_pos h]; exact hx h
  · rw [if_neg h]; exact hy h
theorem Tot.dite {α : Type} {p : Prop} [Decidable p] {x y : Option α} {Q : α → Prop} (hx : p → Tot x Q) (hy : ¬ p → Tot y Q) : Tot (if decide p = true then x else y) Q := by
  by_cases h : p
  · rw [if_dpos h]; exact hx h
  · rw [if_dneg h]; exact hy h
theorem Tot.of {α : Type} {x : Option α} {r : α} {Q : α → Prop} (e : x = some r) (h : Q r) : Tot x Q := ⟨r, e, h⟩
theorem Tot.eq {α : Type} {x : Option α} {r : α} (e : x = some r) : Tot x (fun s => s = r) := ⟨r, e, rfl⟩
/-- A cursor. -/
def Cur (c : List Int × Int × Int) : Prop := 0 ≤ c.2.1 ∧ c.1.length ≤ 1048576
theorem l1New_tot {a : List Int} (ha : a.length ≤ 1048576) : Tot (spec_l1New a) Cur := by
  have key : ∀ i, i ≤ a.length → ∀ h : Int, Tot (spec_l1New_L3 a h (i : Int)) Cur := down (by
      intro h
      rw [spec_l1New_L3_eq, if_dneg (by omega)]
      exact Tot.ret ⟨Int.le_refl _, ha⟩) fun i hi ih h => by
    rw [spec_l1New_L3_eq, if_dpos (by omega)]
    refine Tot.dite (fun _ => ?_) fun _ => Tot.ret ⟨Int.le_refl _, ha⟩
    rw [if_pos (by omega), if_pos (by omega), wrap_succ hi (by omega)]
    exact ih _
  rw [spec_l1New_eq]
  exact key 0 (Nat.zero_le _) _
theorem and_255 (x : BitVec IntKind.i64.bits) : 0 ≤ IntKind.i64.wrap ((x &&& BitVec.ofInt IntKind.i64.bits 255).toNat : Int) ∧ IntKind.i64.wrap ((x &&& BitVec.ofInt IntKind.i64.bits 255).toNat : Int) ≤ 255 := by
  have h : (x &&& BitVec.ofInt IntKind.i64.bits 255).toNat ≤ 255 := by
    rw [BitVec.toNat_and]
    exact Nat.le_trans Nat.and_le_right (by decide)
  rw [wrap_id (by omega) (by omega)]
  omega
theorem l1Byte_tot {c : List Int × Int × Int} (hc : Cur c) : Tot (spec_l1Byte c) (fun r => Cur r.2 ∧ 0 ≤ r.1 ∧ r.1 ≤ 255) := by
  obtain ⟨h1, h2⟩ := hc
  rw [spec_l1Byte_eq]
  refine Tot.dite (fun h => ?_) fun h => ?_
  · refine Tot.guard h1 (Tot.guard h (Tot.ret ⟨⟨?_, h2⟩, and_255 _⟩))
    show 0 ≤ IntKind.i64.wrap (c.2.1 + 1)
    rw [wrap_id (by omega) (by omega)]; omega
  · exact Tot.ret ⟨⟨h1, h2⟩, and_255 _⟩
def Below (n : Int) (x : Int) : Prop := 0 ≤ x ∧ (0 < n → x < n) ∧ (n ≤ 0 → x = 0)
theorem tmod_below {x n : Int} (hx : 0 ≤ x) (hn : 0 < n) : Below n (x.tmod n) := by
  rw [Below, Int.tmod_eq_emod_of_nonneg hx]
  have := Int.emod_nonneg x (by omega : n ≠ 0)
  have := Int.emod_lt_of_pos x hn
  omega
theorem l1Below_tot {c : List Int × Int × Int} (hc : Cur c) (n : Int) : Tot (spec_l1Below c n) (fun r => Cur r.2 ∧ Below n r.1) := by
  rw [spec_l1Below_eq]
  refine Tot.dite (fun h => Tot.ret ⟨hc, Int.le_refl _, fun h' => by omega, fun _ => rfl⟩) fun h => Tot.dite (fun h' => ?_) fun h' => ?_
  · refine Tot.bind (l1Byte_tot hc) fun r ⟨hr, h1, h2⟩ => Tot.nguard (by omega) (Tot.ret ⟨hr, tmod_below h1 (by omega)⟩)
  · refine Tot.bind (l1Byte_tot hc) fun r ⟨hr, h1, h2⟩ => Tot.bind (l1Byte_tot hr) fun s ⟨hs, g1, g2⟩ => Tot.bind (l1Byte_tot hs) fun t ⟨ht, k1, k2⟩ => Tot.nguard (by omega) (Tot.ret ⟨ht, tmod_below ?_ (by omega)⟩)
    rw [wrap_id (x := r.1 * 65536) (by omega) (by omega), wrap_id (x := s.1 * 256) (by omega) (by omega), wrap_id (x := r.1 * 65536 + s.1 * 256) (by omega) (by omega), wrap_id (by omega) (by omega)]
    omega
theorem l1Once_tot {c : List Int × Int × Int} (hc : Cur c) (n : Int) : Tot (spec_l1Once c n) (fun r => Cur r.2) := by
  rw [spec_l1Once_eq]
  exact Tot.bind (l1Below_tot hc n) fun r hr => Tot.ret hr.1
theorem l1Int_tot {c : List Int × Int × Int} (hc : Cur c) {l : List Int} (hl : 0 < l.length) : Tot (spec_l1Int c l) (fun r => Cur r.2 ∧ r.1 ∈ l) := by
  rw [spec_l1Int_eq]
  refine Tot.bind (l1Below_tot hc _) fun r ⟨hr, h1, h2, h3⟩ => ?_
  have := h2 (by omega)
  exact Tot.guard h1 (Tot.guard this (Tot.ret ⟨hr, getD_mem (by omega)⟩))
theorem l4Card_tot {c : List Int × Int × Int} (hc : Cur c) : Tot (spec_l4Card c) (fun r => Cur r.2) := by
  rw [spec_l4Card_eq]
  refine Tot.bind (l1Below_tot hc _) fun r ⟨hr, _⟩ => Tot.bind (l1Below_tot hr _) fun s ⟨hs, _⟩ => Tot.bind (l1Below_tot hs _) fun t ⟨ht, _⟩ => Tot.bind (l1Int_tot ht (Nat.zero_lt_succ _)) fun u ⟨hu, _⟩ => Tot.ret hu
theorem pigeon : ∀ {l r : List Int}, l.Nodup → (∀ c ∈ l, c ∈ r) → l.length ≤ r.length
  | [], _, _, _ => Nat.zero_le _
  | a :: l, r, hn, h => by
    obtain ⟨h1, h2⟩ := List.nodup_cons.1 hn
    have ha := h a List.mem_cons_self
    have := pigeon h2 (r := r.erase a) fun c hc => (List.mem_erase_of_ne (fun e => h1 (by rw [← e]; exact hc))).2 (h c (List.mem_cons_of_mem _ hc))
    rw [List.length_erase_of_mem ha] at this
    have := List.length_pos_of_mem ha
    simp only [List.length_cons]; omega
theorem seven_nodup : ∀ x : Nat, x < 52 → ((List.range 52).map fun (k : Nat) => ((x : Int) + 7 * (k : Int)) % 52).Nodup := by decide +kernel
/-- The cards are taken one after the other, each the seventh behind, until one is free. -/
theorem seven_free (r : List Int) (h : r.length < 52) (x : Int) (hx : 0 ≤ x ∧ x < 52) : ∃ k : Nat, k < 52 ∧ hasM r ((x + 7 * (k : Int)) % 52) = false := by
  obtain ⟨y, rfl⟩ : ∃ y : Nat, x = (y : Int) := ⟨x.toNat, by omega⟩
  apply Classical.byContradiction
  intro hn
  have hall : ∀ k : Nat, k < 52 → ((y : Int) + 7 * (k : Int)) % 52 ∈ r := fun k hk => by
    cases e : hasM r (((y : Int) + 7 * (k : Int)) % 52) with
    | false => exact absurd ⟨k, hk, e⟩ hn
    | true => simpa [hasM] using e
  have := pigeon (seven_nodup y (by omega)) (r := r) fun c hc => by
    obtain ⟨k, hk, rfl⟩ := List.mem_map.1 hc
    exact hall k (List.mem_range.1 hk)
  rw [List.length_map, List.length_range] at this
  omega
theorem l5Some_tot {c : List Int × Int × Int} (hc : Cur c) (n : Int) (hn : n ≤ 52) : Tot (spec_l5Some c n) (fun r => Cur r.2 ∧ (r.1.length : Int) = max 0 n) := by
  rw [spec_l5Some_eq]
  have key : ∀ d i : Nat, ∀ (b0 : List Int) (b1 b2 : Int) (r : List Int), Cur (b0, b1, b2) → r.length = i → max 0 n - (i : Int) = (d : Int) → Tot (spec_l5Some_L3 n (i : Int) b0 b1 b2 r) (fun r => Cur r.2 ∧ (r.1.length : Int) = max 0 n) := by
    intro d
    induction d with
    | zero =>
      intro i b0 b1 b2 r hb hr hd
      rw [spec_l5Some_L3_eq, if_dneg (by omega)]
      exact Tot.ret ⟨hb, by show (r.length : Int) = _; omega⟩
    | succ d ih =>
      intro i b0 b1 b2 r hb hr hd
      rw [spec_l5Some_L3_eq, if_dpos (by omega)]
      refine Tot.bind (l1Below_tot hb _) fun s ⟨hs, s1, s2, _⟩ => ?_
      have s2 := s2 (by decide)
      obtain ⟨k, hk, hf⟩ := seven_free r (by omega) s.1 ⟨s1, s2⟩
      have inner : ∀ k : Nat, ∀ x : Int, 0 ≤ x → x < 52 → hasM r ((x + 7 * (k : Int)) % 52) = false → Tot (spec_l5Some_L6 n (i : Int) x s.2.1 s.2.2.1 s.2.2.2 r) (fun r => Cur r.2 ∧ (r.1.length : Int) = max 0 n) := by
        intro k
        induction k with
        | zero =>
          intro x h1 h2 h3
          rw [spec_l5Some_L6_eq, spec_HasCard_ok _ _ (by omega), Option.bind_some]
          have e : (x + 7 * ((0 : Nat) : Int)) % 52 = x := by omega
          rw [e] at h3
          rw [h3, if_neg (by decide), if_pos (by rw [List.length_singleton]; omega), wrap_id (by omega) (by omega)]
          have := ih (i + 1) s.2.1 s.2.2.1 s.2.2.2 (r ++ [x]) hs (by rw [List.length_append, List.length_singleton]; omega) (by omega)
          rw [show ((i + 1 : Nat) : Int) = (i : Int) + 1 by omega] at this
          exact this
        | succ k ih2 =>
          intro x h1 h2 h3
          rw [spec_l5Some_L6_eq, spec_HasCard_ok _ _ (by omega), Option.bind_some]
          cases hx : hasM r x with
          | false =>
            rw [if_neg (by decide), if_pos (by rw [List.length_singleton]; omega), wrap_id (by omega) (by omega)]
            have := ih (i + 1) s.2.1 s.2.2.1 s.2.2.2 (r ++ [x]) hs (by rw [List.length_append, List.length_singleton]; omega) (by omega)
            rw [show ((i + 1 : Nat) : Int) = (i : Int) + 1 by omega] at this
            exact this
          | true =>
            rw [if_pos rfl, wrap_id (by omega) (by omega), Int.tmod_eq_emod_of_nonneg (by omega)]
            exact ih2 _ (by omega) (by omega) (by rw [← h3]; congr 1; omega)
      exact inner k s.1 s1 s2 hf
  exact key (max 0 n).toNat 0 _ _ _ [] hc rfl (by omega)
end Go.Proofs.Ytenojifdoofcfaa.V
