/- Plain laws over the shapes. -/
import Derived.Test.YtoioaijpdiglfaaPDe
import Derived.Test.YtoioaijpdiglfaaFIsDeal
import Derived.Test.YtoioaijpdiglfaaFMayPlay
import Derived.Test.YtoioaijpdiglfaaFNewDeal
import Derived.Test.YtoioaijpdiglfaaFPlayCard
import Derived.Test.YtoioaijpdiglfaaFl12Draw
import Derived.Test.YtoioaijpdiglfaaS1
import Derived.Test.YtoioaijpdiglfaaS2
import Derived.Test.YtoioaijpdiglfaaS3
import Derived.Test.YtoioaijpdiglfaaS4
import Derived.Test.YtoioaijpdiglfaaS5
import Derived.Test.YtoioaijpdiglfaaS6
set_option linter.unusedVariables false
set_option linter.unusedSimpArgs false
set_option maxRecDepth 10000
namespace Go.Proofs.Ytoioaijpdiglfaa.V
open Go
/-- It has an answer, and one of these. -/
def Tot {α : Type} (x : Option α) (Q : α → Prop) : Prop := ∃ r, x = some r ∧ Q r
theorem Tot.bind {α β : Type} {x : Option α} {k : α → Option β} {Q : α → Prop} {Q' : β → Prop} (h : Tot x Q) (hk : ∀ r, Q r → Tot (k r) Q') : Tot (x.bind k) Q' := by
  obtain ⟨r, rfl, hr⟩ := h
  exact hk r hr
theorem Tot.mono {α : Type} {x : Option α} {Q Q' : α → Prop} (h : Tot x Q) (hk : ∀ r, Q r → Q' r) : Tot x Q' := by
  obtain ⟨r, e, hr⟩ := h
  exact ⟨r, e, hk r hr⟩
theorem Tot.ret {α : Type} {r : α} {Q : α → Prop} (h : Q r) : Tot (some r) Q := ⟨r, rfl, h⟩
theorem Tot.guard {α : Type} {p : Prop} [Decidable p] {x : Option α} {Q : α → Prop} (h : p) (hx : Tot x Q) : Tot (if p then x else none) Q := by rw [if_pos h]; exact hx
theorem Tot.nguard {α : Type} {p : Prop} [Decidable p] {x : Option α} {Q : α → Prop} (h : ¬ p) (hx : Tot x Q) : Tot (if p then none else x) Q := by rw [if_neg h]; exact hx
theorem Tot.ite {α : Type} {p : Prop} [Decidable p] {x y : Option α} {Q : α → Prop} (hx : p → Tot x Q) (hy : ¬ p → Tot y Q) : Tot (if p then x else y) Q := by
  by_cases h : p
  · rw [if_pos h]; exact hx h
  · rw [if_neg h]; exact hy h
theorem Tot.dite {α : Type} {p : Prop} [Decidable p] {x y : Option α} {Q : α → Prop} (hx : p → Tot x Q) (hy : ¬ p → Tot y Q) : Tot (if decide p = true then x else y) Q := by
  by_cases h : p
  · rw [if_dpos h]; exact hx h
  · rw [if_dneg h]; exact hy h
theorem Tot.of {α : Type} {x : Option α} {r : α} {Q : α → Prop} (e : x = some r) (h : Q r) : Tot x Q := ⟨r, e, h⟩
theorem Tot.eq {α : Type} {x : Option α} {r : α} (e : x = some r) : Tot x (fun s => s = r) := ⟨r, e, rfl⟩
/-- A cursor. -/
def Cur (c : List Int × Int × Int) : Prop := 0 ≤ c.2.1 ∧ c.1.length ≤ 1048576
theorem l1New_tot {a : List Int} (ha : a.length ≤ 1048576) : Tot (spec_l1New a) Cur := by
  have key : ∀ i, i ≤ a.length → ∀ h : Int, Tot (spec_l1New_L3 a h (i : Int)) Cur := down (by
      intro h
      rw [spec_l1New_L3_eq, if_dneg (by omega)]
      exact Tot.ret ⟨Int.le_refl _, ha⟩) fun i hi ih h => by
    rw [spec_l1New_L3_eq, if_dpos (by omega)]
    refine Tot.dite (fun _ => ?_) fun _ => Tot.ret ⟨Int.le_refl _, ha⟩
    rw [if_pos (by omega), if_pos (by omega), wrap_succ hi (by omega)]
    exact ih _
  rw [spec_l1New_eq]
  exact key 0 (Nat.zero_le _) _
theorem and_255 (x : BitVec IntKind.i64.bits) : 0 ≤ IntKind.i64.wrap ((x &&& BitVec.ofInt IntKind.i64.bits 255).toNat : Int) ∧ IntKind.i64.wrap ((x &&& BitVec.ofInt IntKind.i64.bits 255).toNat : Int) ≤ 255 := by
  have h : (x &&& BitVec.ofInt IntKind.i64.bits 255).toNat ≤ 255 := by
    rw [BitVec.toNat_and]
    exact Nat.le_trans Nat.and_le_right (by decide)
  rw [wrap_id (by omega) (by omega)]
  omega
theorem l1Byte_tot {c : List Int × Int × Int} (hc : Cur c) : Tot (spec_l1Byte c) (fun r => Cur r.2 ∧ 0 ≤ r.1 ∧ r.1 ≤ 255) := by
  obtain ⟨h1, h2⟩ := hc
  rw [spec_l1Byte_eq]
  refine Tot.dite (fun h => ?_) fun h => ?_
  · refine Tot.guard h1 (Tot.guard h (Tot.ret ⟨⟨?_, h2⟩, and_255 _⟩))
    show 0 ≤ IntKind.i64.wrap (c.2.1 + 1)
    rw [wrap_id (by omega) (by omega)]; omega
  · exact Tot.ret ⟨⟨h1, h2⟩, and_255 _⟩
def Below (n : Int) (x : Int) : Prop := 0 ≤ x ∧ (0 < n → x < n) ∧ (n ≤ 0 → x = 0)
theorem tmod_below {x n : Int} (hx : 0 ≤ x) (hn : 0 < n) : Below n (x.tmod n) := by
  rw [Below, Int.tmod_eq_emod_of_nonneg hx]
  have := Int.emod_nonneg x (by omega : n ≠ 0)
  have := Int.emod_lt_of_pos x hn
  omega
theorem l1Below_tot {c : List Int × Int × Int} (hc : Cur c) (n : Int) : Tot (spec_l1Below c n) (fun r => Cur r.2 ∧ Below n r.1) := by
  rw [spec_l1Below_eq]
  refine Tot.dite (fun h => Tot.ret ⟨hc, Int.le_refl _, fun h' => by omega, fun _ => rfl⟩) fun h => Tot.dite (fun h' => ?_) fun h' => ?_
  · refine Tot.bind (l1Byte_tot hc) fun r ⟨hr, h1, h2⟩ => Tot.nguard (by omega) (Tot.ret ⟨hr, tmod_below h1 (by omega)⟩)
  · refine Tot.bind (l1Byte_tot hc) fun r ⟨hr, h1, h2⟩ => Tot.bind (l1Byte_tot hr) fun s ⟨hs, g1, g2⟩ => Tot.bind (l1Byte_tot hs) fun t ⟨ht, k1, k2⟩ => Tot.nguard (by omega) (Tot.ret ⟨ht, tmod_below ?_ (by omega)⟩)
    rw [wrap_id (x := r.1 * 65536) (by omega) (by omega), wrap_id (x := s.1 * 256) (by omega) (by omega), wrap_id (x := r.1 * 65536 + s.1 * 256) (by omega) (by omega), wrap_id (by omega) (by omega)]
    omega
theorem l1Once_tot {c : List Int × Int × Int} (hc : Cur c) (n : Int) : Tot (spec_l1Once c n) (fun r => Cur r.2) := by
  rw [spec_l1Once_eq]
  exact Tot.bind (l1Below_tot hc n) fun r hr => Tot.ret hr.1
theorem l1Int_tot {c : List Int × Int × Int} (hc : Cur c) {l : List Int} (hl : 0 < l.length) : Tot (spec_l1Int c l) (fun r => Cur r.2 ∧ r.1 ∈ l) := by
  rw [spec_l1Int_eq]
  refine Tot.bind (l1Below_tot hc _) fun r ⟨hr, h1, h2, h3⟩ => ?_
  have := h2 (by omega)
  exact Tot.guard h1 (Tot.guard this (Tot.ret ⟨hr, getD_mem (by omega)⟩))
theorem l4Card_tot {c : List Int × Int × Int} (hc : Cur c) : Tot (spec_l4Card c) (fun r => Cur r.2) := by
  rw [spec_l4Card_eq]
  refine Tot.bind (l1Below_tot hc _) fun r ⟨hr, _⟩ => Tot.bind (l1Below_tot hr _) fun s ⟨hs, _⟩ => Tot.bind (l1Below_tot hs _) fun t ⟨ht, _⟩ => Tot.bind (l1Int_tot ht (Nat.zero_lt_succ _)) fun u ⟨hu, _⟩ => Tot.ret hu
theorem pigeon : ∀ {l r : List Int}, l.Nodup → (∀ c ∈ l, c ∈ r) → l.length ≤ r.length
  | [], _, _, _ => Nat.zero_le _
  | a :: l, r, hn, h => by
    obtain ⟨h1, h2⟩ := List.nodup_cons.1 hn
    have ha := h a List.mem_cons_self
    have := pigeon h2 (r := r.erase a) fun c hc => (List.mem_erase_of_ne (fun e => h1 (by rw [← e]; exact hc))).2 (h c (List.mem_cons_of_mem _ hc))
    rw [List.length_erase_of_mem ha] at this
    have := List.length_pos_of_mem ha
    simp only [List.length_cons]; omega
theorem seven_nodup : ∀ x : Nat, x < 52 → ((List.range 52).map fun (k : Nat) => ((x : Int) + 7 * (k : Int)) % 52).Nodup := by decide +kernel
/-- The cards are taken one after the other, each the seventh behind, until one is free. -/
theorem seven_free (r : List Int) (h : r.length < 52) (x : Int) (hx : 0 ≤ x ∧ x < 52) : ∃ k : Nat, k < 52 ∧ hasM r ((x + 7 * (k : Int)) % 52) = false := by
  obtain ⟨y, rfl⟩ : ∃ y : Nat, x = (y : Int) := ⟨x.toNat, by omega⟩
  apply Classical.byContradiction
  intro hn
  have hall : ∀ k : Nat, k < 52 → ((y : Int) + 7 * (k : Int)) % 52 ∈ r := fun k hk => by
    cases e : hasM r (((y : Int) + 7 * (k : Int)) % 52) with
    | false => exact absurd ⟨k, hk, e⟩ hn
    | true => simpa [hasM] using e
  have := pigeon (seven_nodup y (by omega)) (r := r) fun c hc => by
    obtain ⟨k, hk, rfl⟩ := List.mem_map.1 hc
    exact hall k (List.mem_range.1 hk)
  rw [List.length_map, List.length_range] at this
  omega
theorem l5Some_tot {c : List Int × Int × Int} (hc : Cur c) (n : Int) (hn : n ≤ 52) : Tot (spec_l5Some c n) (fun r => Cur r.2 ∧ (r.1.length : Int) = max 0 n) := by
  rw [spec_l5Some_eq]
  have key : ∀ d i : Nat, ∀ (b0 : List Int) (b1 b2 : Int) (r : List Int), Cur (b0, b1, b2) → r.length = i → max 0 n - (i : Int) = (d : Int) → Tot (spec_l5Some_L3 n (i : Int) b0 b1 b2 r) (fun r => Cur r.2 ∧ (r.1.length : Int) = max 0 n) := by
    intro d
    induction d with
    | zero =>
      intro i b0 b1 b2 r hb hr hd
      rw [spec_l5Some_L3_eq, if_dneg (by omega)]
      exact Tot.ret ⟨hb, by show (r.length : Int) = _; omega⟩
    | succ d ih =>
      intro i b0 b1 b2 r hb hr hd
      rw [spec_l5Some_L3_eq, if_dpos (by omega)]
      refine Tot.bind (l1Below_tot hb _) fun s ⟨hs, s1, s2, _⟩ => ?_
      have s2 := s2 (by decide)
      obtain ⟨k, hk, hf⟩ := seven_free r (by omega) s.1 ⟨s1, s2⟩
      have inner : ∀ k : Nat, ∀ x : Int, 0 ≤ x → x < 52 → hasM r ((x + 7 * (k : Int)) % 52) = false → Tot (spec_l5Some_L6 n (i : Int) x s.2.1 s.2.2.1 s.2.2.2 r) (fun r => Cur r.2 ∧ (r.1.length : Int) = max 0 n) := by
        intro k
        induction k with
        | zero =>
          intro x h1 h2 h3
          rw [spec_l5Some_L6_eq, spec_HasCard_ok _ _ (by omega), Option.bind_some]
          have e : (x + 7 * ((0 : Nat) : Int)) % 52 = x := by omega
          rw [e] at h3
          rw [h3, if_neg (by decide), if_pos (by rw [List.length_singleton]; omega), wrap_id (by omega) (by omega)]
          have := ih (i + 1) s.2.1 s.2.2.1 s.2.2.2 (r ++ [x]) hs (by rw [List.length_append, List.length_singleton]; omega) (by omega)
          rw [show ((i + 1 : Nat) : Int) = (i : Int) + 1 by omega] at this
          exact this
        | succ k ih2 =>
          intro x h1 h2 h3
          rw [spec_l5Some_L6_eq, spec_HasCard_ok _ _ (by omega), Option.bind_some]
          cases hx : hasM r x with
          | false =>
            rw [if_neg (by decide), if_pos (by rw [List.length_singleton]; omega), wrap_id (by omega) (by omega)]
            have := ih (i + 1) s.2.1 s.2.2.1 s.2.2.2 (r ++ [x]) hs (by rw [List.length_append, List.length_singleton]; omega) (by omega)
            rw [show ((i + 1 : Nat) : Int) = (i : Int) + 1 by omega] at this
            exact this
          | true =>
            rw [if_pos rfl, wrap_id (by omega) (by omega), Int.tmod_eq_emod_of_nonneg (by omega)]
            exact ih2 _ (by omega) (by omega) (by rw [← h3]; congr 1; omega)
      exact inner k s.1 s1 s2 hf
  exact key (max 0 n).toNat 0 _ _ _ [] hc rfl (by omega)
def cards52 (n : Nat) : List Int := (List.range n).map fun (i : Nat) => (i : Int)
theorem cards52_succ (n : Nat) : cards52 (n + 1) = cards52 n ++ [(n : Int)] := by simp [cards52, List.range_succ]
theorem cards52_length (n : Nat) : (cards52 n).length = n := by simp [cards52]
theorem full_is : ∀ i : Nat, i ≤ 52 → spec_Missing_L3 [] (i : Int) (cards52 i) = some (cards52 52) := down (by
    rw [spec_Missing_L3_eq, if_dneg (by omega)]) fun i hi ih => by
  have hh : spec_HasCard [] (i : Int) = some false := by rw [spec_HasCard_ok _ _ (Nat.zero_le _)]; rfl
  have hl := cards52_length i
  rw [spec_Missing_L3_eq, if_dpos (by omega), hh, Option.bind_some, if_pos (by decide), if_pos (by rw [hl, List.length_singleton]; omega), wrap_succ hi (by omega), ← cards52_succ]
  exact ih
theorem spec_FullDeck_ok : spec_FullDeck = some (cards52 52) := by
  rw [spec_FullDeck_eq, spec_Missing_eq]
  have h := full_is 0 (by omega)
  have h : spec_Missing_L3 [] 0 [] = some (cards52 52) := h
  rw [h]; rfl
theorem full_hand : handM (cards52 52) = true := by decide +kernel
theorem shuffledM_perm {l : List Int} (seed : Int) (hl : l.length ≤ 1000) : (shuffledM l seed).Perm l := by
  unfold shuffledM
  by_cases e : l.length = 0
  · have : l = [] := List.length_eq_zero_iff.1 e
    subst this
    have := shufM_length seed 0 []
    have : shufM seed 0 [] = [] := List.length_eq_zero_iff.1 this
    show (shufM seed 0 []).Perm []
    rw [this]
  · exact shufM_perm seed _ _ (by omega) (by omega)
theorem full_ex : ∃ D : List Int, spec_FullDeck = some D ∧ D.length = 52 ∧ handM D = true := ⟨_, spec_FullDeck_ok, cards52_length 52, full_hand⟩
theorem shuffled_ex {D : List Int} (h1 : D.length = 52) (h2 : handM D = true) (s : Int) : ∃ E : List Int, spec_Shuffled D s = some E ∧ E.length = 52 ∧ handM E = true := by
  have hp := shuffledM_perm s (l := D) (by omega)
  exact ⟨_, spec_Shuffled_ok _ _ (by omega), by rw [hp.length_eq]; exact h1, by rw [handM_perm hp]; exact h2⟩
def choicesM (hand trick : List Int) : List Int := (sortM hand).filter (mayPM hand trick)
theorem spec_Choices_ok (hand trick : List Int) (hl : hand.length ≤ 1000000) (ht : trick.length ≤ 1000000) : spec_Choices hand trick = some (choicesM hand trick) := by
  have hs := sortM_length hand
  have h : ∀ i, i ≤ (sortM hand).length → spec_Choices_L4 hand trick (i : Int) (((sortM hand).take i).filter (mayPM hand trick)) (sortM hand) = some (choicesM hand trick) := down (by
      rw [spec_Choices_L4_eq, if_dneg (by omega), List.take_length]; rfl) fun i hi ih => by
    have hk : (((sortM hand).take i).filter (mayPM hand trick)).length ≤ i := Nat.le_trans (List.length_filter_le _ _) (by rw [List.length_take]; omega)
    rw [take_succ_getD (d := (0 : Int)) hi, List.filter_append] at ih
    rw [spec_Choices_L4_eq, if_dpos (by omega), if_pos (by omega), if_pos (by omega), Int.toNat_natCast, spec_MayPlay_ok _ _ _ (by omega) (by omega), Option.bind_some, wrap_succ hi (by omega)]
    by_cases c : mayPM hand trick ((sortM hand).getD i 0) = true
    · rw [if_pos c, if_pos (by omega), if_pos (by omega), if_pos (by rw [List.length_singleton]; omega)]
      rw [List.filter_cons_of_pos c, List.filter_nil] at ih
      exact ih
    · rw [if_neg c]
      rw [List.filter_cons_of_neg c, List.filter_nil, List.append_nil] at ih
      exact ih
  rw [spec_Choices_eq, spec_Sorted_ok _ (by omega), Option.bind_some]
  exact h 0 (Nat.zero_le _)
theorem choices_pos {hand : List Int} (trick : List Int) (hh : handM hand = true) (h0 : 0 < hand.length) : 0 < (choicesM hand trick).length := by
  have hx : ∀ c ∈ hand, mayPM hand trick c = true → 0 < (choicesM hand trick).length := fun c hc hm => by
    have : c ∈ choicesM hand trick := List.mem_filter.2 ⟨sortM_mem.2 hc, hm⟩
    exact List.length_pos_of_mem this
  by_cases hex : ∃ c ∈ hand, (suitM c == suitM (trick.getD 0 0)) = true
  · obtain ⟨c, hc, hs⟩ := hex
    refine hx c hc ?_
    rw [mayPM, hh, hasM_iff.2 hc, hs]; simp
  · have hc := getD_mem (d := (0 : Int)) h0
    refine hx _ hc ?_
    have hall : hand.all (fun x => !(suitM x == suitM (trick.getD 0 0))) = true := by
      rw [List.all_eq_true]
      intro x hx
      cases e : (suitM x == suitM (trick.getD 0 0)) with
      | false => rfl
      | true => exact absurd ⟨x, hx, e⟩ hex
    rw [mayPM, hh, hasM_iff.2 hc, hall]; simp
theorem deal_g2 {hs : List (List Int)} (h1 : hs.length ≤ 4) (h2 : hs.flatten.length ≤ 1000) : G2 hs := G2.small (by omega) (n := 1000) h2 (by omega)
theorem handM_52 {l : List Int} (h : handM l = true) : l.length ≤ 52 := by
  obtain ⟨h1, h2⟩ := handM_parts h
  have := pigeon h2 (r := cards52 52) fun c hc => by
    obtain ⟨p, q⟩ := isC_iff.1 (h1 c hc)
    exact List.mem_map.2 ⟨c.toNat, List.mem_range.2 (by omega), by show ((c.toNat : Nat) : Int) = c; omega⟩
  rwa [cards52_length] at this
theorem deal_small (hs : List (List Int)) (le tr : Int) (tk wo po : List Int) (lf : Int) (h : dealM hs le tr tk wo po lf = true) : hs.length ≤ 4 ∧ hs.flatten.length + tk.length ≤ 52 ∧ tk.length ≤ 3 ∧ wo.length ≤ 4 ∧ po.length ≤ 4 ∧ G2 hs := by
  have v := dealM_valid hs le tr tk wo po lf h
  have v1 := v.n2; have v2 := v.won; have v3 := v.pts; have v4 := v.trick
  have := handM_52 v.hand
  rw [List.length_append] at this
  exact ⟨v1, this, by omega, by omega, by omega, deal_g2 v1 (by omega)⟩
theorem l12Move_tot {c : List Int × Int × Int} (hc : Cur c) (hs : List (List Int)) (le tr : Int) (tk wo po : List Int) (lf : Int) (h : dealM hs le tr tk wo po lf = true) : Tot (spec_l12Move c hs le tr tk wo po lf) (fun r => Cur r.2) := by
  obtain ⟨h1, h2, h3, h4, h5, h6⟩ := deal_small hs le tr tk wo po lf h
  rw [spec_l12Move_eq, spec_TurnOf_ok hs le tr tk wo po lf h6 (by omega) (by omega) (by omega), Option.bind_some]
  refine Tot.dite (fun _ => Tot.bind (l4Card_tot hc) fun r hr => Tot.ret hr) fun hw => ?_
  have hb := whoM_bound hs le tr tk wo po lf (dealM_valid hs le tr tk wo po lf h) hw
  have hrow := row_le_flat (getD_mem (d := []) (by omega : (whoM hs le tr tk wo po lf).toNat < hs.length))
  refine Tot.guard hb.1 (Tot.guard hb.2 ?_)
  rw [spec_Choices_ok _ _ (by omega) (by omega), Option.bind_some]
  refine Tot.bind (l1Once_tot hc 9) fun r hr => Tot.ite (fun _ => Tot.bind (l4Card_tot hr) fun s hs => Tot.ret hs) fun _ => ?_
  by_cases h0 : ((choicesM (hs.getD (whoM hs le tr tk wo po lf).toNat []) tk).length : Int) = 0
  · rw [if_epos h0]; exact Tot.bind (l4Card_tot hr) fun s hs => Tot.ret hs
  · rw [if_eneg h0]
    refine Tot.bind (l1Below_tot hr _) fun s ⟨hs, s1, s2, _⟩ => ?_
    have s2 := s2 (by omega)
    exact Tot.guard s1 (Tot.guard s2 (Tot.ret hs))
/-- What is played, or not, leaves a deal behind. -/
theorem card_step (hs : List (List Int)) (le tr : Int) (tk wo po : List Int) (lf : Int) (c k : Int) (hk : 0 ≤ k) (hk2 : k ≤ 1000000) (hp : ∀ x ∈ po, x ≤ k) (h : dealM hs le tr tk wo po lf = true) : ∃ r0 r1 r2 r3 r4 r5 r6 r7, cardM hs le tr tk wo po lf c = (r0, r1, r2, r3, r4, r5, r6, r7) ∧ dealM r0 r1 r2 r3 r4 r5 r6 = true ∧ (∀ x ∈ r5, x ≤ k + 44) := by
  by_cases hok : (dealM hs le tr tk wo po lf && (!decide (whoM hs le tr tk wo po lf < 0) && mayPM (hs.getD (whoM hs le tr tk wo po lf).toNat []) tk c)) = true
  · obtain ⟨le', tk', wo', po', e1, e2, e3, _⟩ := card_deal hs le tr tk wo po lf c k hk hk2 hp hok
    exact ⟨_, _, _, _, _, _, _, _, e1, e2, e3⟩
  · rw [cardM, if_neg hok]
    exact ⟨_, _, _, _, _, _, _, _, rfl, h, fun x hx => by have := hp x hx; omega⟩
theorem spec_PlayCard_step (hs : List (List Int)) (le tr : Int) (tk wo po : List Int) (lf : Int) (c k : Int) (hk : 0 ≤ k) (hk2 : k ≤ 1000000) (hp : ∀ x ∈ po, x ≤ k) (h : dealM hs le tr tk wo po lf = true) : ∃ r0 r1 r2 r3 r4 r5 r6 r7, spec_PlayCard hs le tr tk wo po lf c = some (r0, r1, r2, r3, r4, r5, r6, r7) ∧ dealM r0 r1 r2 r3 r4 r5 r6 = true ∧ (∀ x ∈ r5, x ≤ k + 44) := by
  obtain ⟨h1, h2, h3, h4, h5, h6⟩ := deal_small hs le tr tk wo po lf h
  rw [spec_PlayCard_ok hs le tr tk wo po lf c h6 (by omega) (by omega) (by omega)]
  obtain ⟨r0, r1, r2, r3, r4, r5, r6, r7, e, h⟩ := card_step hs le tr tk wo po lf c k hk hk2 hp h
  exact ⟨_, _, _, _, _, _, _, _, congrArg some e, h⟩
theorem sumW_zeros (n : Nat) (hn : n ≤ 1000) : sumW (List.replicate n 0) = 0 := by
  rw [sumW_sum (fun x hx => by rw [List.eq_of_mem_replicate hx]; omega) (by rw [List.length_replicate]; omega)]
  have := sum_nn (List.replicate n 0) fun x hx => by rw [List.eq_of_mem_replicate hx]; omega
  induction n with
  | zero => rfl
  | succ n ih => rw [List.replicate_succ, List.sum_cons, ih (by omega) (sum_nn _ fun x hx => by rw [List.eq_of_mem_replicate hx]; omega)]; rfl
theorem two_rows : ∀ hs : List (List Int), 2 ≤ hs.length → (hs.getD 0 []).length + (hs.getD 1 []).length ≤ hs.flatten.length
  | [], h => absurd h (by decide)
  | [_], h => absurd h (by simp)
  | a :: b :: r, _ => by
    rw [List.flatten_cons, List.flatten_cons, List.length_append, List.length_append, List.getD_cons_zero, List.getD_cons_succ, List.getD_cons_zero]; omega
/-- A deal before its first card. -/
theorem new_deal {hs : List (List Int)} {le tr : Int} (h1 : 2 ≤ hs.length) (h2 : hs.length ≤ 4) (h3 : handM hs.flatten = true) (h4 : 0 ≤ le ∧ le ≤ (hs.length : Int) - 1) (h5 : inR tr (-1) 3 = true) (h6 : ∀ i, i < hs.length → (hs.getD i []).length = (hs.getD 0 []).length) : dealM hs le tr [] (List.replicate hs.length 0) (List.replicate hs.length 0) ((hs.getD 0 []).length : Int) = true := by
  have z : ∀ x ∈ List.replicate hs.length (0 : Int), x = 0 := fun x hx => List.eq_of_mem_replicate hx
  have e26 : (hs.getD 0 []).length ≤ 26 := by
    have hf := handM_52 h3
    have e0 := two_rows hs h1
    have e1 := h6 1 (by omega)
    omega
  refine dealM_of _ _ _ _ _ _ _ h1 h2 List.length_replicate List.length_replicate h4 h5 ⟨by omega, by omega⟩ (by show 0 < _; omega) (by rw [List.append_nil]; exact h3) (fun x hx => by rw [z x hx]; omega) (fun x hx => by rw [z x hx]; omega) fun i hi => ?_
  have hg := Int.tmod_nonneg (a := (i : Int) - le + (hs.length : Int)) (hs.length : Int) (by omega)
  rw [sumW_zeros _ (by omega), if_neg (by show ¬ _ < ((([] : List Int).length : Nat) : Int); rw [List.length_nil]; omega), h6 i hi]; omega
theorem spec_NewDeal_yes {hs : List (List Int)} {le tr : Int} (h1 : 0 < hs.length) (h2 : hs.length ≤ 4) (hh : G2 hs) (hd : dealM hs le tr [] (List.replicate hs.length 0) (List.replicate hs.length 0) ((hs.getD 0 []).length : Int) = true) :
    spec_NewDeal hs le tr = some (hs, le, tr, [], List.replicate hs.length 0, List.replicate hs.length 0, ((hs.getD 0 []).length : Int), true) := by
  have r1 : (List.replicate hs.length (0 : Int)).length ≤ 2097152 := by rw [List.length_replicate]; omega
  rw [spec_NewDeal_eq, if_pos rfl, if_pos (by omega), Int.toNat_natCast, if_pos (by omega), if_pos rfl, if_pos (by omega), if_pos (by omega), spec_l12Copy_ok hs le tr [] (List.replicate hs.length 0) (List.replicate hs.length 0) 0 hh (Nat.zero_le _) r1 r1, Option.bind_some, if_dpos (by omega), if_pos (by omega), spec_IsDeal_ok hs le tr [] (List.replicate hs.length 0) (List.replicate hs.length 0) _ hh (Nat.zero_le _) r1 r1, Option.bind_some, hd, if_neg (by decide)]
theorem hands_facts {D : List Int} (h1 : D.length = 52) (h2 : handM D = true) {p e : Nat} (hp : p ≤ 4) (he : e ≤ 6) : spec_Dealt D (p : Int) (e : Int) = some (dealtM D (p : Int) (e : Int)) ∧ (1 ≤ p → dealtM D (p : Int) (e : Int) = (handsN D p e, D.drop (p * e), true)) ∧ handM (handsN D p e).flatten = true ∧ (handsN D p e).length = p ∧ (∀ i, i < p → ((handsN D p e).getD i []).length = e) ∧ (handsN D p e).flatten.length ≤ 52 := by
  have hpe : p * e ≤ 24 := Nat.mul_le_mul hp he
  have hperm := hands_perm D (p := p) (e := e) (by omega) (by omega) (by omega)
  have hhand : handM (handsN D p e).flatten = true := by
    rw [handM_perm hperm]
    have := h2
    rw [← List.take_append_drop (p * e) D] at this
    exact handM_left this
  refine ⟨spec_Dealt_ok D _ _ (by omega), fun hp1 => ?_, hhand, handsN_length _ _ _, fun i hi => ?_, handM_52 hhand⟩
  · rw [dealtM, if_pos ⟨h2, inR_iff.2 (by omega), inR_iff.2 (by omega), by rw [h1, ← Int.natCast_mul]; omega⟩, Int.toNat_natCast, Int.toNat_natCast]
  · have hm := getD_mem (d := []) (by rw [handsN_length]; exact hi : i < (handsN D p e).length)
    unfold handsN at hm ⊢
    obtain ⟨q, _, e1⟩ := List.mem_map.1 hm
    rw [← e1, handN_length]
/-- What a deal is that was just dealt. -/
def StartD (r : List (List Int) × Int × Int × List Int × List Int × List Int × Int × List Int × Int × Int) : Prop := dealM r.1 r.2.1 r.2.2.1 r.2.2.2.1 r.2.2.2.2.1 r.2.2.2.2.2.1 r.2.2.2.2.2.2.1 = true ∧ Cur r.2.2.2.2.2.2.2 ∧ r.2.2.2.1 = [] ∧ r.2.2.2.2.2.1 = List.replicate r.1.length 0
theorem l12Start_tot {c : List Int × Int × Int} (hc : Cur c) : Tot (spec_l12Start c) StartD := by
  rw [spec_l12Start_eq]
  obtain ⟨D, d1, d2, d3⟩ := full_ex
  rw [d1, Option.bind_some]
  refine Tot.bind (l1Below_tot hc 999) fun s ⟨hs, _⟩ => ?_
  obtain ⟨E, e1, e2, e3⟩ := shuffled_ex d2 d3 s.1
  rw [e1, Option.bind_some]
  refine Tot.bind (l1Below_tot hs 3) fun p ⟨hp, p1, p2, _⟩ => Tot.bind (l1Below_tot hp 5) fun e ⟨he, q1, q2, _⟩ => ?_
  have p2 := p2 (by decide)
  have q2 := q2 (by decide)
  have w1 : IntKind.i64.wrap (2 + p.1) = ((2 + p.1.toNat : Nat) : Int) := by rw [wrap_id (by omega) (by omega)]; omega
  have w2 : IntKind.i64.wrap (1 + e.1) = ((1 + e.1.toNat : Nat) : Int) := by rw [wrap_id (by omega) (by omega)]; omega
  obtain ⟨f1, f2, f3, f4, f5, f6⟩ := hands_facts e2 e3 (p := 2 + p.1.toNat) (e := 1 + e.1.toNat) (by omega) (by omega)
  rw [w1, w2, f1, Option.bind_some, f2 (by omega)]
  generalize handsN E (2 + p.1.toNat) (1 + e.1.toNat) = hs at f3 f4 f5 f6
  refine Tot.bind (l1Below_tot he _) fun l ⟨hl, l1, l2, _⟩ => Tot.bind (l1Below_tot hl 5) fun t ⟨ht, t1, t2, _⟩ => ?_
  have t2 := t2 (by decide)
  have l2 : l.1 < (hs.length : Int) := l2 (by show (0 : Int) < (hs.length : Int); omega)
  have hd := new_deal (hs := hs) (le := l.1) (tr := IntKind.i64.wrap (t.1 - 1)) (by omega) (by omega) f3 ⟨l1, by omega⟩ (inR_iff.2 (by rw [wrap_id (by omega) (by omega)]; omega)) fun i hi => by rw [f5 i (by omega), f5 0 (by omega)]
  show Tot ((spec_NewDeal hs l.1 (IntKind.i64.wrap (t.1 - 1))).bind _) _
  rw [spec_NewDeal_yes (by omega) (by omega) (deal_g2 (by omega) (by omega)) hd, Option.bind_some]
  exact Tot.ret ⟨hd, ht, rfl, rfl⟩
/-- What a drawn deal is, right or wrong. -/
def DrawnD (hs : List (List Int)) (tk wo po : List Int) : Prop := hs.length ≤ 4 ∧ hs.flatten.length ≤ 52 ∧ tk.length ≤ 4 ∧ wo.length ≤ 4 ∧ po.length ≤ 4 ∧ (∀ x ∈ po, x ≤ 1000) ∧ G2 hs
theorem l12Draw_tot {c : List Int × Int × Int} (hc : Cur c) : Tot (spec_l12Draw c) (fun r => DrawnD r.1 r.2.2.2.1 r.2.2.2.2.1 r.2.2.2.2.2.1 ∧ Cur r.2.2.2.2.2.2.2) := by
  rw [spec_l12Draw_eq]
  refine Tot.bind (l12Start_tot hc) fun s ⟨s1, s2, s3, s4⟩ => Tot.bind (l1Below_tot s2 12) fun n ⟨hn, n1, n2, _⟩ => ?_
  have n2 := n2 (by decide)
  have key : ∀ i : Nat, i ≤ 12 → ∀ (b0 : List Int) (b1 b2 z1 z2 z3 : Int) (hs : List (List Int)) (le tr : Int) (tk wo po : List Int) (lf : Int), Cur (b0, b1, b2) → dealM hs le tr tk wo po lf = true → (∀ x ∈ po, x ≤ 44 * (12 - (i : Int))) →
      Tot (spec_l12Draw_L3 (i : Int) b0 b1 b2 z1 z2 z3 le tr lf hs tk wo po) (fun r => DrawnD r.1 r.2.2.2.1 r.2.2.2.2.1 r.2.2.2.2.2.1 ∧ Cur r.2.2.2.2.2.2.2) := by
    intro i
    induction i with
    | zero =>
      intro _ b0 b1 b2 z1 z2 z3 hs le tr tk wo po lf hb hd hp
      obtain ⟨h1, h2, h3, h4, h5, h6⟩ := deal_small hs le tr tk wo po lf hd
      have v := dealM_valid hs le tr tk wo po lf hd
      have vn := v.n1; have vw := v.won
      have base : DrawnD hs tk wo po := ⟨h1, by omega, by omega, h4, h5, fun x hx => by have := hp x hx; omega, h6⟩
      rw [spec_l12Draw_L3_eq, if_dneg (by omega)]
      refine Tot.bind (l1Below_tot hb 14) fun t ⟨ht, _⟩ => Tot.ite (fun _ => ?_) fun _ => Tot.ite (fun _ => ?_) fun _ => Tot.ite (fun _ => ?_) fun _ => Tot.ite (fun _ => ?_) fun _ => Tot.ite (fun _ => ?_) fun _ => ?_
      · exact Tot.bind (l1Int_tot ht (by decide)) fun q hq => Tot.ret ⟨base, hq.1⟩
      · exact Tot.bind (l1Int_tot ht (by decide)) fun q hq => Tot.ret ⟨base, hq.1⟩
      · exact Tot.bind (l1Int_tot ht (by decide)) fun q hq => Tot.guard (by omega) (Tot.ret ⟨⟨h1, by show hs.flatten.length ≤ 52; omega, by show tk.length ≤ 4; omega, by show (wo.set 0 _).length ≤ 4; rw [List.length_set]; exact h4, h5, base.2.2.2.2.2.1, h6⟩, hq.1⟩)
      · exact Tot.ret ⟨base, ht⟩
      · exact Tot.bind (l4Card_tot ht) fun q hq => Tot.guard (by rw [List.length_singleton]; omega) (Tot.ret ⟨⟨h1, by show hs.flatten.length ≤ 52; omega, by show (tk ++ [_]).length ≤ 4; rw [List.length_append, List.length_singleton]; omega, h4, h5, base.2.2.2.2.2.1, h6⟩, hq⟩)
      · exact Tot.ret ⟨base, ht⟩
    | succ i ih =>
      intro hi b0 b1 b2 z1 z2 z3 hs le tr tk wo po lf hb hd hp
      rw [spec_l12Draw_L3_eq, if_dpos (by omega)]
      refine Tot.bind (l12Move_tot hb hs le tr tk wo po lf hd) fun m hm => ?_
      obtain ⟨r0, r1, r2, r3, r4, r5, r6, r7, e1, e2, e3⟩ := spec_PlayCard_step hs le tr tk wo po lf m.1 (44 * (12 - ((i + 1 : Nat) : Int))) (by omega) (by omega) hp hd
      rw [e1, Option.bind_some, wrap_id (x := ((i + 1 : Nat) : Int) - 1) (by omega) (by omega), show ((i + 1 : Nat) : Int) - 1 = (i : Int) by omega]
      exact ih (by omega) _ _ _ _ _ _ _ _ _ _ _ _ _ hm e2 fun x hx => by have := e3 x hx; omega
  have := key n.1.toNat (by omega) n.2.1 n.2.2.1 n.2.2.2 0 0 0 s.1 s.2.1 s.2.2.1 s.2.2.2.1 s.2.2.2.2.1 s.2.2.2.2.2.1 s.2.2.2.2.2.2.1 hn s1 fun x hx => by
    rw [s4] at hx
    rw [List.eq_of_mem_replicate hx]; omega
  rw [show ((n.1.toNat : Nat) : Int) = n.1 by omega] at this
  show Tot (spec_l12Draw_L3 n.1 n.2.1 n.2.2.1 n.2.2.2 0 0 0 s.2.1 s.2.2.1 s.2.2.2.2.2.2.1 s.1 s.2.2.2.1 s.2.2.2.2.1 s.2.2.2.2.2.1) _
  exact this
end Go.Proofs.Ytoioaijpdiglfaa.V
