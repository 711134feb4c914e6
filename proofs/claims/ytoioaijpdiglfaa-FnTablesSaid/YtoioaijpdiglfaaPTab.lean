/- Plain laws over the shapes. -/
import Derived.Test.YtoioaijpdiglfaaPEqual
import Derived.Test.YtoioaijpdiglfaaFDrawEqualTables
import Derived.Test.YtoioaijpdiglfaaFEqualTables
import Derived.Test.YtoioaijpdiglfaaFl33Any
import Derived.Test.YtoioaijpdiglfaaS1
import Derived.Test.YtoioaijpdiglfaaS2
import Derived.Test.YtoioaijpdiglfaaS3
import Derived.Test.YtoioaijpdiglfaaS5
import Derived.Test.YtoioaijpdiglfaaS6
import Derived.Test.YtoioaijpdiglfaaS7
import Derived.Test.YtoioaijpdiglfaaS8
set_option linter.unusedVariables false
set_option linter.unusedSimpArgs false
set_option maxRecDepth 10000
namespace Go.Proofs.Ytoioaijpdiglfaa.V
open Go
/-- It has an answer, and one of these. -/
def Tot {α : Type} (x : Option α) (Q : α → Prop) : Prop := ∃ r, x = some r ∧ Q r
theorem Tot.bind {α β : Type} {x : Option α} {k : α → Option β} {Q : α → Prop} {Q' : β → Prop} (h : Tot x Q) (hk : ∀ r, Q r → Tot (k r) Q') : Tot (x.bind k) Q' := by
  obtain ⟨r, rfl, hr⟩ := h
  exact hk r hr
theorem Tot.mono {α : Type} {x : Option α} {Q Q' : α → Prop} (h : Tot x Q) (hk : ∀ r, Q r → Q' r) : Tot x Q' := by
  obtain ⟨r, e, hr⟩ := h
  exact ⟨r, e, hk r hr⟩
theorem Tot.ret {α : Type} {r : α} {Q : α → Prop} (h : Q r) : Tot (some r) Q := ⟨r, rfl, h⟩
theorem Tot.guard {α : Type} {p : Prop} [Decidable p] {x : Option α} {Q : α → Prop} (h : p) (hx : Tot x Q) : Tot (if p then x else none) Q := by rw [if_pos h]; exact hx
theorem Tot.nguard {α : Type} {p : Prop} [Decidable p] {x : Option α} {Q : α → Prop} (h : ¬ p) (hx : Tot x Q) : Tot (if p then none else x) Q := by rw [if_neg h]; exact hx
theorem Tot.ite {α : Type} {p : Prop} [Decidable p] {x y : Option α} {Q : α → Prop} (hx : p → Tot x Q) (hy : ¬ p → Tot y Q) : Tot (if p then x else y) Q := by
  by_cases h : p
  · rw [if_pos h]; exact hx h
  · rw [if_neg h]; exact hy h
theorem Tot.dite {α : Type} {p : Prop} [Decidable p] {x y : Option α} {Q : α → Prop} (hx : p → Tot x Q) (hy : ¬ p → Tot y Q) : Tot (if decide p = true then x else y) Q := by
  by_cases h : p
  · rw [if_dpos h]; exact hx h
  · rw [if_dneg h]; exact hy h
theorem Tot.of {α : Type} {x : Option α} {r : α} {Q : α → Prop} (e : x = some r) (h : Q r) : Tot x Q := ⟨r, e, h⟩
theorem Tot.eq {α : Type} {x : Option α} {r : α} (e : x = some r) : Tot x (fun s => s = r) := ⟨r, e, rfl⟩
/-- A cursor. -/
def Cur (c : List Int × Int × Int) : Prop := 0 ≤ c.2.1 ∧ c.1.length ≤ 1048576
theorem l1New_tot {a : List Int} (ha : a.length ≤ 1048576) : Tot (spec_l1New a) Cur := by
  have key : ∀ i, i ≤ a.length → ∀ h : Int, Tot (spec_l1New_L3 a h (i : Int)) Cur := down (by
      intro h
      rw [spec_l1New_L3_eq, if_dneg (by omega)]
      exact Tot.ret ⟨Int.le_refl _, ha⟩) fun i hi ih h => by
    rw [spec_l1New_L3_eq, if_dpos (by omega)]
    refine Tot.dite (fun _ => ?_) fun _ => Tot.ret ⟨Int.le_refl _, ha⟩
    rw [if_pos (by omega), if_pos (by omega), wrap_succ hi (by omega)]
    exact ih _
  rw [spec_l1New_eq]
  exact key 0 (Nat.zero_le _) _
theorem and_255 (x : BitVec IntKind.i64.bits) : 0 ≤ IntKind.i64.wrap ((x &&& BitVec.ofInt IntKind.i64.bits 255).toNat : Int) ∧ IntKind.i64.wrap ((x &&& BitVec.ofInt IntKind.i64.bits 255).toNat : Int) ≤ 255 := by
  have h : (x &&& BitVec.ofInt IntKind.i64.bits 255).toNat ≤ 255 := by
    rw [BitVec.toNat_and]
    exact Nat.le_trans Nat.and_le_right (by decide)
  rw [wrap_id (by omega) (by omega)]
  omega
theorem l1Byte_tot {c : List Int × Int × Int} (hc : Cur c) : Tot (spec_l1Byte c) (fun r => Cur r.2 ∧ 0 ≤ r.1 ∧ r.1 ≤ 255) := by
  obtain ⟨h1, h2⟩ := hc
  rw [spec_l1Byte_eq]
  refine Tot.dite (fun h => ?_) fun h => ?_
  · refine Tot.guard h1 (Tot.guard h (Tot.ret ⟨⟨?_, h2⟩, and_255 _⟩))
    show 0 ≤ IntKind.i64.wrap (c.2.1 + 1)
    rw [wrap_id (by omega) (by omega)]; omega
  · exact Tot.ret ⟨⟨h1, h2⟩, and_255 _⟩
def Below (n : Int) (x : Int) : Prop := 0 ≤ x ∧ (0 < n → x < n) ∧ (n ≤ 0 → x = 0)
theorem tmod_below {x n : Int} (hx : 0 ≤ x) (hn : 0 < n) : Below n (x.tmod n) := by
  rw [Below, Int.tmod_eq_emod_of_nonneg hx]
  have := Int.emod_nonneg x (by omega : n ≠ 0)
  have := Int.emod_lt_of_pos x hn
  omega
theorem l1Below_tot {c : List Int × Int × Int} (hc : Cur c) (n : Int) : Tot (spec_l1Below c n) (fun r => Cur r.2 ∧ Below n r.1) := by
  rw [spec_l1Below_eq]
  refine Tot.dite (fun h => Tot.ret ⟨hc, Int.le_refl _, fun h' => by omega, fun _ => rfl⟩) fun h => Tot.dite (fun h' => ?_) fun h' => ?_
  · refine Tot.bind (l1Byte_tot hc) fun r ⟨hr, h1, h2⟩ => Tot.nguard (by omega) (Tot.ret ⟨hr, tmod_below h1 (by omega)⟩)
  · refine Tot.bind (l1Byte_tot hc) fun r ⟨hr, h1, h2⟩ => Tot.bind (l1Byte_tot hr) fun s ⟨hs, g1, g2⟩ => Tot.bind (l1Byte_tot hs) fun t ⟨ht, k1, k2⟩ => Tot.nguard (by omega) (Tot.ret ⟨ht, tmod_below ?_ (by omega)⟩)
    rw [wrap_id (x := r.1 * 65536) (by omega) (by omega), wrap_id (x := s.1 * 256) (by omega) (by omega), wrap_id (x := r.1 * 65536 + s.1 * 256) (by omega) (by omega), wrap_id (by omega) (by omega)]
    omega
theorem l1Once_tot {c : List Int × Int × Int} (hc : Cur c) (n : Int) : Tot (spec_l1Once c n) (fun r => Cur r.2) := by
  rw [spec_l1Once_eq]
  exact Tot.bind (l1Below_tot hc n) fun r hr => Tot.ret hr.1
theorem l1Int_tot {c : List Int × Int × Int} (hc : Cur c) {l : List Int} (hl : 0 < l.length) : Tot (spec_l1Int c l) (fun r => Cur r.2 ∧ r.1 ∈ l) := by
  rw [spec_l1Int_eq]
  refine Tot.bind (l1Below_tot hc _) fun r ⟨hr, h1, h2, h3⟩ => ?_
  have := h2 (by omega)
  exact Tot.guard h1 (Tot.guard this (Tot.ret ⟨hr, getD_mem (by omega)⟩))
theorem pigeon : ∀ {l r : List Int}, l.Nodup → (∀ c ∈ l, c ∈ r) → l.length ≤ r.length
  | [], _, _, _ => Nat.zero_le _
  | a :: l, r, hn, h => by
    obtain ⟨h1, h2⟩ := List.nodup_cons.1 hn
    have ha := h a List.mem_cons_self
    have := pigeon h2 (r := r.erase a) fun c hc => (List.mem_erase_of_ne (fun e => h1 (by rw [← e]; exact hc))).2 (h c (List.mem_cons_of_mem _ hc))
    rw [List.length_erase_of_mem ha] at this
    have := List.length_pos_of_mem ha
    simp only [List.length_cons]; omega
theorem seven_nodup : ∀ x : Nat, x < 52 → ((List.range 52).map fun (k : Nat) => ((x : Int) + 7 * (k : Int)) % 52).Nodup := by decide +kernel
/-- The cards are taken one after the other, each the seventh behind, until one is free. -/
theorem seven_free (r : List Int) (h : r.length < 52) (x : Int) (hx : 0 ≤ x ∧ x < 52) : ∃ k : Nat, k < 52 ∧ hasM r ((x + 7 * (k : Int)) % 52) = false := by
  obtain ⟨y, rfl⟩ : ∃ y : Nat, x = (y : Int) := ⟨x.toNat, by omega⟩
  apply Classical.byContradiction
  intro hn
  have hall : ∀ k : Nat, k < 52 → ((y : Int) + 7 * (k : Int)) % 52 ∈ r := fun k hk => by
    cases e : hasM r (((y : Int) + 7 * (k : Int)) % 52) with
    | false => exact absurd ⟨k, hk, e⟩ hn
    | true => simpa [hasM] using e
  have := pigeon (seven_nodup y (by omega)) (r := r) fun c hc => by
    obtain ⟨k, hk, rfl⟩ := List.mem_map.1 hc
    exact hall k (List.mem_range.1 hk)
  rw [List.length_map, List.length_range] at this
  omega
def cards52 (n : Nat) : List Int := (List.range n).map fun (i : Nat) => (i : Int)
theorem cards52_succ (n : Nat) : cards52 (n + 1) = cards52 n ++ [(n : Int)] := by simp [cards52, List.range_succ]
theorem cards52_length (n : Nat) : (cards52 n).length = n := by simp [cards52]
theorem full_is : ∀ i : Nat, i ≤ 52 → spec_Missing_L3 [] (i : Int) (cards52 i) = some (cards52 52) := down (by
    rw [spec_Missing_L3_eq, if_dneg (by omega)]) fun i hi ih => by
  have hh : spec_HasCard [] (i : Int) = some false := by rw [spec_HasCard_ok _ _ (Nat.zero_le _)]; rfl
  have hl := cards52_length i
  rw [spec_Missing_L3_eq, if_dpos (by omega), hh, Option.bind_some, if_pos (by decide), if_pos (by rw [hl, List.length_singleton]; omega), wrap_succ hi (by omega), ← cards52_succ]
  exact ih
theorem spec_FullDeck_ok : spec_FullDeck = some (cards52 52) := by
  rw [spec_FullDeck_eq, spec_Missing_eq]
  have h := full_is 0 (by omega)
  have h : spec_Missing_L3 [] 0 [] = some (cards52 52) := h
  rw [h]; rfl
theorem full_hand : handM (cards52 52) = true := by decide +kernel
theorem shuffledM_perm {l : List Int} (seed : Int) (hl : l.length ≤ 1000) : (shuffledM l seed).Perm l := by
  unfold shuffledM
  by_cases e : l.length = 0
  · have : l = [] := List.length_eq_zero_iff.1 e
    subst this
    have := shufM_length seed 0 []
    have : shufM seed 0 [] = [] := List.length_eq_zero_iff.1 this
    show (shufM seed 0 []).Perm []
    rw [this]
  · exact shufM_perm seed _ _ (by omega) (by omega)
theorem full_ex : ∃ D : List Int, spec_FullDeck = some D ∧ D.length = 52 ∧ handM D = true := ⟨_, spec_FullDeck_ok, cards52_length 52, full_hand⟩
theorem l8Leaves_tot {c : List Int × Int × Int} (hc : Cur c) : Tot (spec_l8Leaves c) (fun r => Cur r.2) := by
  rw [spec_l8Leaves_eq]
  exact Tot.bind (l1Below_tot hc _) fun r hr => Tot.bind (l1Below_tot hr.1 _) fun s hs => Tot.bind (l1Below_tot hs.1 _) fun t ht => Tot.bind (l1Int_tot ht.1 (Nat.zero_lt_succ _)) fun u hu => Tot.ret hu.1
def DPat (n : Nat) (r : List Int × List Int × Int × Int) : Prop := Cur r.2 ∧ 0 < r.1.length ∧ r.1.length ≤ n
theorem l8Draw0_tot {c : List Int × Int × Int} (hc : Cur c) : Tot (spec_l8Draw c 0) (DPat 10) := by
  rw [spec_l8Draw_eq, if_epos rfl]
  exact Tot.bind (l8Leaves_tot hc) fun r hr => Tot.ret ⟨hr, Nat.zero_lt_one, by show 1 ≤ 10; omega⟩
theorem l8DrawS_tot {n : Nat} {k : Int} (hn : 1 ≤ n ∧ n ≤ 300) (hk : 1 ≤ k ∧ k ≤ 2) (ih : ∀ {c : List Int × Int × Int}, Cur c → Tot (spec_l8Draw c (k - 1)) (DPat n)) {c : List Int × Int × Int} (hc : Cur c) : Tot (spec_l8Draw c k) (DPat (2 * n + 1)) := by
  rw [spec_l8Draw_eq, if_eneg (by omega), wrap_id (by omega) (by omega)]
  refine Tot.bind (l1Once_tot hc _) fun r hr => Tot.ite (fun _ => ?_) fun _ => Tot.bind (l1Once_tot hr _) fun s hs => Tot.ite (fun _ => ?_) fun _ => ?_
  · exact Tot.bind (l8Leaves_tot hr) fun r hr => Tot.ret ⟨hr, Nat.zero_lt_one, by show 1 ≤ 2 * n + 1; omega⟩
  · refine Tot.bind (ih hs) fun t ⟨ht, t1, t2⟩ => Tot.guard (by rw [List.length_singleton]; omega) (Tot.ret ⟨ht, ?_, ?_⟩)
    · show 0 < (t.1 ++ [_]).length; rw [List.length_append]; omega
    · show (t.1 ++ [_]).length ≤ _; rw [List.length_append, List.length_singleton]; omega
  · refine Tot.bind (ih hs) fun t ⟨ht, t1, t2⟩ => Tot.bind (ih ht) fun u ⟨hu, u1, u2⟩ => Tot.guard (by omega) (Tot.bind (l1Below_tot hu _) fun v hv => Tot.guard (by rw [List.length_append, List.length_singleton]; omega) (Tot.ret ⟨hv.1, ?_, ?_⟩))
    · show 0 < ((t.1 ++ u.1) ++ [_]).length; rw [List.length_append, List.length_append]; omega
    · show ((t.1 ++ u.1) ++ [_]).length ≤ _; rw [List.length_append, List.length_append, List.length_singleton]; omega
theorem l8Draw1_tot {c : List Int × Int × Int} (hc : Cur c) : Tot (spec_l8Draw c 1) (DPat 21) := l8DrawS_tot (n := 10) (k := 1) (by omega) (by omega) (fun h => l8Draw0_tot h) hc
theorem l8Draw2_tot {c : List Int × Int × Int} (hc : Cur c) : Tot (spec_l8Draw c 2) (DPat 43) := l8DrawS_tot (n := 21) (k := 2) (by omega) (by omega) (fun h => l8Draw1_tot h) hc
theorem l8Any_tot {c : List Int × Int × Int} (hc : Cur c) : Tot (spec_l8Any c) (fun r => Cur r.2 ∧ r.1.length ≤ 1000) := by
  rw [spec_l8Any_eq]
  refine Tot.bind (l8Draw2_tot hc) fun r ⟨hr, r1, r2⟩ => Tot.bind (l1Below_tot hr _) fun s hs => Tot.ite (fun _ => ?_) fun _ => Tot.ite (fun _ => ?_) fun _ => ?_
  · refine Tot.bind (l1Below_tot hs.1 _) fun t ⟨ht, t1, t2, _⟩ => Tot.bind (l1Int_tot ht (Nat.zero_lt_succ _)) fun u hu => Tot.guard t1 (Tot.guard (t2 (by omega)) (Tot.ret ⟨hu.1, ?_⟩))
    show (r.1.set _ _).length ≤ _; rw [List.length_set]; omega
  · exact Tot.guard (by omega) (Tot.ret ⟨hs.1, by show ((r.1.take _).drop 1).length ≤ _; rw [List.length_drop, List.length_take]; omega⟩)
  · exact Tot.ret ⟨hs.1, by show r.1.length ≤ _; omega⟩
def DRu (r : Int × Int × Bool × Bool × List Int × List Int × Int × Int × List Int × Int × Int) : Prop := Cur r.2.2.2.2.2.2.2.2 ∧ r.2.2.2.2.1.length ≤ 1000 ∧ r.2.2.2.2.2.1.length ≤ 1000
theorem l22Draw_tot {c : List Int × Int × Int} (hc : Cur c) : Tot (spec_l22Draw c) DRu := by
  rw [spec_l22Draw_eq]
  refine Tot.bind (l1Below_tot hc _) fun r hr => Tot.bind (l1Below_tot hr.1 _) fun s hs => Tot.bind (l1Once_tot hs.1 _) fun t ht => Tot.bind (l1Below_tot ht _) fun u hu => Tot.bind (l1Below_tot hu.1 _) fun v hv => Tot.bind (l1Once_tot hv.1 _) fun w hw => Tot.ite (fun _ => ?_) fun _ => ?_
  · refine Tot.bind (l8Draw1_tot hw) fun x ⟨hx, _, x2⟩ => Tot.bind (l1Once_tot hx _) fun y hy => Tot.ite (fun _ => ?_) fun _ => ?_
    · exact Tot.bind (l8Draw1_tot hy) fun z ⟨hz, _, z2⟩ => Tot.ret ⟨hz, by show x.1.length ≤ _; omega, by show z.1.length ≤ _; omega⟩
    · exact Tot.ret ⟨hy, by show x.1.length ≤ _; omega, Nat.zero_le _⟩
  · refine Tot.bind (l1Once_tot hw _) fun y hy => Tot.ite (fun _ => ?_) fun _ => ?_
    · exact Tot.bind (l8Draw1_tot hy) fun z ⟨hz, _, z2⟩ => Tot.ret ⟨hz, Nat.zero_le _, by show z.1.length ≤ _; omega⟩
    · exact Tot.ret ⟨hy, Nat.zero_le _, Nat.zero_le _⟩
theorem l22Any_tot {c : List Int × Int × Int} (hc : Cur c) : Tot (spec_l22Any c) DRu := by
  rw [spec_l22Any_eq]
  refine Tot.bind (l22Draw_tot hc) fun r ⟨hr, r4, r5⟩ => Tot.bind (l1Below_tot hr _) fun s ⟨hs, _⟩ => Tot.ite (fun _ => ?_) fun _ => Tot.ite (fun _ => ?_) fun _ => Tot.ite (fun _ => ?_) fun _ => Tot.ite (fun _ => ?_) fun _ => Tot.ite (fun _ => ?_) fun _ => Tot.ite (fun _ => ?_) fun _ => ?_
  · exact Tot.bind (l1Int_tot hs (Nat.zero_lt_succ _)) fun t ht => Tot.ret ⟨ht.1, r4, r5⟩
  · exact Tot.bind (l1Int_tot hs (Nat.zero_lt_succ _)) fun t ht => Tot.ret ⟨ht.1, r4, r5⟩
  · exact Tot.ret ⟨hs, r4, r5⟩
  · exact Tot.bind (l8Any_tot hs) fun t ht => Tot.ret ⟨ht.1, ht.2, r5⟩
  · exact Tot.bind (l1Int_tot hs (Nat.zero_lt_succ _)) fun t ht => Tot.ret ⟨ht.1, r4, r5⟩
  · exact Tot.bind (l1Int_tot hs (Nat.zero_lt_succ _)) fun t ht => Tot.ret ⟨ht.1, r4, r5⟩
  · exact Tot.ret ⟨hs, r4, r5⟩
theorem inR_iff {x a b : Int} : inR x a b = true ↔ a ≤ x ∧ x ≤ b := by simp [inR]
def SmR (l : List (List Int)) : Prop := l.length ≤ 1000 ∧ ∀ r ∈ l, r.length ≤ 1000
theorem SmR.nil : SmR [] := ⟨Nat.zero_le _, fun r h => by cases h⟩
theorem SmR.one {r : List Int} (h : r.length ≤ 1000) : SmR [r] := ⟨by show 1 ≤ 1000; omega, fun q hq => by rw [List.mem_singleton.1 hq]; exact h⟩
theorem SmR.g2 {l : List (List Int)} (h : SmR l) : G2 l := ⟨by have := h.1; omega, fun r hr => by have := h.2 r hr; omega⟩
/-- Small: the rows of a table. -/
structure SmT (x4 x5 x8 x10 x15 x16 : List Int) (x19 : List (List Int)) (x20 x21 x25 : List Int) (x26 : List (List Int)) : Prop where
  r4 : x4.length ≤ 1000
  r5 : x5.length ≤ 1000
  r8 : x8.length ≤ 1000
  r10 : x10.length ≤ 1000
  r15 : x15.length ≤ 1000
  r16 : x16.length ≤ 1000
  r19 : SmR x19
  r20 : x20.length ≤ 1000
  r21 : x21.length ≤ 1000
  r25 : x25.length ≤ 1000
  r26 : SmR x26
def etM (x0 : Int) (x1 : Int) (x2 : Bool) (x3 : Bool) (x4 : List Int) (x5 : List Int) (x6 : Int) (x7 : Int) (x8 : List Int) (x9 : Bool) (x10 : List Int) (x11 : Int) (x12 : Int) (x13 : Bool) (x14 : Bool) (x15 : List Int) (x16 : List Int) (x17 : Int) (x18 : Int) (x19 : List (List Int)) (x20 : List Int) (x21 : List Int) (x22 : Int) (x23 : Int) (x24 : Int) (x25 : List Int) (x26 : List (List Int)) (y0 : Int) (y1 : Int) (y2 : Bool) (y3 : Bool) (y4 : List Int) (y5 : List Int) (y6 : Int) (y7 : Int) (y8 : List Int) (y9 : Bool) (y10 : List Int) (y11 : Int) (y12 : Int) (y13 : Bool) (y14 : Bool) (y15 : List Int) (y16 : List Int) (y17 : Int) (y18 : Int) (y19 : List (List Int)) (y20 : List Int) (y21 : List Int) (y22 : Int) (y23 : Int) (y24 : Int) (y25 : List Int) (y26 : List (List Int)) : Bool := reM x0 x1 x2 x3 x4 x5 x6 x7 y0 y1 y2 y3 y4 y5 y6 y7 && (decide (x8 = y8) && ((x9 == y9) && (decide (x10 = y10) && (geM x11 x12 x13 x14 x15 x16 x17 x18 x19 x20 x21 x22 x23 x24 y11 y12 y13 y14 y15 y16 y17 y18 y19 y20 y21 y22 y23 y24 && (decide (x25 = y25) && decide (x26 = y26))))))
theorem impl_EqualTables_ok (x0 : Int) (x1 : Int) (x2 : Bool) (x3 : Bool) (x4 : List Int) (x5 : List Int) (x6 : Int) (x7 : Int) (x8 : List Int) (x9 : Bool) (x10 : List Int) (x11 : Int) (x12 : Int) (x13 : Bool) (x14 : Bool) (x15 : List Int) (x16 : List Int) (x17 : Int) (x18 : Int) (x19 : List (List Int)) (x20 : List Int) (x21 : List Int) (x22 : Int) (x23 : Int) (x24 : Int) (x25 : List Int) (x26 : List (List Int)) (y0 : Int) (y1 : Int) (y2 : Bool) (y3 : Bool) (y4 : List Int) (y5 : List Int) (y6 : Int) (y7 : Int) (y8 : List Int) (y9 : Bool) (y10 : List Int) (y11 : Int) (y12 : Int) (y13 : Bool) (y14 : Bool) (y15 : List Int) (y16 : List Int) (y17 : Int) (y18 : Int) (y19 : List (List Int)) (y20 : List Int) (y21 : List Int) (y22 : Int) (y23 : Int) (y24 : Int) (y25 : List Int) (y26 : List (List Int)) (h : SmT x4 x5 x8 x10 x15 x16 x19 x20 x21 x25 x26) : impl_EqualTables x0 x1 x2 x3 x4 x5 x6 x7 x8 x9 x10 x11 x12 x13 x14 x15 x16 x17 x18 x19 x20 x21 x22 x23 x24 x25 x26 y0 y1 y2 y3 y4 y5 y6 y7 y8 y9 y10 y11 y12 y13 y14 y15 y16 y17 y18 y19 y20 y21 y22 y23 y24 y25 y26 = some (etM x0 x1 x2 x3 x4 x5 x6 x7 x8 x9 x10 x11 x12 x13 x14 x15 x16 x17 x18 x19 x20 x21 x22 x23 x24 x25 x26 y0 y1 y2 y3 y4 y5 y6 y7 y8 y9 y10 y11 y12 y13 y14 y15 y16 y17 y18 y19 y20 y21 y22 y23 y24 y25 y26) := by
  have h4 := h.r4
  have h5 := h.r5
  have h8 := h.r8
  have h10 := h.r10
  have h15 := h.r15
  have h16 := h.r16
  have h19 := h.r19.1
  have h20 := h.r20
  have h21 := h.r21
  have h25 := h.r25
  have h26 := h.r26.1
  have iG := impl_EqualGames_ok x11 x12 x13 x14 x15 x16 x17 x18 x19 x20 x21 x22 x23 x24 y11 y12 y13 y14 y15 y16 y17 y18 y19 y20 y21 y22 y23 y24 (by omega) (by omega) (by omega) (fun r hr => by have := h.r19.2 r hr; omega) (by omega) (by omega)
  rw [impl_EqualTables_eq, impl_EqualRules_ok _ _ _ _ _ _ _ _ _ _ _ _ _ _ _ _ (by omega) (by omega), impl_EqualInts_ok _ _ (by omega), impl_EqualInts_ok _ _ (by omega), iG, impl_EqualInts_ok _ _ (by omega), impl_sameRows_ok _ _ (by omega) (fun r hr => by have := h.r26.2 r hr; omega), etM]
  simp only [Option.bind_some]
  cases reM x0 x1 x2 x3 x4 x5 x6 x7 y0 y1 y2 y3 y4 y5 y6 y7 <;> cases decide (x8 = y8) <;> cases (x9 == y9) <;> cases decide (x10 = y10) <;> cases geM x11 x12 x13 x14 x15 x16 x17 x18 x19 x20 x21 x22 x23 x24 y11 y12 y13 y14 y15 y16 y17 y18 y19 y20 y21 y22 y23 y24 <;> cases decide (x25 = y25) <;> rfl
theorem dec_comm {α : Type} [DecidableEq α] (a b : α) : decide (a = b) = decide (b = a) := by
  by_cases h : a = b
  · rw [h]
  · rw [decide_eq_false h, decide_eq_false (fun e => h e.symm)]
theorem beq_comm' {α : Type} [BEq α] [LawfulBEq α] (a b : α) : (a == b) = (b == a) := by
  rw [Bool.eq_iff_iff, beq_iff_eq, beq_iff_eq]; exact ⟨Eq.symm, Eq.symm⟩
theorem reM_comm (x0 : Int) (x1 : Int) (x2 : Bool) (x3 : Bool) (x4 : List Int) (x5 : List Int) (x6 : Int) (x7 : Int) (y0 : Int) (y1 : Int) (y2 : Bool) (y3 : Bool) (y4 : List Int) (y5 : List Int) (y6 : Int) (y7 : Int) : reM x0 x1 x2 x3 x4 x5 x6 x7 y0 y1 y2 y3 y4 y5 y6 y7 = reM y0 y1 y2 y3 y4 y5 y6 y7 x0 x1 x2 x3 x4 x5 x6 x7 := by
  simp only [reM, beq_comm' x0 y0, beq_comm' x1 y1, beq_comm' x2 y2, beq_comm' x3 y3, dec_comm x4 y4, dec_comm x5 y5, beq_comm' x6 y6, beq_comm' x7 y7]
theorem reM_self (x0 : Int) (x1 : Int) (x2 : Bool) (x3 : Bool) (x4 : List Int) (x5 : List Int) (x6 : Int) (x7 : Int) : reM x0 x1 x2 x3 x4 x5 x6 x7 x0 x1 x2 x3 x4 x5 x6 x7 = true := by simp [reM]
theorem geM_comm (x11 : Int) (x12 : Int) (x13 : Bool) (x14 : Bool) (x15 : List Int) (x16 : List Int) (x17 : Int) (x18 : Int) (x19 : List (List Int)) (x20 : List Int) (x21 : List Int) (x22 : Int) (x23 : Int) (x24 : Int) (y11 : Int) (y12 : Int) (y13 : Bool) (y14 : Bool) (y15 : List Int) (y16 : List Int) (y17 : Int) (y18 : Int) (y19 : List (List Int)) (y20 : List Int) (y21 : List Int) (y22 : Int) (y23 : Int) (y24 : Int) : geM x11 x12 x13 x14 x15 x16 x17 x18 x19 x20 x21 x22 x23 x24 y11 y12 y13 y14 y15 y16 y17 y18 y19 y20 y21 y22 y23 y24 = geM y11 y12 y13 y14 y15 y16 y17 y18 y19 y20 y21 y22 y23 y24 x11 x12 x13 x14 x15 x16 x17 x18 x19 x20 x21 x22 x23 x24 := by
  unfold geM
  rw [reM_comm]
  rw [dec_comm x19 y19, dec_comm x20 y20, dec_comm x21 y21, beq_comm' x22 y22, beq_comm' x23 y23, beq_comm' x24 y24]
theorem geM_self (x11 : Int) (x12 : Int) (x13 : Bool) (x14 : Bool) (x15 : List Int) (x16 : List Int) (x17 : Int) (x18 : Int) (x19 : List (List Int)) (x20 : List Int) (x21 : List Int) (x22 : Int) (x23 : Int) (x24 : Int) : geM x11 x12 x13 x14 x15 x16 x17 x18 x19 x20 x21 x22 x23 x24 x11 x12 x13 x14 x15 x16 x17 x18 x19 x20 x21 x22 x23 x24 = true := by unfold geM; rw [reM_self]; simp
theorem etM_comm (x0 : Int) (x1 : Int) (x2 : Bool) (x3 : Bool) (x4 : List Int) (x5 : List Int) (x6 : Int) (x7 : Int) (x8 : List Int) (x9 : Bool) (x10 : List Int) (x11 : Int) (x12 : Int) (x13 : Bool) (x14 : Bool) (x15 : List Int) (x16 : List Int) (x17 : Int) (x18 : Int) (x19 : List (List Int)) (x20 : List Int) (x21 : List Int) (x22 : Int) (x23 : Int) (x24 : Int) (x25 : List Int) (x26 : List (List Int)) (y0 : Int) (y1 : Int) (y2 : Bool) (y3 : Bool) (y4 : List Int) (y5 : List Int) (y6 : Int) (y7 : Int) (y8 : List Int) (y9 : Bool) (y10 : List Int) (y11 : Int) (y12 : Int) (y13 : Bool) (y14 : Bool) (y15 : List Int) (y16 : List Int) (y17 : Int) (y18 : Int) (y19 : List (List Int)) (y20 : List Int) (y21 : List Int) (y22 : Int) (y23 : Int) (y24 : Int) (y25 : List Int) (y26 : List (List Int)) : etM x0 x1 x2 x3 x4 x5 x6 x7 x8 x9 x10 x11 x12 x13 x14 x15 x16 x17 x18 x19 x20 x21 x22 x23 x24 x25 x26 y0 y1 y2 y3 y4 y5 y6 y7 y8 y9 y10 y11 y12 y13 y14 y15 y16 y17 y18 y19 y20 y21 y22 y23 y24 y25 y26 = etM y0 y1 y2 y3 y4 y5 y6 y7 y8 y9 y10 y11 y12 y13 y14 y15 y16 y17 y18 y19 y20 y21 y22 y23 y24 y25 y26 x0 x1 x2 x3 x4 x5 x6 x7 x8 x9 x10 x11 x12 x13 x14 x15 x16 x17 x18 x19 x20 x21 x22 x23 x24 x25 x26 := by
  unfold etM
  rw [reM_comm, geM_comm, dec_comm x8 y8, beq_comm' x9 y9, dec_comm x10 y10, dec_comm x25 y25, dec_comm x26 y26]
theorem etM_self (x0 : Int) (x1 : Int) (x2 : Bool) (x3 : Bool) (x4 : List Int) (x5 : List Int) (x6 : Int) (x7 : Int) (x8 : List Int) (x9 : Bool) (x10 : List Int) (x11 : Int) (x12 : Int) (x13 : Bool) (x14 : Bool) (x15 : List Int) (x16 : List Int) (x17 : Int) (x18 : Int) (x19 : List (List Int)) (x20 : List Int) (x21 : List Int) (x22 : Int) (x23 : Int) (x24 : Int) (x25 : List Int) (x26 : List (List Int)) : etM x0 x1 x2 x3 x4 x5 x6 x7 x8 x9 x10 x11 x12 x13 x14 x15 x16 x17 x18 x19 x20 x21 x22 x23 x24 x25 x26 x0 x1 x2 x3 x4 x5 x6 x7 x8 x9 x10 x11 x12 x13 x14 x15 x16 x17 x18 x19 x20 x21 x22 x23 x24 x25 x26 = true := by unfold etM; rw [reM_self, geM_self]; simp
theorem FromTricks_tot (l : List Int) (hl : l.length ≤ 1000) : Tot (spec_FromTricks l) (fun r => r.length ≤ 1000) := by
  have k2 : ∀ n : Int, ∀ i, i ≤ l.length → ∀ r : List Int, r.length ≤ i → Tot (spec_FromTricks_L10 l n (i : Int) r) (fun r => r.length ≤ 1000) := fun n => down (by
      intro r hr
      rw [spec_FromTricks_L10_eq, if_dneg (by omega)]
      exact Tot.ret (by omega)) fun i hi ih r hr => by
    rw [spec_FromTricks_L10_eq, if_dpos (by omega), spec_l1In_ok, Option.bind_some]
    refine Tot.ite (fun _ => ?_) fun _ => Tot.ret (by omega)
    refine Tot.guard (by omega) (Tot.guard (by omega) (Tot.guard (by rw [List.length_singleton]; omega) ?_))
    rw [wrap_succ hi (by omega)]
    exact ih _ (by rw [List.length_append, List.length_singleton]; omega)
  have k1 : ∀ i, i ≤ l.length → ∀ n : Int, Tot (spec_FromTricks_L3 l n (i : Int)) (fun r => r.length ≤ 1000) := down (by
      intro n
      rw [spec_FromTricks_L3_eq, if_dneg (by omega)]
      exact k2 n 0 (Nat.zero_le _) [] (Nat.le_refl _)) fun i hi ih n => by
    rw [spec_FromTricks_L3_eq, if_dpos (by omega)]
    refine Tot.guard (by omega) (Tot.guard (by omega) ?_)
    rw [spec_l1In_ok, Option.bind_some]
    refine Tot.ite (fun _ => Tot.ret (Nat.zero_le _)) fun _ => Tot.guard (by omega) (Tot.guard (by omega) ?_)
    rw [wrap_succ hi (by omega)]
    exact ih _
  rw [spec_FromTricks_eq]
  exact k1 0 (Nat.zero_le _) 0
theorem l15Round_tot {c : List Int × Int × Int} (hc : Cur c) (n : Int) (hn : n ≤ 6) : Tot (spec_l15Round c n) (fun r => Cur r.2 ∧ r.1.length ≤ 1000) := by
  have key : ∀ d i : Nat, ∀ (b0 : List Int) (b1 b2 : Int) (r : List Int), Cur (b0, b1, b2) → r.length ≤ i → max 0 n - (i : Int) = (d : Int) → Tot (spec_l15Round_L3 n (i : Int) b0 b1 b2 r) (fun r => Cur r.2 ∧ r.1.length ≤ 1000) := by
    intro d
    induction d with
    | zero =>
      intro i b0 b1 b2 r hb hr hd
      rw [spec_l15Round_L3_eq, if_dneg (by omega)]
      exact Tot.bind (FromTricks_tot r (by omega)) fun s hs => Tot.ret ⟨hb, hs⟩
    | succ d ih =>
      intro i b0 b1 b2 r hb hr hd
      rw [spec_l15Round_L3_eq, if_dpos (by omega)]
      refine Tot.bind (l1Below_tot hb _) fun s ⟨hs, _⟩ => Tot.guard (by rw [List.length_singleton]; omega) ?_
      have w : IntKind.i64.wrap ((i : Int) + 1) = ((i + 1 : Nat) : Int) := by rw [wrap_id (by omega) (by omega)]; omega
      rw [w]
      exact ih (i + 1) _ _ _ _ hs (by rw [List.length_append, List.length_singleton]; omega) (by omega)
  rw [spec_l15Round_eq]
  exact key (max 0 n).toNat 0 _ _ _ [] hc (Nat.zero_le _) (by omega)
theorem l22Draw_p {c : List Int × Int × Int} (hc : Cur c) : Tot (spec_l22Draw c) (fun r => DRu r ∧ r.1 ≤ 6) := by
  rw [spec_l22Draw_eq]
  refine Tot.bind (l1Below_tot hc _) fun r ⟨hr, p1, p2, _⟩ => Tot.bind (l1Below_tot hr _) fun s hs => Tot.bind (l1Once_tot hs.1 _) fun t ht => Tot.bind (l1Below_tot ht _) fun u hu => Tot.bind (l1Below_tot hu.1 _) fun v hv => Tot.bind (l1Once_tot hv.1 _) fun w hw => ?_
  have p2 := p2 (by decide)
  rw [wrap_id (x := 2 + r.1) (by omega) (by omega)]
  have p3 : 2 + r.1 ≤ 6 := by omega
  refine Tot.ite (fun _ => ?_) fun _ => ?_
  · refine Tot.bind (l8Draw1_tot hw) fun x ⟨hx, _, x2⟩ => Tot.bind (l1Once_tot hx _) fun y hy => Tot.ite (fun _ => ?_) fun _ => ?_
    · exact Tot.bind (l8Draw1_tot hy) fun z ⟨hz, _, z2⟩ => Tot.ret ⟨⟨hz, by show x.1.length ≤ _; omega, by show z.1.length ≤ _; omega⟩, p3⟩
    · exact Tot.ret ⟨⟨hy, by show x.1.length ≤ _; omega, Nat.zero_le _⟩, p3⟩
  · refine Tot.bind (l1Once_tot hw _) fun y hy => Tot.ite (fun _ => ?_) fun _ => ?_
    · exact Tot.bind (l8Draw1_tot hy) fun z ⟨hz, _, z2⟩ => Tot.ret ⟨⟨hz, Nat.zero_le _, by show z.1.length ≤ _; omega⟩, p3⟩
    · exact Tot.ret ⟨⟨hy, Nat.zero_le _, Nat.zero_le _⟩, p3⟩
def newTabM (a0 a1 : Int) (a2 a3 : Bool) (a4 a5 : List Int) (a6 a7 : Int) : Int × Int × Bool × Bool × List Int × List Int × Int × Int × List Int × Bool × List Int × Int × Int × Bool × Bool × List Int × List Int × Int × Int × List (List Int) × List Int × List Int × Int × Int × Int × List Int × List (List Int) × Bool := if rulesM a0 a1 a2 a3 a4 a5 a6 a7 = true then (a0, a1, a2, a3, a4, a5, a6, a7, [], false, [], 0, 0, false, false, [], [], 0, 0, [], [], [], 0, 0, 0, [], [], true) else (0, 0, false, false, [], [], 0, 0, [], false, [], 0, 0, false, false, [], [], 0, 0, [], [], [], 0, 0, 0, [], [], false)
theorem spec_NewTable_ok (a0 a1 : Int) (a2 a3 : Bool) (a4 a5 : List Int) (a6 a7 : Int) (h4 : a4.length ≤ 1000) (h5 : a5.length ≤ 1000) : spec_NewTable a0 a1 a2 a3 a4 a5 a6 a7 = some (newTabM a0 a1 a2 a3 a4 a5 a6 a7) := by
  rw [spec_NewTable_eq, spec_IsRules_ok _ _ _ _ _ _ _ _ (by omega) (by omega), Option.bind_some, spec_l22Copy_ok _ _ _ _ _ _ _ _ (by omega) (by omega), newTabM]
  cases rulesM a0 a1 a2 a3 a4 a5 a6 a7 <;> rfl
theorem impl_NewTable_ok (a0 a1 : Int) (a2 a3 : Bool) (a4 a5 : List Int) (a6 a7 : Int) (h4 : a4.length ≤ 1000) (h5 : a5.length ≤ 1000) : impl_NewTable a0 a1 a2 a3 a4 a5 a6 a7 = some (newTabM a0 a1 a2 a3 a4 a5 a6 a7) := by
  rw [impl_NewTable_eq, impl_IsRules_ok _ _ _ _ _ _ _ _ (by omega) (by omega), Option.bind_some, impl_Rules_copied_ok _ _ _ _ _ _ _ _ (by omega) (by omega), newTabM]
  cases rulesM a0 a1 a2 a3 a4 a5 a6 a7 <;> rfl
theorem newTab_small (a0 a1 : Int) (a2 a3 : Bool) (a4 a5 : List Int) (a6 a7 : Int) (h4 : a4.length ≤ 1000) (h5 : a5.length ≤ 1000) (h0 : a0 ≤ 6) : SmT (newTabM a0 a1 a2 a3 a4 a5 a6 a7).2.2.2.2.1 (newTabM a0 a1 a2 a3 a4 a5 a6 a7).2.2.2.2.2.1 (newTabM a0 a1 a2 a3 a4 a5 a6 a7).2.2.2.2.2.2.2.2.1 (newTabM a0 a1 a2 a3 a4 a5 a6 a7).2.2.2.2.2.2.2.2.2.2.1 (newTabM a0 a1 a2 a3 a4 a5 a6 a7).2.2.2.2.2.2.2.2.2.2.2.2.2.2.2.1 (newTabM a0 a1 a2 a3 a4 a5 a6 a7).2.2.2.2.2.2.2.2.2.2.2.2.2.2.2.2.1 (newTabM a0 a1 a2 a3 a4 a5 a6 a7).2.2.2.2.2.2.2.2.2.2.2.2.2.2.2.2.2.2.2.1 (newTabM a0 a1 a2 a3 a4 a5 a6 a7).2.2.2.2.2.2.2.2.2.2.2.2.2.2.2.2.2.2.2.2.1 (newTabM a0 a1 a2 a3 a4 a5 a6 a7).2.2.2.2.2.2.2.2.2.2.2.2.2.2.2.2.2.2.2.2.2.1 (newTabM a0 a1 a2 a3 a4 a5 a6 a7).2.2.2.2.2.2.2.2.2.2.2.2.2.2.2.2.2.2.2.2.2.2.2.2.2.1 (newTabM a0 a1 a2 a3 a4 a5 a6 a7).2.2.2.2.2.2.2.2.2.2.2.2.2.2.2.2.2.2.2.2.2.2.2.2.2.2.1 ∧ (newTabM a0 a1 a2 a3 a4 a5 a6 a7).1 ≤ 6 ∧ (newTabM a0 a1 a2 a3 a4 a5 a6 a7).2.2.2.2.2.2.2.2.1.length ≤ 900 := by
  unfold newTabM
  split
  · exact ⟨⟨h4, h5, Nat.zero_le _, Nat.zero_le _, Nat.zero_le _, Nat.zero_le _, SmR.nil, Nat.zero_le _, Nat.zero_le _, Nat.zero_le _, SmR.nil⟩, h0, Nat.zero_le _⟩
  · exact ⟨⟨Nat.zero_le _, Nat.zero_le _, Nat.zero_le _, Nat.zero_le _, Nat.zero_le _, Nat.zero_le _, SmR.nil, Nat.zero_le _, Nat.zero_le _, Nat.zero_le _, SmR.nil⟩, by show (0 : Int) ≤ 6; omega, Nat.zero_le _⟩
theorem l33Any_tot {c : List Int × Int × Int} (hc : Cur c) : Tot (spec_l33Any c) (fun r => Cur r.2.2.2.2.2.2.2.2.2.2.2.2.2.2.2.2.2.2.2.2.2.2.2.2.2.2.2 ∧ SmT r.2.2.2.2.1 r.2.2.2.2.2.1 r.2.2.2.2.2.2.2.2.1 r.2.2.2.2.2.2.2.2.2.2.1 r.2.2.2.2.2.2.2.2.2.2.2.2.2.2.2.1 r.2.2.2.2.2.2.2.2.2.2.2.2.2.2.2.2.1 r.2.2.2.2.2.2.2.2.2.2.2.2.2.2.2.2.2.2.2.1 r.2.2.2.2.2.2.2.2.2.2.2.2.2.2.2.2.2.2.2.2.1 r.2.2.2.2.2.2.2.2.2.2.2.2.2.2.2.2.2.2.2.2.2.1 r.2.2.2.2.2.2.2.2.2.2.2.2.2.2.2.2.2.2.2.2.2.2.2.2.2.1 r.2.2.2.2.2.2.2.2.2.2.2.2.2.2.2.2.2.2.2.2.2.2.2.2.2.2.1 ∧ r.2.2.2.2.2.2.2.2.1.length ≤ 900) := by
  rw [spec_l33Any_eq]
  refine Tot.bind (l22Draw_p hc) fun u ⟨⟨hu, u4, u5⟩, u0⟩ => ?_
  rw [spec_NewTable_ok _ _ _ _ _ _ _ _ u4 u5, Option.bind_some]
  obtain ⟨sm, s0, s8⟩ := newTab_small u.1 u.2.1 u.2.2.1 u.2.2.2.1 u.2.2.2.2.1 u.2.2.2.2.2.1 u.2.2.2.2.2.2.1 u.2.2.2.2.2.2.2.1 u4 u5 u0
  generalize newTabM u.1 u.2.1 u.2.2.1 u.2.2.2.1 u.2.2.2.2.1 u.2.2.2.2.2.1 u.2.2.2.2.2.2.1 u.2.2.2.2.2.2.2.1 = t at sm s0 s8 ⊢
  refine Tot.bind (l1Below_tot hu _) fun s ⟨hs, _⟩ => Tot.ite (fun _ => ?_) fun _ => Tot.ite (fun _ => ?_) fun _ => Tot.ite (fun _ => ?_) fun _ => Tot.ite (fun _ => ?_) fun _ => Tot.ite (fun _ => ?_) fun _ => Tot.ite (fun _ => ?_) fun _ => Tot.ite (fun _ => ?_) fun _ => ?_
  · exact Tot.bind (l22Any_tot hs) fun v ⟨hv, v4, v5⟩ => Tot.ret ⟨hv, { sm with r4 := v4, r5 := v5 }, s8⟩
  · refine Tot.bind (l1Below_tot hs _) fun v ⟨hv, v1, v2, _⟩ => ?_
    have v2 := v2 (by decide)
    rw [wrap_id (x := 1 + v.1) (by omega) (by omega)]
    exact Tot.guard rfl (Tot.guard (by omega) (Tot.guard (by omega) (Tot.ret ⟨hv, { sm with r8 := by rw [List.length_replicate]; omega }, by show (List.replicate _ (0 : Int)).length ≤ 900; rw [List.length_replicate]; omega⟩)))
  · exact Tot.bind (l15Round_tot hs _ s0) fun v ⟨hv, v1⟩ => Tot.ret ⟨hv, { sm with r26 := SmR.one v1 }, s8⟩
  · exact Tot.ret ⟨hs, { sm with r26 := SmR.one (by show 2 ≤ 1000; omega) }, s8⟩
  · exact Tot.ret ⟨hs, sm, s8⟩
  · exact Tot.ret ⟨hs, { sm with r25 := by show 1 ≤ 1000; omega }, s8⟩
  · obtain ⟨D, e1, d1, d2⟩ := full_ex
    rw [e1, Option.bind_some]
    exact Tot.ret ⟨hs, { sm with r10 := by show D.length ≤ 1000; omega }, s8⟩
  · exact Tot.ret ⟨hs, sm, s8⟩
theorem DrawIsTable_tot {a : List Int} (ha : a.length ≤ 1048576) : Tot (spec_DrawIsTable a) (fun _ => True) := by
  rw [spec_DrawIsTable_eq]
  exact Tot.bind (l1New_tot ha) fun c hc => Tot.bind (l33Any_tot hc) fun p hp => Tot.ret trivial
theorem DrawIsSealed_tot {a : List Int} (ha : a.length ≤ 1048576) : Tot (spec_DrawIsSealed a) (fun _ => True) := by
  rw [spec_DrawIsSealed_eq]
  exact Tot.bind (DrawIsTable_tot ha) fun p hp => Tot.ret trivial
theorem DrawIsRules_tot {a : List Int} (ha : a.length ≤ 1048576) : Tot (spec_DrawIsRules a) (fun r => r.2.2.2.2.1.length ≤ 1000 ∧ r.2.2.2.2.2.1.length ≤ 1000) := by
  rw [spec_DrawIsRules_eq]
  exact Tot.bind (l1New_tot ha) fun c hc => Tot.bind (l22Any_tot hc) fun p hp => Tot.ret hp.2
theorem DrawNewTable_tot {a : List Int} (ha : a.length ≤ 1048576) : Tot (spec_DrawNewTable a) (fun r => r.2.2.2.2.1.length ≤ 1000 ∧ r.2.2.2.2.2.1.length ≤ 1000) := by
  rw [spec_DrawNewTable_eq]
  exact Tot.bind (DrawIsRules_tot ha) fun p hp => Tot.ret hp
theorem spec_l33Copy_ok (x0 : Int) (x1 : Int) (x2 : Bool) (x3 : Bool) (x4 : List Int) (x5 : List Int) (x6 : Int) (x7 : Int) (x8 : List Int) (x9 : Bool) (x10 : List Int) (x11 : Int) (x12 : Int) (x13 : Bool) (x14 : Bool) (x15 : List Int) (x16 : List Int) (x17 : Int) (x18 : Int) (x19 : List (List Int)) (x20 : List Int) (x21 : List Int) (x22 : Int) (x23 : Int) (x24 : Int) (x25 : List Int) (x26 : List (List Int)) (h : SmT x4 x5 x8 x10 x15 x16 x19 x20 x21 x25 x26) : spec_l33Copy x0 x1 x2 x3 x4 x5 x6 x7 x8 x9 x10 x11 x12 x13 x14 x15 x16 x17 x18 x19 x20 x21 x22 x23 x24 x25 x26 = some (x0, x1, x2, x3, x4, x5, x6, x7, x8, x9, x10, x11, x12, x13, x14, x15, x16, x17, x18, x19, x20, x21, x22, x23, x24, x25, x26) := by
  have h4 := h.r4
  have h5 := h.r5
  have h8 := h.r8
  have h10 := h.r10
  have h15 := h.r15
  have h16 := h.r16
  have h20 := h.r20
  have h21 := h.r21
  have h25 := h.r25
  have h26 := h.r26.1
  have e3 := spec_l15Copy_ok x26 (by omega) (fun r hr => by have := h.r26.2 r hr; omega)
  rw [spec_l33Copy_eq, spec_l22Copy_ok _ _ _ _ _ _ _ _ (by omega) (by omega), Option.bind_some, if_pos (by omega), if_pos (by omega), spec_l24Copy_ok _ _ _ _ _ _ _ _ _ _ _ _ _ _ (by omega) (by omega) h.r19.g2 (by omega) (by omega), Option.bind_some, if_pos (by omega), e3, Option.bind_some]
  rfl
theorem DrawEqualTables_tot {a : List Int} (ha : a.length ≤ 1048576) : Tot (spec_DrawEqualTables a) (fun r => SmT r.2.2.2.2.1 r.2.2.2.2.2.1 r.2.2.2.2.2.2.2.2.1 r.2.2.2.2.2.2.2.2.2.2.1 r.2.2.2.2.2.2.2.2.2.2.2.2.2.2.2.1 r.2.2.2.2.2.2.2.2.2.2.2.2.2.2.2.2.1 r.2.2.2.2.2.2.2.2.2.2.2.2.2.2.2.2.2.2.2.1 r.2.2.2.2.2.2.2.2.2.2.2.2.2.2.2.2.2.2.2.2.1 r.2.2.2.2.2.2.2.2.2.2.2.2.2.2.2.2.2.2.2.2.2.1 r.2.2.2.2.2.2.2.2.2.2.2.2.2.2.2.2.2.2.2.2.2.2.2.2.2.1 r.2.2.2.2.2.2.2.2.2.2.2.2.2.2.2.2.2.2.2.2.2.2.2.2.2.2.1 ∧ SmT r.2.2.2.2.2.2.2.2.2.2.2.2.2.2.2.2.2.2.2.2.2.2.2.2.2.2.2.2.2.2.2.1 r.2.2.2.2.2.2.2.2.2.2.2.2.2.2.2.2.2.2.2.2.2.2.2.2.2.2.2.2.2.2.2.2.1 r.2.2.2.2.2.2.2.2.2.2.2.2.2.2.2.2.2.2.2.2.2.2.2.2.2.2.2.2.2.2.2.2.2.2.2.1 r.2.2.2.2.2.2.2.2.2.2.2.2.2.2.2.2.2.2.2.2.2.2.2.2.2.2.2.2.2.2.2.2.2.2.2.2.2.1 r.2.2.2.2.2.2.2.2.2.2.2.2.2.2.2.2.2.2.2.2.2.2.2.2.2.2.2.2.2.2.2.2.2.2.2.2.2.2.2.2.2.2.1 r.2.2.2.2.2.2.2.2.2.2.2.2.2.2.2.2.2.2.2.2.2.2.2.2.2.2.2.2.2.2.2.2.2.2.2.2.2.2.2.2.2.2.2.1 r.2.2.2.2.2.2.2.2.2.2.2.2.2.2.2.2.2.2.2.2.2.2.2.2.2.2.2.2.2.2.2.2.2.2.2.2.2.2.2.2.2.2.2.2.2.2.1 r.2.2.2.2.2.2.2.2.2.2.2.2.2.2.2.2.2.2.2.2.2.2.2.2.2.2.2.2.2.2.2.2.2.2.2.2.2.2.2.2.2.2.2.2.2.2.2.1 r.2.2.2.2.2.2.2.2.2.2.2.2.2.2.2.2.2.2.2.2.2.2.2.2.2.2.2.2.2.2.2.2.2.2.2.2.2.2.2.2.2.2.2.2.2.2.2.2.1 r.2.2.2.2.2.2.2.2.2.2.2.2.2.2.2.2.2.2.2.2.2.2.2.2.2.2.2.2.2.2.2.2.2.2.2.2.2.2.2.2.2.2.2.2.2.2.2.2.2.2.2.2.1 r.2.2.2.2.2.2.2.2.2.2.2.2.2.2.2.2.2.2.2.2.2.2.2.2.2.2.2.2.2.2.2.2.2.2.2.2.2.2.2.2.2.2.2.2.2.2.2.2.2.2.2.2.2) := by
  rw [spec_DrawEqualTables_eq]
  refine Tot.bind (l1New_tot ha) fun c hc => Tot.bind (l33Any_tot hc) fun t ⟨ht, sm, s8⟩ => ?_
  rw [spec_l33Copy_ok t.1 t.2.1 t.2.2.1 t.2.2.2.1 t.2.2.2.2.1 t.2.2.2.2.2.1 t.2.2.2.2.2.2.1 t.2.2.2.2.2.2.2.1 t.2.2.2.2.2.2.2.2.1 t.2.2.2.2.2.2.2.2.2.1 t.2.2.2.2.2.2.2.2.2.2.1 t.2.2.2.2.2.2.2.2.2.2.2.1 t.2.2.2.2.2.2.2.2.2.2.2.2.1 t.2.2.2.2.2.2.2.2.2.2.2.2.2.1 t.2.2.2.2.2.2.2.2.2.2.2.2.2.2.1 t.2.2.2.2.2.2.2.2.2.2.2.2.2.2.2.1 t.2.2.2.2.2.2.2.2.2.2.2.2.2.2.2.2.1 t.2.2.2.2.2.2.2.2.2.2.2.2.2.2.2.2.2.1 t.2.2.2.2.2.2.2.2.2.2.2.2.2.2.2.2.2.2.1 t.2.2.2.2.2.2.2.2.2.2.2.2.2.2.2.2.2.2.2.1 t.2.2.2.2.2.2.2.2.2.2.2.2.2.2.2.2.2.2.2.2.1 t.2.2.2.2.2.2.2.2.2.2.2.2.2.2.2.2.2.2.2.2.2.1 t.2.2.2.2.2.2.2.2.2.2.2.2.2.2.2.2.2.2.2.2.2.2.1 t.2.2.2.2.2.2.2.2.2.2.2.2.2.2.2.2.2.2.2.2.2.2.2.1 t.2.2.2.2.2.2.2.2.2.2.2.2.2.2.2.2.2.2.2.2.2.2.2.2.1 t.2.2.2.2.2.2.2.2.2.2.2.2.2.2.2.2.2.2.2.2.2.2.2.2.2.1 t.2.2.2.2.2.2.2.2.2.2.2.2.2.2.2.2.2.2.2.2.2.2.2.2.2.2.1 sm, Option.bind_some]
  refine Tot.bind (l1Below_tot ht _) fun s ⟨hs, _⟩ => Tot.ite (fun _ => ?_) fun _ => Tot.ite (fun _ => ?_) fun _ => ?_
  · exact Tot.bind (l33Any_tot hs) fun v ⟨hv, v2, _⟩ => Tot.ret ⟨sm, v2⟩
  · have := sm.r8
    exact Tot.guard (by show (t.2.2.2.2.2.2.2.2.1.length + 1) * 8 ≤ 140737488355328; omega) (Tot.ret ⟨sm, { sm with r8 := by show (t.2.2.2.2.2.2.2.2.1 ++ [3]).length ≤ 1000; rw [List.length_append]; show t.2.2.2.2.2.2.2.2.1.length + 1 ≤ 1000; omega }⟩)
  · exact Tot.ret ⟨sm, sm⟩
end Go.Proofs.Ytoioaijpdiglfaa.V
