/- Plain laws over the shapes. -/
import Derived.Test.YtoioaijpdiglfaaPGameL
import Derived.Test.YtoioaijpdiglfaaFTakeCards
import Derived.Test.YtoioaijpdiglfaaS1
import Derived.Test.YtoioaijpdiglfaaS2
import Derived.Test.YtoioaijpdiglfaaS3
import Derived.Test.YtoioaijpdiglfaaS4
set_option linter.unusedVariables false
set_option linter.unusedSimpArgs false
set_option maxRecDepth 10000
namespace Go.Proofs.Ytoioaijpdiglfaa.V
open Go
/-- It has an answer, and one of these. -/
def Tot {α : Type} (x : Option α) (Q : α → Prop) : Prop := ∃ r, x = some r ∧ Q r
theorem Tot.bind {α β : Type} {x : Option α} {k : α → Option β} {Q : α → Prop} {Q' : β → Prop} (h : Tot x Q) (hk : ∀ r, Q r → Tot (k r) Q') : Tot (x.bind k) Q' := by
  obtain ⟨r, rfl, hr⟩ := h
  exact hk r hr
theorem Tot.mono {α : Type} {x : Option α} {Q Q' : α → Prop} (h : Tot x Q) (hk : ∀ r, Q r → Q' r) : Tot x Q' := by
  obtain ⟨r, e, hr⟩ := h
  exact ⟨r, e, hk r hr⟩
theorem Tot.ret {α : Type} {r : α} {Q : α → Prop} (h : Q r) : Tot (some r) Q := ⟨r, rfl, h⟩
theorem Tot.guard {α : Type} {p : Prop} [Decidable p] {x : Option α} {Q : α → Prop} (h : p) (hx : Tot x Q) : Tot (if p then x else none) Q := by rw [if_pos h]; exact hx
theorem Tot.nguard {α : Type} {p : Prop} [Decidable p] {x : Option α} {Q : α → Prop} (h : ¬ p) (hx : Tot x Q) : Tot (if p then none else x) Q := by rw [if_neg h]; exact hx
theorem Tot.ite {α : Type} {p : Prop} [Decidable p] {x y : Option α} {Q : α → Prop} (hx : p → Tot x Q) (hy : ¬ p → Tot y Q) : Tot (if p then x else y) Q := by
  by_cases h : p
  · rw [if_pos h]; exact hx h
  · rw [if_neg h]; exact hy h
theorem Tot.dite {α : Type} {p : Prop} [Decidable p] {x y : Option α} {Q : α → Prop} (hx : p → Tot x Q) (hy : ¬ p → Tot y Q) : Tot (if decide p = true then x else y) Q := by
  by_cases h : p
  · rw [if_dpos h]; exact hx h
  · rw [if_dneg h]; exact hy h
/-- A cursor. -/
def Cur (c : List Int × Int × Int) : Prop := 0 ≤ c.2.1 ∧ c.1.length ≤ 1048576
theorem l1New_tot {a : List Int} (ha : a.length ≤ 1048576) : Tot (spec_l1New a) Cur := by
  have key : ∀ i, i ≤ a.length → ∀ h : Int, Tot (spec_l1New_L3 a h (i : Int)) Cur := down (by
      intro h
      rw [spec_l1New_L3_eq, if_dneg (by omega)]
      exact Tot.ret ⟨Int.le_refl _, ha⟩) fun i hi ih h => by
    rw [spec_l1New_L3_eq, if_dpos (by omega)]
    refine Tot.dite (fun _ => ?_) fun _ => Tot.ret ⟨Int.le_refl _, ha⟩
    rw [if_pos (by omega), if_pos (by omega), wrap_succ hi (by omega)]
    exact ih _
  rw [spec_l1New_eq]
  exact key 0 (Nat.zero_le _) _
theorem and_255 (x : BitVec IntKind.i64.bits) : 0 ≤ IntKind.i64.wrap ((x &&& BitVec.ofInt IntKind.i64.bits 255).toNat : Int) ∧ IntKind.i64.wrap ((x &&& BitVec.ofInt IntKind.i64.bits 255).toNat : Int) ≤ 255 := by
  have h : (x &&& BitVec.ofInt IntKind.i64.bits 255).toNat ≤ 255 := by
    rw [BitVec.toNat_and]
    exact Nat.le_trans Nat.and_le_right (by decide)
  rw [wrap_id (by omega) (by omega)]
  omega
theorem l1Byte_tot {c : List Int × Int × Int} (hc : Cur c) : Tot (spec_l1Byte c) (fun r => Cur r.2 ∧ 0 ≤ r.1 ∧ r.1 ≤ 255) := by
  obtain ⟨h1, h2⟩ := hc
  rw [spec_l1Byte_eq]
  refine Tot.dite (fun h => ?_) fun h => ?_
  · refine Tot.guard h1 (Tot.guard h (Tot.ret ⟨⟨?_, h2⟩, and_255 _⟩))
    show 0 ≤ IntKind.i64.wrap (c.2.1 + 1)
    rw [wrap_id (by omega) (by omega)]; omega
  · exact Tot.ret ⟨⟨h1, h2⟩, and_255 _⟩
def Below (n : Int) (x : Int) : Prop := 0 ≤ x ∧ (0 < n → x < n) ∧ (n ≤ 0 → x = 0)
theorem tmod_below {x n : Int} (hx : 0 ≤ x) (hn : 0 < n) : Below n (x.tmod n) := by
  rw [Below, Int.tmod_eq_emod_of_nonneg hx]
  have := Int.emod_nonneg x (by omega : n ≠ 0)
  have := Int.emod_lt_of_pos x hn
  omega
theorem l1Below_tot {c : List Int × Int × Int} (hc : Cur c) (n : Int) : Tot (spec_l1Below c n) (fun r => Cur r.2 ∧ Below n r.1) := by
  rw [spec_l1Below_eq]
  refine Tot.dite (fun h => Tot.ret ⟨hc, Int.le_refl _, fun h' => by omega, fun _ => rfl⟩) fun h => Tot.dite (fun h' => ?_) fun h' => ?_
  · refine Tot.bind (l1Byte_tot hc) fun r ⟨hr, h1, h2⟩ => Tot.nguard (by omega) (Tot.ret ⟨hr, tmod_below h1 (by omega)⟩)
  · refine Tot.bind (l1Byte_tot hc) fun r ⟨hr, h1, h2⟩ => Tot.bind (l1Byte_tot hr) fun s ⟨hs, g1, g2⟩ => Tot.bind (l1Byte_tot hs) fun t ⟨ht, k1, k2⟩ => Tot.nguard (by omega) (Tot.ret ⟨ht, tmod_below ?_ (by omega)⟩)
    rw [wrap_id (x := r.1 * 65536) (by omega) (by omega), wrap_id (x := s.1 * 256) (by omega) (by omega), wrap_id (x := r.1 * 65536 + s.1 * 256) (by omega) (by omega), wrap_id (by omega) (by omega)]
    omega
theorem l1Once_tot {c : List Int × Int × Int} (hc : Cur c) (n : Int) : Tot (spec_l1Once c n) (fun r => Cur r.2) := by
  rw [spec_l1Once_eq]
  exact Tot.bind (l1Below_tot hc n) fun r hr => Tot.ret hr.1
theorem l1Int_tot {c : List Int × Int × Int} (hc : Cur c) {l : List Int} (hl : 0 < l.length) : Tot (spec_l1Int c l) (fun r => Cur r.2 ∧ r.1 ∈ l) := by
  rw [spec_l1Int_eq]
  refine Tot.bind (l1Below_tot hc _) fun r ⟨hr, h1, h2, h3⟩ => ?_
  have := h2 (by omega)
  exact Tot.guard h1 (Tot.guard this (Tot.ret ⟨hr, getD_mem (by omega)⟩))
theorem l4Card_tot {c : List Int × Int × Int} (hc : Cur c) : Tot (spec_l4Card c) (fun r => Cur r.2) := by
  rw [spec_l4Card_eq]
  refine Tot.bind (l1Below_tot hc _) fun r ⟨hr, _⟩ => Tot.bind (l1Below_tot hr _) fun s ⟨hs, _⟩ => Tot.bind (l1Below_tot hs _) fun t ⟨ht, _⟩ => Tot.bind (l1Int_tot ht (Nat.zero_lt_succ _)) fun u ⟨hu, _⟩ => Tot.ret hu
def cards52 (n : Nat) : List Int := (List.range n).map fun (i : Nat) => (i : Int)
theorem cards52_succ (n : Nat) : cards52 (n + 1) = cards52 n ++ [(n : Int)] := by simp [cards52, List.range_succ]
theorem cards52_length (n : Nat) : (cards52 n).length = n := by simp [cards52]
theorem full_is : ∀ i : Nat, i ≤ 52 → spec_Missing_L3 [] (i : Int) (cards52 i) = some (cards52 52) := down (by
    rw [spec_Missing_L3_eq, if_dneg (by omega)]) fun i hi ih => by
  have hh : spec_HasCard [] (i : Int) = some false := by rw [spec_HasCard_ok _ _ (Nat.zero_le _)]; rfl
  have hl := cards52_length i
  rw [spec_Missing_L3_eq, if_dpos (by omega), hh, Option.bind_some, if_pos (by decide), if_pos (by rw [hl, List.length_singleton]; omega), wrap_succ hi (by omega), ← cards52_succ]
  exact ih
theorem spec_FullDeck_ok : spec_FullDeck = some (cards52 52) := by
  rw [spec_FullDeck_eq, spec_Missing_eq]
  have h := full_is 0 (by omega)
  have h : spec_Missing_L3 [] 0 [] = some (cards52 52) := h
  rw [h]; rfl
theorem full_hand : handM (cards52 52) = true := by decide +kernel
theorem shuffledM_perm {l : List Int} (seed : Int) (hl : l.length ≤ 1000) : (shuffledM l seed).Perm l := by
  unfold shuffledM
  by_cases e : l.length = 0
  · have : l = [] := List.length_eq_zero_iff.1 e
    subst this
    have := shufM_length seed 0 []
    have : shufM seed 0 [] = [] := List.length_eq_zero_iff.1 this
    show (shufM seed 0 []).Perm []
    rw [this]
  · exact shufM_perm seed _ _ (by omega) (by omega)
theorem full_ex : ∃ D : List Int, spec_FullDeck = some D ∧ D.length = 52 ∧ handM D = true := ⟨_, spec_FullDeck_ok, cards52_length 52, full_hand⟩
theorem shuffled_ex {D : List Int} (h1 : D.length = 52) (h2 : handM D = true) (s : Int) : ∃ E : List Int, spec_Shuffled D s = some E ∧ E.length = 52 ∧ handM E = true := by
  have hp := shuffledM_perm s (l := D) (by omega)
  exact ⟨_, spec_Shuffled_ok _ _ (by omega), by rw [hp.length_eq]; exact h1, by rw [handM_perm hp]; exact h2⟩
theorem l8Leaves_tot {c : List Int × Int × Int} (hc : Cur c) : Tot (spec_l8Leaves c) (fun r => Cur r.2) := by
  rw [spec_l8Leaves_eq]
  exact Tot.bind (l1Below_tot hc _) fun r hr => Tot.bind (l1Below_tot hr.1 _) fun s hs => Tot.bind (l1Below_tot hs.1 _) fun t ht => Tot.bind (l1Int_tot ht.1 (Nat.zero_lt_succ _)) fun u hu => Tot.ret hu.1
def DPat (n : Nat) (r : List Int × List Int × Int × Int) : Prop := Cur r.2 ∧ 0 < r.1.length ∧ r.1.length ≤ n
theorem l8Draw0_tot {c : List Int × Int × Int} (hc : Cur c) : Tot (spec_l8Draw c 0) (DPat 10) := by
  rw [spec_l8Draw_eq, if_epos rfl]
  exact Tot.bind (l8Leaves_tot hc) fun r hr => Tot.ret ⟨hr, Nat.zero_lt_one, by show 1 ≤ 10; omega⟩
theorem l8DrawS_tot {n : Nat} {k : Int} (hn : 1 ≤ n ∧ n ≤ 300) (hk : 1 ≤ k ∧ k ≤ 2) (ih : ∀ {c : List Int × Int × Int}, Cur c → Tot (spec_l8Draw c (k - 1)) (DPat n)) {c : List Int × Int × Int} (hc : Cur c) : Tot (spec_l8Draw c k) (DPat (2 * n + 1)) := by
  rw [spec_l8Draw_eq, if_eneg (by omega), wrap_id (by omega) (by omega)]
  refine Tot.bind (l1Once_tot hc _) fun r hr => Tot.ite (fun _ => ?_) fun _ => Tot.bind (l1Once_tot hr _) fun s hs => Tot.ite (fun _ => ?_) fun _ => ?_
  · exact Tot.bind (l8Leaves_tot hr) fun r hr => Tot.ret ⟨hr, Nat.zero_lt_one, by show 1 ≤ 2 * n + 1; omega⟩
  · refine Tot.bind (ih hs) fun t ⟨ht, t1, t2⟩ => Tot.guard (by rw [List.length_singleton]; omega) (Tot.ret ⟨ht, ?_, ?_⟩)
    · show 0 < (t.1 ++ [_]).length; rw [List.length_append]; omega
    · show (t.1 ++ [_]).length ≤ _; rw [List.length_append, List.length_singleton]; omega
  · refine Tot.bind (ih hs) fun t ⟨ht, t1, t2⟩ => Tot.bind (ih ht) fun u ⟨hu, u1, u2⟩ => Tot.guard (by omega) (Tot.bind (l1Below_tot hu _) fun v hv => Tot.guard (by rw [List.length_append, List.length_singleton]; omega) (Tot.ret ⟨hv.1, ?_, ?_⟩))
    · show 0 < ((t.1 ++ u.1) ++ [_]).length; rw [List.length_append, List.length_append]; omega
    · show ((t.1 ++ u.1) ++ [_]).length ≤ _; rw [List.length_append, List.length_append, List.length_singleton]; omega
theorem l8Draw1_tot {c : List Int × Int × Int} (hc : Cur c) : Tot (spec_l8Draw c 1) (DPat 21) := l8DrawS_tot (n := 10) (k := 1) (by omega) (by omega) (fun h => l8Draw0_tot h) hc
theorem l8Draw2_tot {c : List Int × Int × Int} (hc : Cur c) : Tot (spec_l8Draw c 2) (DPat 43) := l8DrawS_tot (n := 21) (k := 2) (by omega) (by omega) (fun h => l8Draw1_tot h) hc
theorem l8Any_tot {c : List Int × Int × Int} (hc : Cur c) : Tot (spec_l8Any c) (fun r => Cur r.2 ∧ r.1.length ≤ 1000) := by
  rw [spec_l8Any_eq]
  refine Tot.bind (l8Draw2_tot hc) fun r ⟨hr, r1, r2⟩ => Tot.bind (l1Below_tot hr _) fun s hs => Tot.ite (fun _ => ?_) fun _ => Tot.ite (fun _ => ?_) fun _ => ?_
  · refine Tot.bind (l1Below_tot hs.1 _) fun t ⟨ht, t1, t2, _⟩ => Tot.bind (l1Int_tot ht (Nat.zero_lt_succ _)) fun u hu => Tot.guard t1 (Tot.guard (t2 (by omega)) (Tot.ret ⟨hu.1, ?_⟩))
    show (r.1.set _ _).length ≤ _; rw [List.length_set]; omega
  · exact Tot.guard (by omega) (Tot.ret ⟨hs.1, by show ((r.1.take _).drop 1).length ≤ _; rw [List.length_drop, List.length_take]; omega⟩)
  · exact Tot.ret ⟨hs.1, by show r.1.length ≤ _; omega⟩
def DRu (r : Int × Int × Bool × Bool × List Int × List Int × Int × Int × List Int × Int × Int) : Prop := Cur r.2.2.2.2.2.2.2.2 ∧ r.2.2.2.2.1.length ≤ 1000 ∧ r.2.2.2.2.2.1.length ≤ 1000
theorem l22Draw_tot {c : List Int × Int × Int} (hc : Cur c) : Tot (spec_l22Draw c) DRu := by
  rw [spec_l22Draw_eq]
  refine Tot.bind (l1Below_tot hc _) fun r hr => Tot.bind (l1Below_tot hr.1 _) fun s hs => Tot.bind (l1Once_tot hs.1 _) fun t ht => Tot.bind (l1Below_tot ht _) fun u hu => Tot.bind (l1Below_tot hu.1 _) fun v hv => Tot.bind (l1Once_tot hv.1 _) fun w hw => Tot.ite (fun _ => ?_) fun _ => ?_
  · refine Tot.bind (l8Draw1_tot hw) fun x ⟨hx, _, x2⟩ => Tot.bind (l1Once_tot hx _) fun y hy => Tot.ite (fun _ => ?_) fun _ => ?_
    · exact Tot.bind (l8Draw1_tot hy) fun z ⟨hz, _, z2⟩ => Tot.ret ⟨hz, by show x.1.length ≤ _; omega, by show z.1.length ≤ _; omega⟩
    · exact Tot.ret ⟨hy, by show x.1.length ≤ _; omega, Nat.zero_le _⟩
  · refine Tot.bind (l1Once_tot hw _) fun y hy => Tot.ite (fun _ => ?_) fun _ => ?_
    · exact Tot.bind (l8Draw1_tot hy) fun z ⟨hz, _, z2⟩ => Tot.ret ⟨hz, Nat.zero_le _, by show z.1.length ≤ _; omega⟩
    · exact Tot.ret ⟨hy, Nat.zero_le _, Nat.zero_le _⟩
theorem l22Any_tot {c : List Int × Int × Int} (hc : Cur c) : Tot (spec_l22Any c) DRu := by
  rw [spec_l22Any_eq]
  refine Tot.bind (l22Draw_tot hc) fun r ⟨hr, r4, r5⟩ => Tot.bind (l1Below_tot hr _) fun s ⟨hs, _⟩ => Tot.ite (fun _ => ?_) fun _ => Tot.ite (fun _ => ?_) fun _ => Tot.ite (fun _ => ?_) fun _ => Tot.ite (fun _ => ?_) fun _ => Tot.ite (fun _ => ?_) fun _ => Tot.ite (fun _ => ?_) fun _ => ?_
  · exact Tot.bind (l1Int_tot hs (Nat.zero_lt_succ _)) fun t ht => Tot.ret ⟨ht.1, r4, r5⟩
  · exact Tot.bind (l1Int_tot hs (Nat.zero_lt_succ _)) fun t ht => Tot.ret ⟨ht.1, r4, r5⟩
  · exact Tot.ret ⟨hs, r4, r5⟩
  · exact Tot.bind (l8Any_tot hs) fun t ht => Tot.ret ⟨ht.1, ht.2, r5⟩
  · exact Tot.bind (l1Int_tot hs (Nat.zero_lt_succ _)) fun t ht => Tot.ret ⟨ht.1, r4, r5⟩
  · exact Tot.bind (l1Int_tot hs (Nat.zero_lt_succ _)) fun t ht => Tot.ret ⟨ht.1, r4, r5⟩
  · exact Tot.ret ⟨hs, r4, r5⟩
def DGa (n : Nat) (r : Int × Int × Bool × Bool × List Int × List Int × Int × Int × List (List Int) × List Int × List Int × Int × Int × Int × List Int × Int × Int) : Prop := Cur r.2.2.2.2.2.2.2.2.2.2.2.2.2.2 ∧ Sm n r.2.2.2.2.1 r.2.2.2.2.2.1 r.2.2.2.2.2.2.2.2.1 r.2.2.2.2.2.2.2.2.2.1 r.2.2.2.2.2.2.2.2.2.2.1
theorem l24Start_tot {c : List Int × Int × Int} (hc : Cur c) : Tot (spec_l24Start c) (DGa 52) := by
  obtain ⟨D, e1, d1, d2⟩ := full_ex
  rw [spec_l24Start_eq, spec_EasyRules_eq, Option.bind_some, e1]
  refine Tot.bind (l1Once_tot hc _) fun r hr => Tot.ite (fun _ => ?_) fun _ => ?_
  · refine Tot.bind (l22Draw_tot hr) fun s ⟨hs, s4, s5⟩ => ?_
    rw [Option.bind_some]
    refine Tot.bind (l1Below_tot hs _) fun t ⟨ht, _⟩ => ?_
    obtain ⟨E, e2, k1, k2⟩ := shuffled_ex d1 d2 t.1
    rw [e2, Option.bind_some]
    obtain ⟨g, g1, _, _, g4⟩ := newGame_ex s.1 s.2.1 s.2.2.1 s.2.2.2.1 s.2.2.2.2.1 s.2.2.2.2.2.1 s.2.2.2.2.2.2.1 s.2.2.2.2.2.2.2.1 E s4 s5 (by omega)
    rw [g1, Option.bind_some]
    exact Tot.ret ⟨ht, g4⟩
  · rw [Option.bind_some]
    refine Tot.bind (l1Below_tot hr _) fun t ⟨ht, _⟩ => ?_
    obtain ⟨E, e2, k1, k2⟩ := shuffled_ex d1 d2 t.1
    rw [e2, Option.bind_some]
    obtain ⟨g, g1, _, _, g4⟩ := newGame_ex 3 5 true true [206] [212] 1 200 E (by decide) (by decide) (by omega)
    dsimp only
    rw [g1, Option.bind_some]
    exact Tot.ret ⟨ht, g4⟩
theorem play_small (a0 a1 : Int) (a2 a3 : Bool) (a4 a5 : List Int) (a6 a7 : Int) (hs : List (List Int)) (st hp : List Int) (tu mo pa : Int) (c : Int) (h : Sm 52 a4 a5 hs st hp) : Sm 52 (playOnM a0 a1 a2 a3 a4 a5 a6 a7 hs st hp tu mo pa c).2.2.2.2.1 (playOnM a0 a1 a2 a3 a4 a5 a6 a7 hs st hp tu mo pa c).2.2.2.2.2.1 (playOnM a0 a1 a2 a3 a4 a5 a6 a7 hs st hp tu mo pa c).2.2.2.2.2.2.2.2.1 (playOnM a0 a1 a2 a3 a4 a5 a6 a7 hs st hp tu mo pa c).2.2.2.2.2.2.2.2.2.1 (playOnM a0 a1 a2 a3 a4 a5 a6 a7 hs st hp tu mo pa c).2.2.2.2.2.2.2.2.2.2.1 := by
  unfold playOnM
  split
  · rename_i hc
    exact game_small _ _ _ _ _ _ _ _ _ _ _ _ _ _ (play_game a0 a1 a2 a3 a4 a5 a6 a7 hs st hp tu mo pa hc).1 h.1 h.2.1
  · exact h
theorem take_small (a0 a1 : Int) (a2 a3 : Bool) (a4 a5 : List Int) (a6 a7 : Int) (hs : List (List Int)) (st hp : List Int) (tu mo pa : Int) (h : Sm 52 a4 a5 hs st hp) : Sm 52 (takeM a0 a1 a2 a3 a4 a5 a6 a7 hs st hp tu mo pa).2.2.2.2.1 (takeM a0 a1 a2 a3 a4 a5 a6 a7 hs st hp tu mo pa).2.2.2.2.2.1 (takeM a0 a1 a2 a3 a4 a5 a6 a7 hs st hp tu mo pa).2.2.2.2.2.2.2.2.1 (takeM a0 a1 a2 a3 a4 a5 a6 a7 hs st hp tu mo pa).2.2.2.2.2.2.2.2.2.1 (takeM a0 a1 a2 a3 a4 a5 a6 a7 hs st hp tu mo pa).2.2.2.2.2.2.2.2.2.2.1 := by
  unfold takeM
  split
  · rename_i hc
    simp only [Bool.and_eq_true, Bool.not_eq_true'] at hc
    exact game_small _ _ _ _ _ _ _ _ _ _ _ _ _ _ (take_game a0 a1 a2 a3 a4 a5 a6 a7 hs st hp tu mo pa hc.1 hc.2).1 h.1 h.2.1
  · exact h
theorem l24Draw_tot {c : List Int × Int × Int} (hc : Cur c) : Tot (spec_l24Draw c) (DGa 60) := by
  rw [spec_l24Draw_eq]
  refine Tot.bind (l24Start_tot hc) fun g ⟨hg, gs⟩ => Tot.bind (l1Below_tot hg _) fun t ⟨ht, t1, t2, _⟩ => ?_
  have t2 := t2 (by decide)
  have key : ∀ i : Nat, i ≤ 14 → ∀ (b0 : List Int) (b1 b2 : Int) (a0 a1 : Int) (a2 a3 : Bool) (a4 a5 : List Int) (a6 a7 : Int) (hs : List (List Int)) (st hp : List Int) (tu mo pa : Int), Cur (b0, b1, b2) → Sm 52 a4 a5 hs st hp → Tot (spec_l24Draw_L3 (i : Int) b0 b1 b2 0 0 false false 0 0 0 0 0 a0 a1 a2 a3 a6 a7 tu mo pa a4 a5 hs st hp) (DGa 60) := by
    intro i
    induction i with
    | zero =>
      intro _ b0 b1 b2 a0 a1 a2 a3 a4 a5 a6 a7 hs st hp tu mo pa hb hsm
      obtain ⟨m1, m2, m3, m4⟩ := hsm
      have sm : Sm 60 a4 a5 hs st hp := ⟨m1, m2, m3, by omega⟩
      rw [spec_l24Draw_L3_eq, if_dneg (by omega)]
      refine Tot.bind (l1Below_tot hb _) fun s ⟨hs', _⟩ => Tot.ite (fun _ => ?_) fun _ => Tot.ite (fun _ => ?_) fun _ => Tot.ite (fun _ => ?_) fun _ => Tot.ite (fun _ => ?_) fun _ => Tot.ite (fun _ => ?_) fun _ => ?_
      · exact Tot.bind (l1Int_tot hs' (Nat.zero_lt_succ _)) fun u hu => Tot.ret ⟨hu.1, sm⟩
      · exact Tot.ret ⟨hs', sm⟩
      · exact Tot.bind (l4Card_tot hs') fun u hu => Tot.guard (by rw [List.length_singleton]; omega) (Tot.ret ⟨hu, m1, m2, m3, by show (st ++ [_]).length + hp.length + hs.flatten.length ≤ 60; rw [List.length_append, List.length_singleton]; omega⟩)
      · exact Tot.bind (l22Any_tot hs') fun u ⟨hu, u4, u5⟩ => Tot.ret ⟨hu, u4, u5, m3, by show st.length + hp.length + hs.flatten.length ≤ 60; omega⟩
      · exact Tot.guard (by omega) (Tot.ret ⟨hs', m1, m2, m3, by show ([] : List Int).length + (hp ++ st).length + hs.flatten.length ≤ 60; rw [List.length_append, List.length_nil]; omega⟩)
      · exact Tot.ret ⟨hs', sm⟩
    | succ i ih =>
      intro hi b0 b1 b2 a0 a1 a2 a3 a4 a5 a6 a7 hs st hp tu mo pa hb hsm
      have hh := hsm.g2 (by omega)
      have h4 : a4.length ≤ 1048576 := by have := hsm.1; omega
      have h5 : a5.length ≤ 1048576 := by have := hsm.2.1; omega
      have hst : st.length ≤ 2097152 := by have := hsm.2.2.2; omega
      have hhp : hp.length ≤ 2097152 := by have := hsm.2.2.2; omega
      have w : IntKind.i64.wrap (((i + 1 : Nat) : Int) - 1) = (i : Int) := by rw [wrap_id (by omega) (by omega)]; omega
      have eT := spec_TakeCards_ok a0 a1 a2 a3 a4 a5 a6 a7 hs st hp tu mo pa h4 h5 hh hst hhp
      have hT := take_small a0 a1 a2 a3 a4 a5 a6 a7 hs st hp tu mo pa hsm
      rw [spec_l24Draw_L3_eq, if_dpos (by omega), spec_Playable_ok a0 a1 a2 a3 a4 a5 a6 a7 hs st hp tu mo pa h4 h5 hh hst hhp, Option.bind_some, w]
      have take : ∀ {c : List Int × Int × Int}, Cur c → Tot ((spec_TakeCards a0 a1 a2 a3 a4 a5 a6 a7 hs st hp tu mo pa).bind fun c7 => (spec_l24Draw_L3 (i : Int) c.1 c.2.1 c.2.2 0 0 false false 0 0 0 0 0 c7.1 c7.2.1 c7.2.2.1 c7.2.2.2.1 c7.2.2.2.2.2.2.1 c7.2.2.2.2.2.2.2.1 c7.2.2.2.2.2.2.2.2.2.2.2.1 c7.2.2.2.2.2.2.2.2.2.2.2.2.1 c7.2.2.2.2.2.2.2.2.2.2.2.2.2.1 c7.2.2.2.2.1 c7.2.2.2.2.2.1 c7.2.2.2.2.2.2.2.2.1 c7.2.2.2.2.2.2.2.2.2.1 c7.2.2.2.2.2.2.2.2.2.2.1)) (DGa 60) := fun hc => by
        rw [eT, Option.bind_some]
        exact ih (by omega) _ _ _ _ _ _ _ _ _ _ _ _ _ _ _ _ _ hc hT
      refine Tot.dite (fun hpos => Tot.bind (l1Once_tot hb _) fun s hs' => Tot.ite (fun _ => ?_) fun _ => take hs') fun _ => take hb
      refine Tot.bind (l1Below_tot hs' _) fun u ⟨hu, u1, u2, _⟩ => Tot.guard u1 (Tot.guard (u2 hpos) ?_)
      rw [spec_PlayOn_ok a0 a1 a2 a3 a4 a5 a6 a7 hs st hp tu mo pa _ h4 h5 hh hst hhp, Option.bind_some]
      exact ih (by omega) _ _ _ _ _ _ _ _ _ _ _ _ _ _ _ _ _ hu (play_small a0 a1 a2 a3 a4 a5 a6 a7 hs st hp tu mo pa _ hsm)
  have := key t.1.toNat (by omega) t.2.1 t.2.2.1 t.2.2.2 g.1 g.2.1 g.2.2.1 g.2.2.2.1 g.2.2.2.2.1 g.2.2.2.2.2.1 g.2.2.2.2.2.2.1 g.2.2.2.2.2.2.2.1 g.2.2.2.2.2.2.2.2.1 g.2.2.2.2.2.2.2.2.2.1 g.2.2.2.2.2.2.2.2.2.2.1 g.2.2.2.2.2.2.2.2.2.2.2.1 g.2.2.2.2.2.2.2.2.2.2.2.2.1 g.2.2.2.2.2.2.2.2.2.2.2.2.2.1 ht gs
  rw [show ((t.1.toNat : Nat) : Int) = t.1 by omega] at this
  exact this
end Go.Proofs.Ytoioaijpdiglfaa.V
