/- Plain laws over the shapes. -/
import Derived.Test.YtoioaijpdiglfaaPM
import Derived.Test.YtoioaijpdiglfaaLFnExactParseRecord
import Derived.Test.YtoioaijpdiglfaaFParseRecord
import Derived.Test.YtoioaijpdiglfaaM
import Derived.Test.YtoioaijpdiglfaaS1
set_option linter.unusedVariables false
set_option linter.unusedSimpArgs false
set_option maxRecDepth 10000
namespace Go.Proofs.Ytoioaijpdiglfaa.V
open Go
def cardText (c : Int) : ByteArray := ((ByteArray.mk #[50, 51, 52, 53, 54, 55, 56, 57, 84, 74, 81, 75, 65]).extract (c.tmod 13).toNat ((c.tmod 13) + 1).toNat) ++ ((ByteArray.mk #[99, 100, 104, 115]).extract (c.tdiv 13).toNat ((c.tdiv 13) + 1).toNat)
theorem cardText_size (c : Int) (h : 0 ≤ c) : (cardText c).size ≤ 2 := by
  unfold cardText
  rw [ByteArray.size_append, ByteArray.size_extract, ByteArray.size_extract, Int.tmod_eq_emod_of_nonneg h, Int.tdiv_eq_ediv_of_nonneg h]
  omega
theorem spec_CardText_ok (c : Int) (h : isC c = true) : spec_CardText c = some (cardText c) := by
  obtain ⟨h1, h2⟩ := isC_iff.1 h
  have e1 := Int.tmod_eq_emod_of_nonneg (b := 13) h1
  have e2 := Int.tdiv_eq_ediv_of_nonneg (b := 13) h1
  have hr : spec_RankOf c = some (c.tmod 13) := by rw [spec_RankOf_eq, spec_IsCard_ok, h, Option.bind_some, if_neg (by simp)]
  have hs : spec_SuitOf c = some (c.tdiv 13) := by rw [spec_SuitOf_eq, spec_IsCard_ok, h, Option.bind_some, if_neg (by simp), wrap_id (by omega) (by omega)]
  rw [spec_CardText_eq, spec_IsCard_ok, h, Option.bind_some, if_neg (by simp), hr, Option.bind_some, hs, Option.bind_some, wrap_id (by omega) (by omega), wrap_id (by omega) (by omega)]
  have z1 : (ByteArray.mk #[50, 51, 52, 53, 54, 55, 56, 57, 84, 74, 81, 75, 65]).size = 13 := rfl
  have z2 : (ByteArray.mk #[99, 100, 104, 115]).size = 4 := rfl
  have hsz := cardText_size c h1
  unfold cardText at hsz
  rw [ByteArray.size_append] at hsz
  rw [if_pos (by omega), if_pos (by omega), if_pos (by omega), if_pos (by omega), if_pos (by omega), if_pos (by omega), if_pos (by omega), if_pos (by omega), if_pos (by omega)]
  rfl
/-- The text of one place of a record. -/
def recPiece (c : Int) : ByteArray := if isC c = true then cardText c else if c = -1 then ByteArray.mk #[42] else ByteArray.mk #[63]
theorem recPiece_size (c : Int) : (recPiece c).size ≤ 2 := by
  unfold recPiece
  split
  · rename_i h; exact cardText_size c (isC_iff.1 h).1
  · split
    · exact (by decide : (1 : Nat) ≤ 2)
    · exact (by decide : (1 : Nat) ≤ 2)
def recText (l : List Int) : ByteArray := if l.length = 0 then ByteArray.mk #[45] else l.foldl (fun s c => s ++ recPiece c) (ByteArray.mk #[])
theorem spec_RecordText_ok (l : List Int) (hl : l.length ≤ 1048576) : spec_RecordText l = some (recText l) := by
  rw [spec_RecordText_eq]
  have h : ∀ i, i ≤ l.length → ∀ s : ByteArray, s.size ≤ 2 * i → spec_RecordText_L3 l s i = some (if l.length = 0 then ByteArray.mk #[45] else (l.drop i).foldl (fun s c => s ++ recPiece c) s) := down (by
      intro s hs
      rw [spec_RecordText_L3_eq, if_neg (by simp)]
      by_cases h0 : l.length = 0
      · rw [if_pos (by simpa using h0), if_pos h0]
      · rw [if_neg (by simpa using h0), if_neg h0]; simp) fun i hi ih s hs => by
    have hz := recPiece_size (l.getD i 0)
    have done : spec_RecordText_L3 l (s ++ recPiece (l.getD i 0)) ((i + 1 : Nat) : Int) = some (if l.length = 0 then ByteArray.mk #[45] else (l.drop i).foldl (fun s c => s ++ recPiece c) s) := by
      rw [ih _ (by rw [ByteArray.size_append]; omega), getD_drop (d := 0) hi]; rfl
    rw [spec_RecordText_L3_eq, if_pos (by simpa using hi), if_pos (by omega), if_pos (by omega), wrap_succ hi (by omega), Int.toNat_natCast, ← done]
    unfold recPiece at hz ⊢
    have hi0 : (0 : Int) ≤ (i : Int) := by omega
    have hil : (i : Int) < (l.length : Int) := by omega
    by_cases hc : isC (l.getD i 0) = true
    · have hne : l.getD i 0 ≠ -1 := fun e => by rw [e] at hc; exact absurd hc (by decide)
      rw [if_pos hc] at hz ⊢
      rw [if_neg (by simpa using hne), if_pos hi0, if_pos hil, spec_IsCard_ok, Option.bind_some, if_pos hc, if_pos hi0, if_pos hil, spec_CardText_ok _ hc, Option.bind_some, if_pos (by omega)]
    · rw [if_neg hc] at hz ⊢
      by_cases he : l.getD i 0 = -1
      · rw [if_pos he] at hz ⊢
        rw [if_pos (by simpa using he), if_pos (by omega)]
      · rw [if_neg he] at hz ⊢
        rw [if_neg (by simpa using he), if_pos hi0, if_pos hil, spec_IsCard_ok, Option.bind_some, if_neg hc, if_pos (by omega)]
  exact h 0 (Nat.zero_le _) _ (by decide)
theorem toList_eq (a b : ByteArray) : (a.toList == b.toList) = decide (a = b) := by
  rw [ByteArray.toList_eq, ByteArray.toList_eq]
  by_cases e : a = b
  · rw [e]; simp
  · rw [decide_eq_false e]
    have : ¬ a.data.toList = b.data.toList := fun h => e (by
      cases a with | mk a => cases b with | mk b =>
      congr 1
      exact Array.ext' h)
    simpa using this
def rankB : ByteArray := ByteArray.mk #[50, 51, 52, 53, 54, 55, 56, 57, 84, 74, 81, 75, 65]
def suitB : ByteArray := ByteArray.mk #[99, 100, 104, 115]
def rb (r : Nat) : UInt8 := [50, 51, 52, 53, 54, 55, 56, 57, 84, 74, 81, 75, 65].getD r 0
def sb (r : Nat) : UInt8 := [99, 100, 104, 115].getD r 0
theorem cardText_two : ∀ c : Nat, c < 52 → cardText (c : Int) = ByteArray.mk #[rb (c % 13), sb (c / 13)] := by decide +kernel
theorem rank_at : ∀ n : Nat, n < 256 → (firstIdx rankB (UInt8.ofNat n) = -1 ∧ ∀ r : Nat, r < 13 → rb r ≠ UInt8.ofNat n) ∨ ∃ r : Nat, r < 13 ∧ firstIdx rankB (UInt8.ofNat n) = (r : Int) ∧ rb r = UInt8.ofNat n := by decide +kernel
theorem suit_at : ∀ n : Nat, n < 256 → (firstIdx suitB (UInt8.ofNat n) = -1 ∧ ∀ r : Nat, r < 4 → sb r ≠ UInt8.ofNat n) ∨ ∃ r : Nat, r < 4 ∧ firstIdx suitB (UInt8.ofNat n) = (r : Int) ∧ sb r = UInt8.ofNat n := by decide +kernel
theorem rb_inj : ∀ r : Nat, r < 13 → ∀ q : Nat, q < 13 → rb r = rb q → r = q := by decide +kernel
theorem sb_inj : ∀ r : Nat, r < 4 → ∀ q : Nat, q < 4 → sb r = sb q → r = q := by decide +kernel
def pcM (a b : UInt8) : Int := if firstIdx rankB a < 0 then -1 else if firstIdx suitB b < 0 then -1 else firstIdx suitB b * 13 + firstIdx rankB a
theorem pc_key (a b : UInt8) : pcM a b < 52 ∧ -1 ≤ pcM a b ∧ ∀ c : Nat, c < 52 → (cardText (c : Int) = ByteArray.mk #[a, b] ↔ (c : Int) = pcM a b) := by
  have ea : UInt8.ofNat a.toNat = a := by simp
  have eb : UInt8.ofNat b.toNat = b := by simp
  have ha := rank_at a.toNat a.toNat_lt
  have hb := suit_at b.toNat b.toNat_lt
  rw [ea] at ha
  rw [eb] at hb
  have two : ∀ c : Nat, c < 52 → (cardText (c : Int) = ByteArray.mk #[a, b] ↔ rb (c % 13) = a ∧ sb (c / 13) = b) := fun c hc => by
    rw [cardText_two c hc]; simp
  unfold pcM
  rcases ha with ⟨h1, h2⟩ | ⟨r, hr, h1, h2⟩
  · rw [h1, if_pos (by decide)]
    refine ⟨by decide, by decide, fun c hc => ?_⟩
    rw [two c hc]
    exact ⟨fun h => absurd h.1 (h2 _ (by omega)), fun h => by omega⟩
  · rw [h1, if_neg (by omega)]
    rcases hb with ⟨g1, g2⟩ | ⟨q, hq, g1, g2⟩
    · rw [g1, if_pos (by decide)]
      refine ⟨by decide, by decide, fun c hc => ?_⟩
      rw [two c hc]
      exact ⟨fun h => absurd h.2 (g2 _ (by omega)), fun h => by omega⟩
    · rw [g1, if_neg (by omega)]
      refine ⟨by omega, by omega, fun c hc => ?_⟩
      rw [two c hc]
      constructor
      · rintro ⟨e1, e2⟩
        have := rb_inj _ (by omega) _ hr (e1.trans h2.symm)
        have := sb_inj _ (by omega) _ hq (e2.trans g2.symm)
        omega
      · intro e
        have e1 : c % 13 = r := by omega
        have e2 : c / 13 = q := by omega
        rw [e1, e2]; exact ⟨h2, g2⟩
theorem two_of {x : ByteArray} (h : x.size = 2) : x = ByteArray.mk #[x[0]'(by omega), x[1]'(by omega)] := by
  obtain ⟨⟨l⟩⟩ := x
  match l, h with
  | [a, b], _ => rfl
theorem strings_IndexByte_ok (s : ByteArray) (n : Int) : strings_IndexByte s n = some (firstIdx s n.toNat.toUInt8) := by
  rw [strings_IndexByte_eq, stringslite_IndexByte_eq]; rfl
theorem byteAt_back {s : ByteArray} {i : Nat} (h : i < s.size) : (byteAt s i).toNat.toUInt8 = s[i] := by
  unfold byteAt
  rw [dif_pos h, Int.toNat_natCast]
  show UInt8.ofNat _ = _
  simp
theorem impl_ParseCard_ok {x : ByteArray} (h : x.size = 2) : impl_ParseCard x = some (pcM (x[0]'(by omega)) (x[1]'(by omega))) := by
  rw [impl_ParseCard_eq, if_nneg (by omega), if_pos (by omega), strings_IndexByte_ok, Option.bind_some, if_pos (by omega), strings_IndexByte_ok, Option.bind_some, byteAt_back (by omega), byteAt_back (by omega)]
  have k := (pc_key (x[0]'(by omega)) (x[1]'(by omega))).1
  have k' := (pc_key (x[0]'(by omega)) (x[1]'(by omega))).2.1
  unfold pcM at k k' ⊢
  show (if decide (firstIdx rankB _ < 0) = true then _ else (if decide (firstIdx suitB _ < 0) = true then _ else some (IntKind.i64.wrap (IntKind.i64.wrap (firstIdx suitB _ * 13) + firstIdx rankB _)))) = _
  by_cases h1 : firstIdx rankB (x[0]'(by omega)) < 0
  · rw [if_dpos h1, if_pos h1]
  · rw [if_dneg h1, if_neg h1]
    rw [if_neg h1] at k k'
    by_cases h2 : firstIdx suitB (x[1]'(by omega)) < 0
    · rw [if_dpos h2, if_pos h2]
    · rw [if_dneg h2, if_neg h2]
      rw [if_neg h2] at k k'
      rw [wrap_id (x := firstIdx suitB _ * 13) (by omega) (by omega), wrap_id (by omega) (by omega)]
theorem spec_ParseCard_ok {x : ByteArray} (h : x.size = 2) : spec_ParseCard x = some (pcM (x[0]'(by omega)) (x[1]'(by omega))) := by
  rw [spec_ParseCard_eq]
  obtain ⟨k1, k2, k3⟩ := pc_key (x[0]'(by omega)) (x[1]'(by omega))
  rw [← two_of h] at k3
  generalize pcM (x[0]'(by omega)) (x[1]'(by omega)) = v at k1 k2 k3 ⊢
  have : ∀ i : Nat, i ≤ 52 → spec_ParseCard_L2 x (i : Int) = some (if (i : Int) ≤ v then v else -1) := down (by
    rw [spec_ParseCard_L2_eq, if_dneg (by omega), if_neg (by omega)]) fun i hi ih => by
      rw [spec_ParseCard_L2_eq, if_dpos (by omega), spec_CardText_ok _ (isC_iff.2 (by omega)), Option.bind_some, toList_eq]
      by_cases e : (i : Int) = v
      · rw [if_dpos ((k3 i hi).2 e), if_pos (by omega), e]
      · rw [if_dneg (fun e' => e ((k3 i hi).1 e')), wrap_succ hi (by omega), ih]
        by_cases e2 : (i : Int) ≤ v
        · rw [if_pos e2, if_pos (by omega)]
        · rw [if_neg e2, if_neg (by omega)]
  have h0 := this 0 (by omega)
  have h0 : spec_ParseCard_L2 x 0 = some (if (0 : Int) ≤ v then v else -1) := h0
  rw [h0]
  by_cases e : (0 : Int) ≤ v
  · rw [if_pos e]
  · rw [if_neg e]; congr 1; omega
def txt (l : List Int) : ByteArray := l.foldl (fun s c => s ++ recPiece c) (ByteArray.mk #[])
theorem txt_snoc (l : List Int) (c : Int) : txt (l ++ [c]) = txt l ++ recPiece c := by rw [txt, List.foldl_append]; rfl
theorem ba_ext {a b : ByteArray} (h : a.data.toList = b.data.toList) : a = b := by
  cases a with | mk a => cases b with | mk b =>
  congr 1
  exact Array.ext' h
theorem data_app (a b : ByteArray) : (a ++ b).data.toList = a.data.toList ++ b.data.toList := by simp
theorem data_ext (s : ByteArray) (i j : Nat) : (s.extract i j).data.toList = (s.data.toList.take j).drop i := by
  simp [ByteArray.data_extract, List.drop_take]
theorem ext_app (s : ByteArray) {i j : Nat} (h : i ≤ j) : s.extract 0 j = s.extract 0 i ++ s.extract i j := by
  apply ba_ext
  rw [data_app, data_ext, data_ext, data_ext, List.drop_zero, List.drop_zero]
  conv => lhs; rw [← List.take_append_drop i (s.data.toList.take j)]
  rw [List.take_take, Nat.min_eq_left h]
theorem ext_one {s : ByteArray} {i : Nat} (h : i < s.size) : s.extract i (i + 1) = ByteArray.mk #[s[i]] := by
  apply ba_ext
  have hl : i < s.data.toList.length := by simpa using h
  rw [data_ext, List.take_succ_eq_append_getElem hl, List.drop_left' (by rw [List.length_take]; omega)]
  simp [ByteArray.getElem_eq_getElem_data]
theorem ext_all (s : ByteArray) : s.extract 0 s.size = s := by
  apply ba_ext
  rw [data_ext, List.drop_zero, List.take_of_length_le (by simp)]
theorem parse_both (s : ByteArray) (hs : s.size ≤ 1048576) (hd : s ≠ ByteArray.mk #[45]) : ∀ n i : Nat, ∀ r0 : List Int, i ≤ s.size → s.size - i ≤ n → txt r0 = s.extract 0 i → r0.length ≤ i →
    ∃ y, spec_ParseRecord_L3 s (i : Int) r0 = some y ∧ impl_ParseRecord_L5 s (i : Int) r0 = some y ∧ y.1.length ≤ 2097152 := by
  intro n
  induction n with
  | zero =>
    intro i r0 h1 h2 h3 h4
    have e : i = s.size := by omega
    subst e
    rw [ext_all] at h3
    rw [spec_ParseRecord_L3_eq, impl_ParseRecord_L5_eq, if_dneg (by omega), if_dneg (by omega), spec_RecordText_ok r0 (by omega), Option.bind_some, toList_eq, recText]
    by_cases e0 : r0.length = 0
    · rw [if_pos e0, if_epos (by omega), decide_eq_false (fun e => hd e.symm)]
      exact ⟨_, rfl, rfl, Nat.zero_le _⟩
    · have h3' : List.foldl (fun s c => s ++ recPiece c) (ByteArray.mk #[]) r0 = s := h3
      rw [if_neg e0, if_eneg (by omega), decide_eq_true h3']
      exact ⟨_, rfl, rfl, by show r0.length ≤ _; omega⟩
  | succ n ih =>
    intro i r0 h1 h2 h3 h4
    by_cases e : i = s.size
    · exact ih i r0 h1 (by omega) h3 h4
    have hi : i < s.size := by omega
    rw [spec_ParseRecord_L3_eq, impl_ParseRecord_L5_eq, toList_eq, decide_eq_false hd, Bool.not_false]
    have hw1 : IntKind.i64.wrap ((i : Int) + 1) = ((i + 1 : Nat) : Int) := wrap_succ hi (by omega)
    have hw2 : IntKind.i64.wrap ((i : Int) + 2) = ((i + 2 : Nat) : Int) := by rw [wrap_id (by omega) (by omega)]; omega
    rw [hw1, hw2]
    have hil : (i : Int) < (s.size : Int) := by omega
    by_cases e1 : byteAt s i = 42
    · simp (disch := omega) only [↓if_dpos, ↓if_pos, ↓if_epos, if_true, Int.toNat_natCast, List.length_singleton]
      refine ih (i + 1) _ (by omega) (by omega) ?_ (by rw [List.length_append, List.length_singleton]; omega)
      rw [txt_snoc, h3, ext_app s (Nat.le_succ i), ext_one hi]
      have hb := byteAt_back hi
      rw [e1] at hb
      rw [← hb]; rfl
    · simp (disch := omega) only [↓if_dpos hil, ↓if_pos, ↓if_eneg, if_true, Int.toNat_natCast, List.length_singleton]
      by_cases e2 : i + 2 ≤ s.size
      · simp (disch := omega) only [↓if_dpos, ↓if_pos, Int.toNat_natCast]
        have hx : (s.extract i (i + 2)).size = 2 := by rw [ByteArray.size_extract]; omega
        rw [spec_ParseCard_ok hx, impl_ParseCard_ok hx, Option.bind_some, Option.bind_some]
        obtain ⟨k1, k2, k3⟩ := pc_key ((s.extract i (i + 2))[0]'(by omega)) ((s.extract i (i + 2))[1]'(by omega))
        rw [← two_of hx] at k3
        generalize pcM ((s.extract i (i + 2))[0]'(by omega)) ((s.extract i (i + 2))[1]'(by omega)) = v at k1 k2 k3 ⊢
        by_cases e3 : v < 0
        · rw [if_dpos e3, if_dpos e3]
          exact ⟨_, rfl, rfl, Nat.zero_le _⟩
        · obtain ⟨u, rfl⟩ : ∃ u : Nat, v = (u : Int) := ⟨v.toNat, by omega⟩
          rw [if_dneg e3, if_dneg e3]
          refine ih (i + 2) _ (by omega) (by omega) ?_ (by rw [List.length_append, List.length_singleton]; omega)
          rw [txt_snoc, h3, ext_app s (by omega : i ≤ i + 2), recPiece, if_pos (isC_iff.2 (by omega)), (k3 u (by omega)).2 rfl]
      · rw [if_dneg (by omega), if_dneg (by omega)]
        exact ⟨_, rfl, rfl, Nat.zero_le _⟩
theorem parseRecord_ok (a0 : ByteArray) (ha : a0.size ≤ 1048576) : ∃ (r0 : List Int) (r1 : Bool), spec_ParseRecord a0 = some (r0, r1) ∧ impl_ParseRecord a0 = some (r0, r1) ∧ r0.length ≤ 2097152 := by
  rw [spec_ParseRecord_eq, impl_ParseRecord_eq, toList_eq]
  by_cases e : a0 = ByteArray.mk #[45]
  · rw [if_dpos e, spec_ParseRecord_L3_eq, if_dpos (by rw [e]; decide), toList_eq, decide_eq_true e, Bool.not_true, if_neg (by decide), spec_RecordText_ok [] (by decide), Option.bind_some, toList_eq, show recText [] = ByteArray.mk #[45] from rfl, decide_eq_true e.symm]
    exact ⟨_, _, rfl, rfl, Nat.zero_le _⟩
  · rw [if_dneg e]
    obtain ⟨y, h1, h2, h3⟩ := parse_both a0 ha e a0.size 0 [] (Nat.zero_le _) (by omega) (by apply ba_ext; rw [data_ext]; rfl) (Nat.zero_le _)
    exact ⟨y.1, y.2, h1, h2, h3⟩
theorem laws_FnExactParseRecord_ok (a0 : ByteArray) : laws_FnExactParseRecord a0 = some true := by
  rw [laws_FnExactParseRecord_eq]
  by_cases h : (a0.size : Int) > 1048576
  · rw [if_dpos h]
  rw [if_dneg h]
  obtain ⟨r0, r1, s1, s2, gr0⟩ := parseRecord_ok a0 (by omega)
  simp (disch := omega) only [↓bindF (laws_eqIntS_self r0 gr0), ↓bindF (laws_markIntS_ok r0 gr0 (1) (by omega) (by omega)), ↓bindF (laws_heldIntS_ok r0.length gr0 (1) (by omega) (by omega)), ↓bindF s1, ↓bindF s2, ↓if_dpos, ↓if_dneg, bne_self_eq_false, Bool.not_true, Bool.false_eq_true, if_false]
theorem law_FnExactParseRecord (x : den (parTy HH 4)) (hx : Fit Try.prog (parTy HH 4) x) : ∃ n, frun Try.prog HH n 4 x = some true := run_some (laws_FnExactParseRecord_ok x)
end Go.Proofs.Ytoioaijpdiglfaa.V
