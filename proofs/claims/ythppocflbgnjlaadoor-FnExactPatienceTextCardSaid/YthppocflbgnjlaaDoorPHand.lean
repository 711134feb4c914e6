/- Plain laws over the shapes. -/
import Derived.Test.YthppocflbgnjlaaDoorPTx
import Derived.Test.YthppocflbgnjlaaDoorS1
import Derived.Test.YthppocflbgnjlaaDoorS2
set_option linter.unusedVariables false
set_option linter.unusedSimpArgs false
set_option maxRecDepth 10000
namespace Go.Proofs.YthppocflbgnjlaaDoor.V
open Go
def cardText (c : Int) : ByteArray := ((ByteArray.mk #[50, 51, 52, 53, 54, 55, 56, 57, 84, 74, 81, 75, 65]).extract (c.tmod 13).toNat ((c.tmod 13) + 1).toNat) ++ ((ByteArray.mk #[99, 100, 104, 115]).extract (c.tdiv 13).toNat ((c.tdiv 13) + 1).toNat)
theorem cardText_size (c : Int) (h : 0 ≤ c) : (cardText c).size ≤ 2 := by
  unfold cardText
  rw [ByteArray.size_append, ByteArray.size_extract, ByteArray.size_extract, Int.tmod_eq_emod_of_nonneg h, Int.tdiv_eq_ediv_of_nonneg h]
  omega
theorem spec_CardText_ok (c : Int) (h : isC c = true) : spec_CardText c = some (cardText c) := by
  obtain ⟨h1, h2⟩ := isC_iff.1 h
  have e1 := Int.tmod_eq_emod_of_nonneg (b := 13) h1
  have e2 := Int.tdiv_eq_ediv_of_nonneg (b := 13) h1
  have hr : spec_RankOf c = some (c.tmod 13) := by rw [spec_RankOf_eq, spec_IsCard_ok, h, Option.bind_some, if_neg (by simp)]
  have hs : spec_SuitOf c = some (c.tdiv 13) := by rw [spec_SuitOf_eq, spec_IsCard_ok, h, Option.bind_some, if_neg (by simp), wrap_id (by omega) (by omega)]
  rw [spec_CardText_eq, spec_IsCard_ok, h, Option.bind_some, if_neg (by simp), hr, Option.bind_some, hs, Option.bind_some, wrap_id (by omega) (by omega), wrap_id (by omega) (by omega)]
  have z1 : (ByteArray.mk #[50, 51, 52, 53, 54, 55, 56, 57, 84, 74, 81, 75, 65]).size = 13 := rfl
  have z2 : (ByteArray.mk #[99, 100, 104, 115]).size = 4 := rfl
  have hsz := cardText_size c h1
  unfold cardText at hsz
  rw [ByteArray.size_append] at hsz
  rw [if_pos (by omega), if_pos (by omega), if_pos (by omega), if_pos (by omega), if_pos (by omega), if_pos (by omega), if_pos (by omega), if_pos (by omega), if_pos (by omega)]
  rfl
theorem impl_CardText_ok (c : Int) (h : isC c = true) : impl_CardText c = some (cardText c) := by
  obtain ⟨h1, h2⟩ := isC_iff.1 h
  have e1 := Int.tmod_eq_emod_of_nonneg (b := 13) h1
  have e2 := Int.tdiv_eq_ediv_of_nonneg (b := 13) h1
  have w1 : IntKind.i64.wrap (c.tdiv 13) = c.tdiv 13 := wrap_id (by omega) (by omega)
  have w2 : IntKind.i64.wrap (c.tdiv 13 + 1) = c.tdiv 13 + 1 := wrap_id (by omega) (by omega)
  have w3 : IntKind.i64.wrap (c.tmod 13 + 1) = c.tmod 13 + 1 := wrap_id (by omega) (by omega)
  rw [impl_CardText_eq, impl_IsCard_ok, h, Option.bind_some, if_neg (by simp), w1, w2, w3]
  have z1 : (ByteArray.mk #[50, 51, 52, 53, 54, 55, 56, 57, 84, 74, 81, 75, 65]).size = 13 := rfl
  have z2 : (ByteArray.mk #[99, 100, 104, 115]).size = 4 := rfl
  have hsz := cardText_size c h1
  unfold cardText at hsz
  rw [ByteArray.size_append] at hsz
  rw [if_pos (by omega), if_pos (by omega), if_pos (by omega), if_pos (by omega), if_pos (by omega), if_pos (by omega), if_pos (by omega), if_pos (by omega), if_pos (by omega)]
  rfl
theorem app_assoc (a b c : ByteArray) : a ++ b ++ c = a ++ (b ++ c) := by
  rw [mk_list a, mk_list b, mk_list c, mkB_app, mkB_app, mkB_app, mkB_app, List.append_assoc]
/-- A card as text; what is none has none. -/
def cardE (c : Int) : ByteArray := if isC c = true then cardText c else ByteArray.mk #[]
theorem cardE_size (c : Int) : (cardE c).size ≤ 2 := by
  unfold cardE
  split
  · rename_i h; exact cardText_size c (isC_iff.1 h).1
  · exact Nat.zero_le _
theorem spec_CardText_any (c : Int) : spec_CardText c = some (cardE c) := by
  unfold cardE
  by_cases h : isC c = true
  · rw [if_pos h]; exact spec_CardText_ok c h
  · rw [if_neg h, spec_CardText_eq, spec_IsCard_ok, Option.bind_some, if_pos (by simpa using h)]
theorem impl_CardText_any (c : Int) : impl_CardText c = some (cardE c) := by
  unfold cardE
  by_cases h : isC c = true
  · rw [if_pos h]; exact impl_CardText_ok c h
  · rw [if_neg h, impl_CardText_eq, impl_IsCard_ok, Option.bind_some, if_pos (by simpa using h)]
/-- A card of a hand, as text. -/
def cardQ (c : Int) : ByteArray := if isC c = true then cardText c else ByteArray.mk #[63]
theorem cardQ_size (c : Int) : (cardQ c).size ≤ 2 := by
  unfold cardQ
  split
  · rename_i h; exact cardText_size c (isC_iff.1 h).1
  · exact (by decide : (1 : Nat) ≤ 2)
def cardsB (l : List Int) : ByteArray := l.foldl (fun s c => s ++ cardQ c) (ByteArray.mk #[])
def handB (l : List Int) : ByteArray := if l.length = 0 then ByteArray.mk #[45] else cardsB l
theorem cardsB_take {l : List Int} {i : Nat} (h : i < l.length) : cardsB (l.take (i + 1)) = cardsB (l.take i) ++ cardQ (l.getD i 0) := by
  unfold cardsB
  rw [foldl_take (d := 0) h]
theorem cardsB_size (l : List Int) : (cardsB l).size ≤ 2 * l.length := by
  have key : ∀ i, i ≤ l.length → (cardsB (l.take i)).size ≤ 2 * i := by
    intro i
    induction i with
    | zero => intro _; exact Nat.zero_le _
    | succ i ih =>
      intro hi
      have := ih (by omega)
      have := cardQ_size (l.getD i 0)
      rw [cardsB_take (by omega), ByteArray.size_append]; omega
  have := key l.length (Nat.le_refl _)
  rw [List.take_length] at this
  exact this
theorem handB_size (l : List Int) : (handB l).size ≤ 2 * l.length + 1 := by
  unfold handB
  have := cardsB_size l
  split
  · show 1 ≤ _; omega
  · omega
theorem impl_HandText_ok (l : List Int) (hl : l.length ≤ 2097152) : impl_HandText l = some (handB l) := by
  rw [impl_HandText_eq, impl_listText_eq, handB]
  by_cases h0 : l.length = 0
  · rw [if_epos (by omega), Option.bind_some, if_pos h0]
  rw [if_eneg (by omega), if_neg h0]
  have key : ∀ i, i ≤ l.length → impl_listText_L5 (-1) (ByteArray.mk #[63]) (cardsB (l.take i)) l (l.length : Int) (i : Int) = some (cardsB l) := down (by
      rw [impl_listText_L5_eq, if_dneg (by omega), List.take_length]) fun i hi ih => by
    have hs := cardsB_size (l.take i)
    rw [List.length_take] at hs
    have hq := cardQ_size (l.getD i 0)
    rw [cardsB_take hi] at ih
    rw [impl_listText_L5_eq, if_dpos (by omega), if_pos (by omega), if_pos (by omega), Int.toNat_natCast, impl_IsCard_ok, Option.bind_some, wrap_succ hi (by omega)]
    unfold cardQ at ih hq
    by_cases c : isC (l.getD i 0) = true
    · rw [if_pos c] at ih hq
      rw [if_pos c, impl_CardText_ok _ c, Option.bind_some, if_pos (by omega)]
      exact ih
    · rw [if_neg c] at ih hq
      rw [if_neg c]
      by_cases c2 : l.getD i 0 = -1
      · rw [if_epos c2, if_pos (by omega)]; exact ih
      · rw [if_eneg c2, if_pos (by omega)]; exact ih
  have := key 0 (Nat.zero_le _)
  have this : impl_listText_L5 (-1) (ByteArray.mk #[63]) (ByteArray.mk #[]) l (l.length : Int) 0 = some (cardsB l) := this
  rw [this]; rfl
theorem spec_HandText_ok (l : List Int) (hl : l.length ≤ 2097152) : spec_HandText l = some (handB l) := by
  have key : ∀ i, i ≤ l.length → spec_HandText_L3 l (cardsB (l.take i)) (i : Int) = some (handB l) := down (by
      rw [spec_HandText_L3_eq, if_dneg (by omega), List.take_length, handB]
      by_cases h0 : l.length = 0
      · rw [if_epos (by omega), if_pos h0]
      · rw [if_eneg (by omega), if_neg h0]) fun i hi ih => by
    have hs := cardsB_size (l.take i)
    rw [List.length_take] at hs
    have hq := cardQ_size (l.getD i 0)
    rw [cardsB_take hi] at ih
    rw [spec_HandText_L3_eq, if_dpos (by omega), if_pos (by omega), if_pos (by omega), Int.toNat_natCast, spec_IsCard_ok, Option.bind_some, wrap_succ hi (by omega)]
    unfold cardQ at ih hq
    by_cases c : isC (l.getD i 0) = true
    · rw [if_pos c] at ih hq
      rw [if_neg (by rw [c]; decide), if_pos (by omega), if_pos (by omega), spec_CardText_ok _ c, Option.bind_some, if_pos (by omega)]
      exact ih
    · rw [if_neg c] at ih hq
      rw [if_pos (by simpa using c), if_pos (by omega)]
      exact ih
  rw [spec_HandText_eq]
  exact key 0 (Nat.zero_le _)
/-- Numbers behind one another, each behind a blank. -/
def blanksB (s : ByteArray) (l : List Int) : ByteArray := l.foldl (fun s n => s ++ (ByteArray.mk #[32] ++ itoaB n)) s
theorem blanksB_take (s : ByteArray) {l : List Int} {i : Nat} (h : i < l.length) : blanksB s (l.take (i + 1)) = blanksB s (l.take i) ++ (ByteArray.mk #[32] ++ itoaB (l.getD i 0)) := by
  unfold blanksB
  rw [foldl_take (d := 0) h]
theorem blanksB_size (s : ByteArray) {l : List Int} (h : ∀ x ∈ l, I64 x) : ∀ i, i ≤ l.length → (blanksB s (l.take i)).size ≤ s.size + 21 * i := by
  intro i
  induction i with
  | zero => intro _; exact Nat.le_refl _
  | succ i ih =>
    intro hi
    have := ih (by omega)
    have := itoaB_size (h _ (getD_mem (d := 0) (by omega : i < l.length)))
    rw [blanksB_take s (by omega), ByteArray.size_append, ByteArray.size_append]
    have : (ByteArray.mk #[32]).size = 1 := rfl
    omega
end Go.Proofs.YthppocflbgnjlaaDoor.V
