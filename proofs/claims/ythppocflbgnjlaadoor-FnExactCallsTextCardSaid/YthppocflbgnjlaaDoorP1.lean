/- Plain laws over the shapes. -/
import Derived.Test.YthppocflbgnjlaaDoorEWords
import Derived.Test.YthppocflbgnjlaaDoorS1
import Derived.Test.YthppocflbgnjlaaDoorS3
set_option linter.unusedVariables false
set_option linter.unusedSimpArgs false
set_option maxRecDepth 10000
namespace Go.Proofs.YthppocflbgnjlaaDoor.V
open Go
theorem bindF {α β : Type} {x : Option α} {v : α} (h : x = some v) (k : α → Option β) : x.bind k = k v := by rw [h]; rfl
theorem if_dpos {α : Type} {p : Prop} [Decidable p] {a b : α} (h : p) : (if decide p = true then a else b) = a := if_pos (decide_eq_true h)
theorem if_dneg {α : Type} {p : Prop} [Decidable p] {a b : α} (h : ¬ p) : (if decide p = true then a else b) = b := if_neg (by simpa using h)
theorem if_epos {α : Type} {x y : Int} {a b : α} (h : x = y) : (if (x == y) = true then a else b) = a := if_pos (by simpa using h)
theorem if_eneg {α : Type} {x y : Int} {a b : α} (h : ¬ x = y) : (if (x == y) = true then a else b) = b := if_neg (by simpa using h)
theorem if_npos {α : Type} {x y : Int} {a b : α} (h : ¬ x = y) : (if (x != y) = true then a else b) = a := if_pos (by simpa using h)
theorem if_nneg {α : Type} {x y : Int} {a b : α} (h : x = y) : (if (x != y) = true then a else b) = b := if_neg (by simpa using h)
theorem take_succ_getD {α : Type} {l : List α} {i : Nat} {d : α} (h : i < l.length) : l.take (i + 1) = l.take i ++ [l.getD i d] := by
  rw [List.take_succ_eq_append_getElem h, List.getD_eq_getElem?_getD, List.getElem?_eq_getElem h]; rfl
/-- A loop over a row, its states kept by I, told by a recursion M over the row. -/
theorem over {α σ R : Type} {l : List α} {d : α} {g : Nat → σ → Option R} {M : List α → σ → R} (I : Nat → σ → Prop)
    (hend : ∀ s, I l.length s → g l.length s = some (M [] s))
    (hstep : ∀ i s, i < l.length → I i s → (∀ s', I (i + 1) s' → g (i + 1) s' = some (M (l.drop (i + 1)) s')) → g i s = some (M (l.getD i d :: l.drop (i + 1)) s)) :
    ∀ s, I 0 s → g 0 s = some (M l s) := fun s hs => by
  have h : ∀ i, i ≤ l.length → ∀ s, I i s → g i s = some (M (l.drop i) s) := down (by
    intro s hs; rw [List.drop_of_length_le (Nat.le_refl _)]; exact hend s hs) fun i hi ih s hs => by
    rw [getD_drop (d := d) hi]; exact hstep i s hi hs ih
  simpa using h 0 (Nat.zero_le _) s hs
/-- Rows of rows, bounded. -/
structure G2 (l : List (List Int)) : Prop where
  len : l.length ≤ 2097152
  row : ∀ r ∈ l, r.length ≤ 2097152
theorem G2.set {l : List (List Int)} (h : G2 l) {i : Nat} {r : List Int} (hr : r.length ≤ 2097152) : G2 (l.set i r) := ⟨by rw [List.length_set]; exact h.len, fun x hx => by
  rcases List.mem_or_eq_of_mem_set hx with h1 | h1
  · exact h.row x h1
  · rw [h1]; exact hr⟩
/-- Rows of piles, bounded. -/
structure G3 (l : List (List Int × Int)) : Prop where
  len : l.length ≤ 2097152
  row : ∀ r ∈ l, r.1.length ≤ 2097152
theorem G3.set {l : List (List Int × Int)} (h : G3 l) {i : Nat} {r : List Int × Int} (hr : r.1.length ≤ 2097152) : G3 (l.set i r) := ⟨by rw [List.length_set]; exact h.len, fun x hx => by
  rcases List.mem_or_eq_of_mem_set hx with h1 | h1
  · exact h.row x h1
  · rw [h1]; exact hr⟩
end Go.Proofs.YthppocflbgnjlaaDoor.V
