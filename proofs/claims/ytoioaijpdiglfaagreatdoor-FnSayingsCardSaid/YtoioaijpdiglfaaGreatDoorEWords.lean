/- Words of the plain laws over the equations without fuel. -/
import Derived.Test.YtoioaijpdiglfaaGreatDoorVLim
import Derived.Test.YtoioaijpdiglfaaGreatDoorVRow
import Derived.Laws.BitsLemmas
set_option linter.unusedVariables false
set_option linter.unusedSimpArgs false
namespace Go.Proofs.YtoioaijpdiglfaaGreatDoor.V
open Go
theorem wrap_id {x : Int} (h1 : -9223372036854775808 ≤ x) (h2 : x ≤ 9223372036854775807) : IntKind.i64.wrap x = x := by
  rw [IntKind.wrap_i64]; omega
theorem wrap_succ {i n : Nat} (h : i < n) (hn : n ≤ 9223372036854775807) : IntKind.i64.wrap ((i : Int) + 1) = ((i + 1 : Nat) : Int) := by
  rw [wrap_id (by omega) (by omega)]; omega
theorem down {n : Nat} {P : Nat → Prop} (h0 : P n) (hs : ∀ i, i < n → P (i + 1) → P i) : ∀ i, i ≤ n → P i := fun i hi => by
  obtain ⟨d, rfl⟩ : ∃ d, n = i + d := ⟨n - i, by omega⟩
  clear hi
  induction d generalizing i with
  | zero => exact h0
  | succ d ih =>
    refine hs i (by omega) (ih (i + 1) ?_ ?_)
    · rw [show i + 1 + d = i + (d + 1) by omega]; exact h0
    · intro j hj hp; exact hs j (by omega) hp
theorem getD_drop {α : Type} {xs : List α} {i : Nat} {d : α} (h : i < xs.length) : xs.drop i = xs.getD i d :: xs.drop (i + 1) := by
  rw [List.drop_eq_getElem_cons h, List.getD_eq_getElem?_getD, List.getElem?_eq_getElem h]; rfl
theorem getD_mem {α : Type} {xs : List α} {i : Nat} {d : α} (h : i < xs.length) : xs.getD i d ∈ xs := by
  rw [List.getD_eq_getElem?_getD, List.getElem?_eq_getElem h]; exact List.getElem_mem h
/-- Rows of at most b places. -/
def B1 {α : Type} (b : Int) (l : List α) : Prop := (l.length : Int) ≤ b
def B2 {α : Type} (b : Int) (l : List (List α)) : Prop := (l.length : Int) ≤ b ∧ ∀ r ∈ l, (r.length : Int) ≤ b
theorem B1.mono {α : Type} {b b' : Int} {l : List α} (h : B1 b l) (hb : b ≤ b') : B1 b' l := by unfold B1 at *; omega
theorem B2.mono {α : Type} {b b' : Int} {l : List (List α)} (h : B2 b l) (hb : b ≤ b') : B2 b' l := ⟨by have := h.1; omega, fun r hr => by have := h.2 r hr; omega⟩
end Go.Proofs.YtoioaijpdiglfaaGreatDoor.V
