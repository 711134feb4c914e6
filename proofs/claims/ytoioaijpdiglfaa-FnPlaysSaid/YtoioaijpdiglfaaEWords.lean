/- Words of the plain laws over the equations without fuel. -/
import Derived.Test.YtoioaijpdiglfaaVLim
import Derived.Test.YtoioaijpdiglfaaVRow
import Derived.Laws.BitsLemmas
set_option linter.unusedVariables false
set_option linter.unusedSimpArgs false
namespace Go.Proofs.Ytoioaijpdiglfaa.V
open Go
theorem wrap_id {x : Int} (h1 : -9223372036854775808 ≤ x) (h2 : x ≤ 9223372036854775807) : IntKind.i64.wrap x = x := by
  rw [IntKind.wrap_i64]; omega
theorem wrap_succ {i n : Nat} (h : i < n) (hn : n ≤ 9223372036854775807) : IntKind.i64.wrap ((i : Int) + 1) = ((i + 1 : Nat) : Int) := by
  rw [wrap_id (by omega) (by omega)]; omega
theorem down {n : Nat} {P : Nat → Prop} (h0 : P n) (hs : ∀ i, i < n → P (i + 1) → P i) : ∀ i, i ≤ n → P i := fun i hi => by
  obtain ⟨d, rfl⟩ : ∃ d, n = i + d := ⟨n - i, by omega⟩
  clear hi
  induction d generalizing i with
  | zero => exact h0
  | succ d ih =>
    refine hs i (by omega) (ih (i + 1) ?_ ?_)
    · rw [show i + 1 + d = i + (d + 1) by omega]; exact h0
    · intro j hj hp; exact hs j (by omega) hp
theorem getD_drop {α : Type} {xs : List α} {i : Nat} {d : α} (h : i < xs.length) : xs.drop i = xs.getD i d :: xs.drop (i + 1) := by
  rw [List.drop_eq_getElem_cons h, List.getD_eq_getElem?_getD, List.getElem?_eq_getElem h]; rfl
theorem getD_mem {α : Type} {xs : List α} {i : Nat} {d : α} (h : i < xs.length) : xs.getD i d ∈ xs := by
  rw [List.getD_eq_getElem?_getD, List.getElem?_eq_getElem h]; exact List.getElem_mem h
/-- A loop that holds two rows against each other. -/
theorem eq_loop {α : Type} [DecidableEq α] {l r : List α} {d : α} (g : Nat → Option Bool) (hlen : l.length = r.length) (hend : g l.length = some true)
    (hstep : ∀ i, i < l.length → g i = if l.getD i d = r.getD i d then g (i + 1) else some false) : g 0 = some (decide (l = r)) := by
  have h : ∀ i, i ≤ l.length → g i = some (decide (l.drop i = r.drop i)) := down (by rw [hend]; simp [hlen]) fun i hi ih => by
    rw [hstep i hi, ih, getD_drop (d := d) hi, getD_drop (d := d) (by omega : i < r.length)]
    by_cases e : l.getD i d = r.getD i d
    · rw [if_pos e, e]; simp
    · rw [if_neg e, decide_eq_false (fun h => e (List.cons.inj h).1)]
  simpa using h 0 (Nat.zero_le _)
theorem copy_set {α : Type} {l s : List α} {i : Nat} {d : α} (hi : i < l.length) (h1 : s.length = l.length) (h2 : s.take i = l.take i) : (s.set i (l.getD i d)).take (i + 1) = l.take (i + 1) := by
  have e : l.getD i d = l[i] := by rw [List.getD_eq_getElem?_getD, List.getElem?_eq_getElem hi]; rfl
  rw [e, List.take_succ_eq_append_getElem (by simpa using (by omega : i < s.length)), List.take_set_of_le (Nat.le_refl i), h2, List.take_add_one, List.getElem?_eq_getElem hi, List.getElem_set_self]
  rfl
/-- Rows of at most b places. -/
def B1 {α : Type} (b : Int) (l : List α) : Prop := (l.length : Int) ≤ b
def B2 {α : Type} (b : Int) (l : List (List α)) : Prop := (l.length : Int) ≤ b ∧ ∀ r ∈ l, (r.length : Int) ≤ b
theorem B1.mono {α : Type} {b b' : Int} {l : List α} (h : B1 b l) (hb : b ≤ b') : B1 b' l := by unfold B1 at *; omega
theorem B2.mono {α : Type} {b b' : Int} {l : List (List α)} (h : B2 b l) (hb : b ≤ b') : B2 b' l := ⟨by have := h.1; omega, fun r hr => by have := h.2 r hr; omega⟩
theorem B1.nat {α : Type} {l : List α} (h : B1 1048576 l) : l.length ≤ 1048576 := by unfold B1 at h; omega
/-- Rows that lie in memory. -/
def F1 {α : Type} (l : List α) : Prop := l.length ≤ 17592186044416
def F2 {α : Type} (l : List (List α)) : Prop := l.length ≤ 17592186044416 ∧ ∀ r ∈ l, r.length ≤ 17592186044416
end Go.Proofs.Ytoioaijpdiglfaa.V
