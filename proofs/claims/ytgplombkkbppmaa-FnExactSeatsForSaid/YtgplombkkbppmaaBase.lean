/- Small words of the plain laws: numbers that do not wrap, lists read at an index, and rounds ('Ev'): no program in sight. -/
import Derived.DataShut
import Derived.Test.YtgplombkkbppmaaWMore
set_option linter.unusedVariables false
set_option linter.unusedSimpArgs false
namespace Go.Proofs.Ytgplombkkbppmaa.Base
open Go.RowKit Go.Proofs.YtgplombkkbppmaaW.PrintWords Go.Proofs.YtgplombkkbppmaaW.PrintMore

/-! ### numbers -/
theorem w64 {x : Int} (h1 : -9223372036854775808 ≤ x) (h2 : x ≤ 9223372036854775807) : wrap64 x = x := by
  unfold wrap64; omega
theorem w64_range (x : Int) : -9223372036854775808 ≤ wrap64 x ∧ wrap64 x ≤ 9223372036854775807 := by
  unfold wrap64; omega
theorem w64_succ {i n : Nat} (h : i < n) (hn : n ≤ 9223372036854775807) : wrap64 ((i : Int) + 1) = ((i + 1 : Nat) : Int) := by
  rw [w64 (by omega) (by omega)]; omega
theorem wf64 (x : Int) : ((Lit.int .i64 x).wf = true) ↔ (-9223372036854775808 ≤ x ∧ x ≤ 9223372036854775807) := Lit.wf_int_iff .i64 x

/-! ### rounds -/
theorem Ev.succ {α : Type} {g : Nat → Option α} {r : α} (h : Ev (fun k => g (k + 1)) r) : Ev g r := Ev.step (fun _ => rfl) h
theorem Ev.const {α : Type} {x : Option α} {r : α} (h : x = some r) : Ev (fun _ => x) r := ⟨0, fun _ _ => h⟩
theorem Ev.uniq {α : Type} {g : Nat → Option α} {r s : α} (h : Ev g r) (h' : Ev g s) : r = s := by
  obtain ⟨K, h⟩ := h
  obtain ⟨K', h'⟩ := h'
  have a := h (max K K') (by omega)
  have b := h' (max K K') (by omega)
  rw [a] at b; injection b
theorem Ev.pos {α : Type} {c : Prop} [Decidable c] {f g : Nat → Option α} {r : α} (hc : c) (h : Ev f r) : Ev (fun k => if c then f k else g k) r := by
  simpa only [if_pos hc] using h
theorem Ev.neg {α : Type} {c : Prop} [Decidable c] {f g : Nat → Option α} {r : α} (hc : ¬ c) (h : Ev g r) : Ev (fun k => if c then f k else g k) r := by
  simpa only [if_neg hc] using h
theorem Ev.ite {α : Type} {c : Prop} [Decidable c] {f g : Nat → Option α} {r : α} (h1 : c → Ev f r) (h2 : ¬ c → Ev g r) : Ev (fun k => if c then f k else g k) r := by
  by_cases hc : c
  · exact Ev.pos hc (h1 hc)
  · exact Ev.neg hc (h2 hc)
theorem Ev.bindc {α β : Type} {x : Option α} {f : Nat → α → Option β} {a : α} {r : β} (h : x = some a) (k : Ev (fun n => f n a) r) : Ev (fun n => x.bind (f n)) r := by
  subst h; simpa only [Option.bind_some] using k
theorem Ev.to {α : Type} {g : Nat → Option α} {r s : α} (h : Ev g r) (e : r = s) : Ev g s := e ▸ h

/-! ### lists at an index -/
theorem drop_lt {α : Type} {xs : List α} {i : Nat} {x : α} {r : List α} (h : xs.drop i = x :: r) : i < xs.length := by
  rcases Nat.lt_or_ge i xs.length with h' | h'
  · exact h'
  · rw [List.drop_eq_nil_of_le h'] at h; cases h
theorem drop_succ {α : Type} {xs : List α} {i : Nat} {x : α} {r : List α} (h : xs.drop i = x :: r) : xs.drop (i + 1) = r := by
  have : xs.drop (i + 1) = (xs.drop i).drop 1 := by rw [List.drop_drop]
  rw [this, h]; rfl
theorem drop_get {α : Type} {xs : List α} {i : Nat} {x : α} {r : List α} (h : xs.drop i = x :: r) : xs[i]? = some x := by
  have : (xs.drop i)[0]? = some x := by rw [h]; rfl
  rw [List.getElem?_drop] at this; simpa using this
theorem drop_cons {α : Type} {xs : List α} {i : Nat} (h : i < xs.length) : xs.drop i = xs[i] :: xs.drop (i + 1) := List.drop_eq_getElem_cons h
theorem drop_take {α : Type} {xs : List α} {i : Nat} {x : α} {r : List α} (h : xs.drop i = x :: r) : xs.take (i + 1) = xs.take i ++ [x] := by
  rw [List.take_add_one, drop_get h]; rfl
theorem drop_mem {α : Type} {xs : List α} {i : Nat} {x : α} {r : List α} (h : xs.drop i = x :: r) : x ∈ xs :=
  List.mem_of_getElem? (drop_get h)
theorem rd_nat {xs : List Int} {i : Nat} : rd xs (i : Int) = xs.getD i 0 := by unfold rd; rw [Int.toNat_natCast]
theorem rd_drop {xs : List Int} {i : Nat} {x : Int} {r : List Int} (h : xs.drop i = x :: r) : rd xs (i : Int) = x := by
  rw [rd_nat, List.getD_eq_getElem?_getD, drop_get h]; rfl
theorem rdOf_nat {α : Type} {d : α} {xs : List α} {i : Nat} : rdOf d xs (i : Int) = xs.getD i d := by unfold rdOf; rw [Int.toNat_natCast]
theorem rdOf_drop {α : Type} {d : α} {xs : List α} {i : Nat} {x : α} {r : List α} (h : xs.drop i = x :: r) : rdOf d xs (i : Int) = x := by
  rw [rdOf_nat, List.getD_eq_getElem?_getD, drop_get h]; rfl
theorem getD_drop {α : Type} {d : α} {xs : List α} {i : Nat} {x : α} {r : List α} (h : xs.drop i = x :: r) : xs.getD i d = x := by
  rw [List.getD_eq_getElem?_getD, drop_get h]; rfl

/-- A loop over an index: told from its end. -/
theorem ev_idx {α σ ρ : Type} (xs : List α) (L : Nat → σ → Int → Option ρ) (R : List α → σ → ρ) (I : Nat → σ → Prop)
    (h0 : ∀ s, I xs.length s → Ev (fun k => L k s (xs.length : Int)) (R [] s))
    (h1 : ∀ (i : Nat) (x : α) (r : List α) (s : σ), xs.drop i = x :: r → i < xs.length → I i s → (∀ s', I (i + 1) s' → Ev (fun k => L k s' ((i + 1 : Nat) : Int)) (R r s')) → Ev (fun k => L k s (i : Int)) (R (x :: r) s)) :
    ∀ s, I 0 s → Ev (fun k => L k s 0) (R xs s) := by
  have key : ∀ (d i : Nat) (s : σ), i + d = xs.length → I i s → Ev (fun k => L k s (i : Int)) (R (xs.drop i) s) := by
    intro d
    induction d with
    | zero =>
      intro i s hi hI
      obtain rfl : i = xs.length := by omega
      rw [List.drop_length]
      exact h0 s hI
    | succ d ih =>
      intro i s hi hI
      have hlt : i < xs.length := by omega
      rw [drop_cons hlt]
      exact h1 i _ _ s (drop_cons hlt) hlt hI (fun s' hs' => ih (i + 1) s' (by omega) hs')
  intro s hs
  have := key xs.length 0 s (by omega) hs
  simpa using this
/-- A loop that counts from a number up to a number. -/
theorem ev_upto {σ ρ : Type} (n : Nat) (L : Nat → σ → Int → Option ρ) (R : Nat → σ → ρ) (I : Nat → σ → Prop)
    (h0 : ∀ s, I n s → Ev (fun k => L k s (n : Int)) (R n s))
    (h1 : ∀ (i : Nat) (s : σ), i < n → I i s → (∀ s', I (i + 1) s' → Ev (fun k => L k s' ((i + 1 : Nat) : Int)) (R (i + 1) s')) → Ev (fun k => L k s (i : Int)) (R i s)) :
    ∀ (i : Nat) (s : σ), i ≤ n → I i s → Ev (fun k => L k s (i : Int)) (R i s) := by
  have key : ∀ (d i : Nat) (s : σ), i + d = n → I i s → Ev (fun k => L k s (i : Int)) (R i s) := by
    intro d
    induction d with
    | zero =>
      intro i s hi hI
      obtain rfl : i = n := by omega
      exact h0 s hI
    | succ d ih =>
      intro i s hi hI
      exact h1 i s (by omega) hI (fun s' hs' => ih (i + 1) s' (by omega) hs')
  intro i s hi hI
  exact key (n - i) i s (by omega) hI

/-- The numbers that a mark writes. -/
def marks (n : Nat) (s : Int) : List Int := (List.range n).map fun (i : Nat) => s + (i : Int)
theorem marks_length (n : Nat) (s : Int) : (marks n s).length = n := by simp [marks]

end Go.Proofs.Ytgplombkkbppmaa.Base
