/- Words of the plain laws over the interpreter: what a function answers for all rounds from some number on. -/
import Derived.Test.YtlkjkhmifhmjbaaVRow
import Derived.Laws.BitsLemmas
set_option linter.unusedVariables false
set_option linter.unusedSimpArgs false
namespace Go.Proofs.Ytlkjkhmifhmjbaa.V
open Go
/-- From some number of rounds on it answers r. -/
def Evr {α : Type} (g : Nat → Option α) (r : α) : Prop := ∃ K, ∀ n, K ≤ n → g n = some r
section
variable {α β : Type}
theorem Evr.succ {g : Nat → Option α} {r : α} (h : Evr (fun n => g (n + 1)) r) : Evr g r := by
  obtain ⟨K, h⟩ := h
  refine ⟨K + 1, fun n hn => ?_⟩
  obtain ⟨m, rfl⟩ : ∃ m, n = m + 1 := ⟨n - 1, by omega⟩
  exact h m (by omega)
theorem Evr.now (r : α) : Evr (fun _ => some r) r := ⟨0, fun _ _ => rfl⟩
theorem Evr.bind {f : Nat → Option α} {h : Nat → α → Option β} {a : α} {r : β} (hf : Evr f a) (hh : Evr (fun n => h n a) r) : Evr (fun n => (f n).bind (h n)) r := by
  obtain ⟨K, hf⟩ := hf
  obtain ⟨K', hh⟩ := hh
  exact ⟨max K K', fun n hn => by show (f n).bind (h n) = _; rw [hf n (by omega), Option.bind_some]; exact hh n (by omega)⟩
theorem Evr.pos {c : Prop} [Decidable c] {f g : Nat → Option α} {r : α} (hc : c) (h : Evr f r) : Evr (fun n => if c then f n else g n) r := by
  simpa only [if_pos hc] using h
theorem Evr.neg {c : Prop} [Decidable c] {f g : Nat → Option α} {r : α} (hc : ¬ c) (h : Evr g r) : Evr (fun n => if c then f n else g n) r := by
  simpa only [if_neg hc] using h
theorem Evr.ite {c : Prop} [Decidable c] {f g : Nat → Option α} {r : α} (h1 : c → Evr f r) (h2 : ¬ c → Evr g r) : Evr (fun n => if c then f n else g n) r := by
  by_cases hc : c
  · exact Evr.pos hc (h1 hc)
  · exact Evr.neg hc (h2 hc)
theorem Evr.to {g : Nat → Option α} {r s : α} (h : Evr g r) (e : r = s) : Evr g s := e ▸ h
theorem Evr.uniq {g : Nat → Option α} {r s : α} (h : Evr g r) (h' : Evr g s) : r = s := by
  obtain ⟨K, h⟩ := h
  obtain ⟨K', h'⟩ := h'
  have a := h (max K K') (by omega)
  rw [h' (max K K') (by omega)] at a
  injection a with a; exact a.symm
/-- A loop: m rounds left, callees with n. -/
def Evl (g : Nat → Nat → Option α) (r : α) : Prop := ∃ K, ∀ m n, K ≤ m → K ≤ n → g m n = some r
theorem Evl.both {g : Nat → Nat → Option α} {r : α} (h : Evl g r) : Evr (fun n => g n n) r := by
  obtain ⟨K, h⟩ := h
  exact ⟨K, fun n hn => h n n hn hn⟩
theorem Evl.succ {g : Nat → Nat → Option α} {r : α} (h : Evl (fun m n => g (m + 1) n) r) : Evl g r := by
  obtain ⟨K, h⟩ := h
  refine ⟨K + 1, fun m n hm hn => ?_⟩
  obtain ⟨k, rfl⟩ : ∃ k, m = k + 1 := ⟨m - 1, by omega⟩
  exact h k n (by omega) (by omega)
theorem Evl.now (r : α) : Evl (fun _ _ => some r) r := ⟨0, fun _ _ _ _ => rfl⟩
theorem Evl.bind {f : Nat → Option α} {h : Nat → Nat → α → Option β} {a : α} {r : β} (hf : Evr f a) (hh : Evl (fun m n => h m n a) r) : Evl (fun m n => (f n).bind (h m n)) r := by
  obtain ⟨K, hf⟩ := hf
  obtain ⟨K', hh⟩ := hh
  exact ⟨max K K', fun m n hm hn => by show (f n).bind (h m n) = _; rw [hf n (by omega), Option.bind_some]; exact hh m n (by omega) (by omega)⟩
theorem Evl.pos {c : Prop} [Decidable c] {f g : Nat → Nat → Option α} {r : α} (hc : c) (h : Evl f r) : Evl (fun m n => if c then f m n else g m n) r := by
  simpa only [if_pos hc] using h
theorem Evl.neg {c : Prop} [Decidable c] {f g : Nat → Nat → Option α} {r : α} (hc : ¬ c) (h : Evl g r) : Evl (fun m n => if c then f m n else g m n) r := by
  simpa only [if_neg hc] using h
end
theorem wrap_id {x : Int} (h1 : -9223372036854775808 ≤ x) (h2 : x ≤ 9223372036854775807) : IntKind.i64.wrap x = x := by
  rw [IntKind.wrap_i64]; omega
end Go.Proofs.Ytlkjkhmifhmjbaa.V
