/- What data is in memory: read (Rd), owned (Own: rows of the call's own, told apart by colours of blocks). -/
import Derived.Test.YtlkjkhmifhmjbaaVRun
import Derived.Maps.AppendAt
import Derived.Below
set_option linter.unusedVariables false
set_option linter.unusedSimpArgs false
namespace Go.Proofs.Ytlkjkhmifhmjbaa.V
open Go Go.RowKit

/-! ### two lists, side by side -/
def All2 {α β : Type} (R : α → β → Prop) : List α → List β → Prop
  | [], [] => True
  | a :: as, b :: bs => R a b ∧ All2 R as bs
  | _, _ => False
section
variable {α β : Type} {R R' : α → β → Prop}
theorem All2.len : ∀ {as : List α} {bs : List β}, All2 R as bs → as.length = bs.length
  | [], [], _ => rfl
  | _ :: _, _ :: _, h => by simp [All2.len h.2]
  | [], _ :: _, h => h.elim
  | _ :: _, [], h => h.elim
theorem All2.imp : ∀ {as : List α} {bs : List β}, (∀ a b, a ∈ as → R a b → R' a b) → All2 R as bs → All2 R' as bs
  | [], [], _, _ => trivial
  | _ :: _, _ :: _, hi, h => ⟨hi _ _ List.mem_cons_self h.1, All2.imp (fun a b ha => hi a b (List.mem_cons_of_mem _ ha)) h.2⟩
  | [], _ :: _, _, h => h.elim
  | _ :: _, [], _, h => h.elim
theorem All2.app : ∀ {as as' : List α} {bs bs' : List β}, All2 R as bs → All2 R as' bs' → All2 R (as ++ as') (bs ++ bs')
  | [], _, [], _, _, h' => h'
  | _ :: _, _, _ :: _, _, h, h' => ⟨h.1, All2.app h.2 h'⟩
  | [], _, _ :: _, _, h, _ => h.elim
  | _ :: _, _, [], _, h, _ => h.elim
theorem All2.take : ∀ {as : List α} {bs : List β} (n : Nat), All2 R as bs → All2 R (as.take n) (bs.take n)
  | [], [], n, _ => by cases n <;> trivial
  | _ :: _, _ :: _, 0, _ => trivial
  | _ :: _, _ :: _, n + 1, h => ⟨h.1, All2.take n h.2⟩
  | [], _ :: _, _, h => h.elim
  | _ :: _, [], _, h => h.elim
theorem All2.drop : ∀ {as : List α} {bs : List β} (n : Nat), All2 R as bs → All2 R (as.drop n) (bs.drop n)
  | [], [], n, _ => by cases n <;> trivial
  | _ :: _, _ :: _, 0, h => h
  | _ :: _, _ :: _, n + 1, h => All2.drop n h.2
  | [], _ :: _, _, h => h.elim
  | _ :: _, [], _, h => h.elim
theorem All2.get : ∀ {as : List α} {bs : List β} {i : Nat} {a : α}, All2 R as bs → as[i]? = some a → ∃ b, bs[i]? = some b ∧ R a b
  | a :: as, b :: bs, 0, x, h, e => by simp at e; subst e; exact ⟨b, rfl, h.1⟩
  | a :: as, b :: bs, i + 1, x, h, e => by
    obtain ⟨b', hb, hr⟩ := All2.get h.2 (i := i) (a := x) (by simpa using e)
    exact ⟨b', by simpa using hb, hr⟩
  | [], [], _, _, _, e => by simp at e
  | [], _ :: _, _, _, h, _ => h.elim
  | _ :: _, [], _, _, h, _ => h.elim
theorem All2.mk {as : List α} {bs : List β} (hl : as.length = bs.length) (h : ∀ (i : Nat) (a : α) (b : β), as[i]? = some a → bs[i]? = some b → R a b) : All2 R as bs := by
  induction as generalizing bs with
  | nil => cases bs with
    | nil => trivial
    | cons b bs => simp at hl
  | cons a as ih => cases bs with
    | nil => simp at hl
    | cons b bs => exact ⟨h 0 a b rfl rfl, ih (by simpa using hl) (fun i x y hx hy => h (i + 1) x y (by simpa using hx) (by simpa using hy))⟩
end

/-! ### data that is read -/
def Rd (w : World) (ok : Nat → Prop) : (t : Ty) → den t → List Value → Prop
  | .int k, n, cs => cs = [.int k n]
  | .bool, b, cs => cs = [.bool b]
  | .str, s, cs => cs = [.string s]
  | .sl _ t, xs, cs => ∃ (A : Option Addr) (cp : Nat) (inner : List Value), cs = [.slice A (xs : List (den t)).length cp] ∧ (xs : List (den t)).length ≤ cp ∧ cp ≤ maxLen ∧
      inner.length = (xs : List (den t)).length * width t ∧ (∀ (j : Nat) (u : Value), inner[j]? = some u → ∃ ad, A = some ad ∧ ok ad.block ∧ w.cell? (ad.add j) = some u) ∧
      ∀ (j : Nat) (x : den t), (xs : List (den t))[j]? = some x → Rd w ok t x ((inner.drop (j * width t)).take (width t))
  | .pair a b, x, cs => ∃ c0 c1, cs = c0 ++ c1 ∧ Rd w ok a (x : den a × den b).1 c0 ∧ Rd w ok b (x : den a × den b).2 c1
  | .unit, _, cs => cs = []
theorem Rd_len {w : World} {ok : Nat → Prop} : ∀ {t : Ty} {x : den t} {cs : List Value}, Rd w ok t x cs → cs.length = width t
  | .int _, _, _, h => by rw [show _ = _ from h]; rfl
  | .bool, _, _, h => by rw [show _ = _ from h]; rfl
  | .str, _, _, h => by rw [show _ = _ from h]; rfl
  | .sl _ _, _, _, ⟨_, _, _, h, _⟩ => by rw [h]; rfl
  | .pair a b, _, _, ⟨c0, c1, h, h0, h1⟩ => by rw [h, List.length_append, Rd_len h0, Rd_len h1]; rfl
  | .unit, _, _, h => by rw [show _ = _ from h]; rfl
theorem Rd_one {w : World} {ok : Nat → Prop} : ∀ {t : Ty} {x : den t} {cs : List Value}, Rd w ok t x cs → ∀ u ∈ cs, u.oneCell' = true
  | .int _, _, _, h, u, hu => by rw [show _ = _ from h, List.mem_singleton] at hu; rw [hu]; rfl
  | .bool, _, _, h, u, hu => by rw [show _ = _ from h, List.mem_singleton] at hu; rw [hu]; rfl
  | .str, _, _, h, u, hu => by rw [show _ = _ from h, List.mem_singleton] at hu; rw [hu]; rfl
  | .sl _ _, _, _, ⟨_, _, _, h, _⟩, u, hu => by rw [h, List.mem_singleton] at hu; rw [hu]; rfl
  | .pair a b, _, _, ⟨c0, c1, h, h0, h1⟩, u, hu => by
    rw [h, List.mem_append] at hu
    exact hu.elim (Rd_one h0 u) (Rd_one h1 u)
  | .unit, _, _, h, u, hu => by rw [show _ = _ from h] at hu; simp at hu
theorem cell_same {w w' : World} {a : Addr} {u : Value} (h : w.cell? a = some u) (hm : a.block < w.heap.size → w'.heap[a.block]? = w.heap[a.block]?) : w'.cell? a = some u := by
  rw [World.cell?_of_block (hm (World.block_lt_of_cell? w a h))]; exact h
theorem add_block (a : Addr) (j : Nat) : (a.add j).block = a.block := by unfold Addr.add; split <;> rfl
/-- What is read is read still, where the blocks that it leads to are as they were. -/
theorem Rd_step {w w' : World} {ok ok' : Nat → Prop} (hm : ∀ k, ok k → k < w.heap.size → ok' k ∧ w'.heap[k]? = w.heap[k]?) : ∀ {t : Ty} {x : den t} {cs : List Value}, Rd w ok t x cs → Rd w' ok' t x cs
  | .int _, _, _, h => h
  | .bool, _, _, h => h
  | .str, _, _, h => h
  | .sl _ t, _, _, ⟨A, cp, inner, h, hl, hc, hi, hcell, hr⟩ => ⟨A, cp, inner, h, hl, hc, hi, fun j u hu => by
      obtain ⟨ad, hA, ho, hcl⟩ := hcell j u hu
      have hlt : ad.block < w.heap.size := by have := World.block_lt_of_cell? w _ hcl; rwa [add_block] at this
      exact ⟨ad, hA, (hm _ ho hlt).1, cell_same hcl (fun hlt => by rw [add_block] at *; exact (hm _ ho hlt).2)⟩, fun j x hx => Rd_step hm (hr j x hx)⟩
  | .pair a b, _, _, ⟨c0, c1, h, h0, h1⟩ => ⟨c0, c1, h, Rd_step hm h0, Rd_step hm h1⟩
  | .unit, _, _, h => h

/-! ### rows of the call's own -/
def Own (w : World) (χ : Nat → List Nat) : (t : Ty) → (p : List Nat) → den t → List Value → Prop
  | .int k, _, n, cs => cs = [.int k n]
  | .bool, _, b, cs => cs = [.bool b]
  | .str, _, s, cs => cs = [.string s]
  | .sl e t, p, xs, cs => ∃ (v : Value) (inner : List Value), cs = [v] ∧ w.ownsRow 0 e (width t) v (xs : List (den t)).length inner ∧ (∀ k, v.ownBlock = some k → χ k = p) ∧
      ∀ (j : Nat) (x : den t), (xs : List (den t))[j]? = some x → Own w χ t (p ++ [j]) x ((inner.drop (j * width t)).take (width t))
  | .pair a b, p, x, cs => ∃ c0 c1, cs = c0 ++ c1 ∧ Own w χ a (p ++ [0]) (x : den a × den b).1 c0 ∧ Own w χ b (p ++ [1]) (x : den a × den b).2 c1
  | .unit, _, _, cs => cs = []
theorem ownsRow_slice {w : World} {base e size n : Nat} {v : Value} {xs : List Value} (h : w.ownsRow base e size v n xs) : ∃ A c, v = .slice A n c ∧ n ≤ c ∧ c ≤ maxLen := by
  rcases h.2 with ⟨rfl, rfl⟩ | ⟨g, cap, cur, rfl, _, _, h1, h2, _⟩
  · exact ⟨none, 0, rfl, Nat.le_refl _, Nat.zero_le _⟩
  · exact ⟨_, cap, rfl, h1, h2⟩
theorem Own_len {w : World} {χ : Nat → List Nat} : ∀ {t : Ty} {p : List Nat} {x : den t} {cs : List Value}, Own w χ t p x cs → cs.length = width t
  | .int _, _, _, _, h => by rw [show _ = _ from h]; rfl
  | .bool, _, _, _, h => by rw [show _ = _ from h]; rfl
  | .str, _, _, _, h => by rw [show _ = _ from h]; rfl
  | .sl _ _, _, _, _, ⟨_, _, h, _⟩ => by rw [h]; rfl
  | .pair a b, _, _, _, ⟨c0, c1, h, h0, h1⟩ => by rw [h, List.length_append, Own_len h0, Own_len h1]; rfl
  | .unit, _, _, _, h => by rw [show _ = _ from h]; rfl
theorem ownsRow_move {w w' : World} {base e size n : Nat} {v : Value} {xs : List Value} (h : w.ownsRow base e size v n xs) (hm : ∀ k, v.ownBlock = some k → k < w.heap.size → w'.heap[k]? = w.heap[k]?) : w'.ownsRow base e size v n xs := by
  obtain ⟨h1, h2⟩ := h
  refine ⟨h1, ?_⟩
  rcases h2 with h2 | ⟨g, cap, cur, rfl, hg, hh, r⟩
  · exact .inl h2
  · exact .inr ⟨g, cap, cur, rfl, hg, (hm g (by simp [Value.ownBlock]) (Array.getElem?_eq_some_iff.1 hh).1).trans hh, r⟩
/-- A row of the call's own is it still, in other colours and in a later world, where its blocks are as they were. -/
theorem Own_step {w w' : World} {χ χ' : Nat → List Nat} : ∀ {t : Ty} {p p' : List Nat} {x : den t} {cs : List Value}, (∀ k r, χ k = p ++ r → k < w.heap.size → χ' k = p' ++ r ∧ w'.heap[k]? = w.heap[k]?) → Own w χ t p x cs → Own w' χ' t p' x cs
  | .int _, _, _, _, _, _, h => h
  | .bool, _, _, _, _, _, h => h
  | .str, _, _, _, _, _, h => h
  | .sl e t, p, p', xs, cs, hm, ⟨v, inner, h, ho, hc, hr⟩ => by
    have hlt : ∀ k, v.ownBlock = some k → k < w.heap.size := fun k hk => (ho.lt k hk).2
    refine ⟨v, inner, h, ownsRow_move ho (fun k hk hl => (hm k [] (by rw [hc k hk, List.append_nil]) hl).2), fun k hk => ?_, fun j x hx => Own_step (fun k r hk hl => ?_) (hr j x hx)⟩
    · have := (hm k [] (by rw [hc k hk, List.append_nil]) (hlt k hk)).1
      rw [this, List.append_nil]
    · have := hm k (j :: r) (by rw [hk, List.append_assoc]; rfl) hl
      rw [List.append_assoc]; exact this
  | .pair a b, p, p', x, cs, hm, ⟨c0, c1, h, h0, h1⟩ => by
    refine ⟨c0, c1, h, Own_step (fun k r hk hl => ?_) h0, Own_step (fun k r hk hl => ?_) h1⟩
    · have := hm k (0 :: r) (by rw [hk, List.append_assoc]; rfl) hl
      rw [List.append_assoc]; exact this
    · have := hm k (1 :: r) (by rw [hk, List.append_assoc]; rfl) hl
      rw [List.append_assoc]; exact this
  | .unit, _, _, _, _, _, h => h
/-- What is owned can be read. -/
theorem Own_Rd {w : World} {χ : Nat → List Nat} {ok : Nat → Prop} : ∀ {t : Ty} {p : List Nat} {x : den t} {cs : List Value}, (∀ k r, χ k = p ++ r → ok k) → Own w χ t p x cs → Rd w ok t x cs
  | .int _, _, _, _, _, h => h
  | .bool, _, _, _, _, h => h
  | .str, _, _, _, _, h => h
  | .sl e t, p, xs, cs, hok, ⟨v, inner, h, ho, hc, hr⟩ => by
    obtain ⟨A, cp, rfl, h1, h2⟩ := ownsRow_slice ho
    refine ⟨A, cp, inner, h, h1, h2, ho.1, fun j u hu => ?_, fun j x hx => Own_Rd (fun k r hk => hok k (j :: r) (by rw [hk, List.append_assoc]; rfl)) (hr j x hx)⟩
    rcases ho.2 with ⟨he, hn⟩ | ⟨g, cap, cur, he, _⟩
    · have : inner = [] := List.eq_nil_of_length_eq_zero (by rw [ho.1, hn, Nat.zero_mul])
      rw [this] at hu; simp at hu
    · have hA : A = some ⟨g, 0, none⟩ := by injection he
      subst hA
      exact ⟨_, rfl, hok g [] (by rw [hc g rfl, List.append_nil]), ho.cells (g := g) rfl j u hu⟩
  | .pair a b, p, x, cs, hok, ⟨c0, c1, h, h0, h1⟩ => ⟨c0, c1, h, Own_Rd (fun k r hk => hok k (0 :: r) (by rw [hk, List.append_assoc]; rfl)) h0, Own_Rd (fun k r hk => hok k (1 :: r) (by rw [hk, List.append_assoc]; rfl)) h1⟩
  | .unit, _, _, _, _, h => h
theorem Own_one {w : World} {χ : Nat → List Nat} {t : Ty} {p : List Nat} {x : den t} {cs : List Value} (h : Own w χ t p x cs) : ∀ u ∈ cs, u.oneCell' = true := Rd_one (Own_Rd (ok := fun _ => True) (fun _ _ _ => trivial) h)
end Go.Proofs.Ytlkjkhmifhmjbaa.V
