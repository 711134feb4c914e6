/- What data is in memory: read (Rd), owned (Own: rows of the call's own, told apart by colours of blocks). -/
import Derived.Test.YtoioaijpdiglfaaVRun
import Derived.Maps.AppendAt
import Derived.Below
set_option linter.unusedVariables false
set_option linter.unusedSimpArgs false
namespace Go.Proofs.Ytoioaijpdiglfaa.V
open Go Go.RowKit

/-! ### two lists, side by side -/
def All2 {α β : Type} (R : α → β → Prop) : List α → List β → Prop
  | [], [] => True
  | a :: as, b :: bs => R a b ∧ All2 R as bs
  | _, _ => False
section
variable {α β : Type} {R R' : α → β → Prop}
theorem All2.len : ∀ {as : List α} {bs : List β}, All2 R as bs → as.length = bs.length
  | [], [], _ => rfl
  | _ :: _, _ :: _, h => by simp [All2.len h.2]
  | [], _ :: _, h => h.elim
  | _ :: _, [], h => h.elim
theorem All2.imp : ∀ {as : List α} {bs : List β}, (∀ a b, a ∈ as → R a b → R' a b) → All2 R as bs → All2 R' as bs
  | [], [], _, _ => trivial
  | _ :: _, _ :: _, hi, h => ⟨hi _ _ List.mem_cons_self h.1, All2.imp (fun a b ha => hi a b (List.mem_cons_of_mem _ ha)) h.2⟩
  | [], _ :: _, _, h => h.elim
  | _ :: _, [], _, h => h.elim
theorem All2.app : ∀ {as as' : List α} {bs bs' : List β}, All2 R as bs → All2 R as' bs' → All2 R (as ++ as') (bs ++ bs')
  | [], _, [], _, _, h' => h'
  | _ :: _, _, _ :: _, _, h, h' => ⟨h.1, All2.app h.2 h'⟩
  | [], _, _ :: _, _, h, _ => h.elim
  | _ :: _, _, [], _, h, _ => h.elim
theorem All2.take : ∀ {as : List α} {bs : List β} (n : Nat), All2 R as bs → All2 R (as.take n) (bs.take n)
  | [], [], n, _ => by cases n <;> trivial
  | _ :: _, _ :: _, 0, _ => trivial
  | _ :: _, _ :: _, n + 1, h => ⟨h.1, All2.take n h.2⟩
  | [], _ :: _, _, h => h.elim
  | _ :: _, [], _, h => h.elim
theorem All2.drop : ∀ {as : List α} {bs : List β} (n : Nat), All2 R as bs → All2 R (as.drop n) (bs.drop n)
  | [], [], n, _ => by cases n <;> trivial
  | _ :: _, _ :: _, 0, h => h
  | _ :: _, _ :: _, n + 1, h => All2.drop n h.2
  | [], _ :: _, _, h => h.elim
  | _ :: _, [], _, h => h.elim
theorem All2.get : ∀ {as : List α} {bs : List β} {i : Nat} {a : α}, All2 R as bs → as[i]? = some a → ∃ b, bs[i]? = some b ∧ R a b
  | a :: as, b :: bs, 0, x, h, e => by simp at e; subst e; exact ⟨b, rfl, h.1⟩
  | a :: as, b :: bs, i + 1, x, h, e => by
    obtain ⟨b', hb, hr⟩ := All2.get h.2 (i := i) (a := x) (by simpa using e)
    exact ⟨b', by simpa using hb, hr⟩
  | [], [], _, _, _, e => by simp at e
  | [], _ :: _, _, _, h, _ => h.elim
  | _ :: _, [], _, _, h, _ => h.elim
theorem All2.mk {as : List α} {bs : List β} (hl : as.length = bs.length) (h : ∀ (i : Nat) (a : α) (b : β), as[i]? = some a → bs[i]? = some b → R a b) : All2 R as bs := by
  induction as generalizing bs with
  | nil => cases bs with
    | nil => trivial
    | cons b bs => simp at hl
  | cons a as ih => cases bs with
    | nil => simp at hl
    | cons b bs => exact ⟨h 0 a b rfl rfl, ih (by simpa using hl) (fun i x y hx hy => h (i + 1) x y (by simpa using hx) (by simpa using hy))⟩
end

/-! ### parts written anew -/
def splice {α : Type} (l : List α) (p : Nat) (us : List α) : List α := l.take p ++ us ++ l.drop (p + us.length)
theorem splice_get {α : Type} {l us : List α} {p : Nat} (h : p + us.length ≤ l.length) (k : Nat) : (splice l p us)[k]? = if p ≤ k ∧ k < p + us.length then us[k - p]? else l[k]? := by
  unfold splice
  have ht : (l.take p).length = p := by rw [List.length_take]; omega
  rw [List.append_assoc]
  by_cases h1 : k < p
  · rw [List.getElem?_append_left (by omega), List.getElem?_take, if_pos h1, if_neg (by omega)]
  · rw [List.getElem?_append_right (by omega), ht]
    by_cases h2 : k < p + us.length
    · rw [List.getElem?_append_left (by omega), if_pos ⟨by omega, h2⟩]
    · rw [List.getElem?_append_right (by omega), List.getElem?_drop, if_neg (by omega)]
      congr 1; omega
theorem splice_len {α : Type} {l us : List α} {p : Nat} (h : p + us.length ≤ l.length) : (splice l p us).length = l.length := by
  unfold splice
  rw [List.length_append, List.length_append, List.length_take, List.length_drop]; omega
theorem splice_All2 {α β : Type} {R : α → β → Prop} {l us : List α} {m vs : List β} {p : Nat} (h : All2 R l m) (h' : All2 R us vs) : All2 R (splice l p us) (splice m p vs) := by
  unfold splice
  rw [← h'.len]
  exact ((h.take p).app h').app (h.drop _)
theorem splice_mem {α : Type} {l us : List α} {p : Nat} {x : α} (h : x ∈ splice l p us) : x ∈ l ∨ x ∈ us := by
  unfold splice at h
  rw [List.mem_append, List.mem_append] at h
  rcases h with (h | h) | h
  · exact .inl (List.mem_of_mem_take h)
  · exact .inr h
  · exact .inl (List.mem_of_mem_drop h)
/-- Pieces of a row with a part written anew. -/
theorem chunk_other {α : Type} {l us : List α} {i j n wd off : Nat} (hl : l.length = n * wd) (hi : i < n) (ho : off + us.length ≤ wd) (hne : j ≠ i) :
    ((splice l (i * wd + off) us).drop (j * wd)).take wd = (l.drop (j * wd)).take wd := by
  have hfit : i * wd + off + us.length ≤ l.length := by
    have : i * wd + wd ≤ n * wd := by rw [← Nat.succ_mul]; exact Nat.mul_le_mul_right _ hi
    omega
  apply List.ext_getElem?
  intro k
  rw [List.getElem?_take, List.getElem?_take, List.getElem?_drop, List.getElem?_drop]
  by_cases hk : k < wd
  · rw [if_pos hk, if_pos hk, splice_get hfit, if_neg]
    rcases Nat.lt_or_gt_of_ne hne with h | h
    · have : j * wd + wd ≤ i * wd := by rw [← Nat.succ_mul]; exact Nat.mul_le_mul_right _ h
      omega
    · have : i * wd + wd ≤ j * wd := by rw [← Nat.succ_mul]; exact Nat.mul_le_mul_right _ h
      omega
  · rw [if_neg hk, if_neg hk]
theorem chunk_same {α : Type} {l us : List α} {i n wd off : Nat} (hl : l.length = n * wd) (hi : i < n) (ho : off + us.length ≤ wd) :
    ((splice l (i * wd + off) us).drop (i * wd)).take wd = splice ((l.drop (i * wd)).take wd) off us := by
  have hfit : i * wd + wd ≤ l.length := by
    have : i * wd + wd ≤ n * wd := by rw [← Nat.succ_mul]; exact Nat.mul_le_mul_right _ hi
    omega
  have hc : ((l.drop (i * wd)).take wd).length = wd := by rw [List.length_take, List.length_drop]; omega
  apply List.ext_getElem?
  intro k
  rw [List.getElem?_take, List.getElem?_drop, splice_get (by omega), splice_get (by omega), List.getElem?_take, List.getElem?_drop]
  by_cases hk : k < wd
  · rw [if_pos hk]
    by_cases h : off ≤ k ∧ k < off + us.length
    · rw [if_pos (by omega), if_pos h]; congr 1; omega
    · rw [if_neg (by omega), if_neg h, if_pos hk]
  · rw [if_neg hk, if_neg (by omega), if_neg hk]
/-! ### data that is read -/
def Rd (w : World) (ok : Nat → Prop) : (t : Ty) → den t → List Value → Prop
  | .int k, n, cs => cs = [.int k n]
  | .bool, b, cs => cs = [.bool b]
  | .str, s, cs => cs = [.string s]
  | .sl _ t, xs, cs => ∃ (A : Option Addr) (cp : Nat) (inner : List Value), cs = [.slice A (xs : List (den t)).length cp] ∧ (xs : List (den t)).length ≤ cp ∧ cp ≤ maxLen ∧
      inner.length = (xs : List (den t)).length * width t ∧ (∀ (j : Nat) (u : Value), inner[j]? = some u → ∃ ad, A = some ad ∧ ok ad.block ∧ w.cell? (ad.add j) = some u) ∧
      ∀ (j : Nat) (x : den t), (xs : List (den t))[j]? = some x → Rd w ok t x ((inner.drop (j * width t)).take (width t))
  | .pair a b, x, cs => ∃ c0 c1, cs = c0 ++ c1 ∧ Rd w ok a (x : den a × den b).1 c0 ∧ Rd w ok b (x : den a × den b).2 c1
  | .unit, _, cs => cs = []
  | .ptr _ _, _, cs => ∃ a, cs = [.pointer a]
theorem Rd_len {w : World} {ok : Nat → Prop} : ∀ {t : Ty} {x : den t} {cs : List Value}, Rd w ok t x cs → cs.length = width t
  | .int _, _, _, h => by rw [show _ = _ from h]; rfl
  | .bool, _, _, h => by rw [show _ = _ from h]; rfl
  | .str, _, _, h => by rw [show _ = _ from h]; rfl
  | .sl _ _, _, _, ⟨_, _, _, h, _⟩ => by rw [h]; rfl
  | .pair a b, _, _, ⟨c0, c1, h, h0, h1⟩ => by rw [h, List.length_append, Rd_len h0, Rd_len h1]; rfl
  | .unit, _, _, h => by rw [show _ = _ from h]; rfl
  | .ptr _ _, _, _, ⟨_, h⟩ => by rw [h]; rfl
theorem Rd_one {w : World} {ok : Nat → Prop} : ∀ {t : Ty} {x : den t} {cs : List Value}, Rd w ok t x cs → ∀ u ∈ cs, u.oneCell' = true
  | .int _, _, _, h, u, hu => by rw [show _ = _ from h, List.mem_singleton] at hu; rw [hu]; rfl
  | .bool, _, _, h, u, hu => by rw [show _ = _ from h, List.mem_singleton] at hu; rw [hu]; rfl
  | .str, _, _, h, u, hu => by rw [show _ = _ from h, List.mem_singleton] at hu; rw [hu]; rfl
  | .sl _ _, _, _, ⟨_, _, _, h, _⟩, u, hu => by rw [h, List.mem_singleton] at hu; rw [hu]; rfl
  | .pair a b, _, _, ⟨c0, c1, h, h0, h1⟩, u, hu => by
    rw [h, List.mem_append] at hu
    exact hu.elim (Rd_one h0 u) (Rd_one h1 u)
  | .unit, _, _, h, u, hu => by rw [show _ = _ from h] at hu; simp at hu
  | .ptr _ _, _, _, ⟨_, h⟩, u, hu => by rw [h, List.mem_singleton] at hu; rw [hu]; rfl
theorem cell_same {w w' : World} {a : Addr} {u : Value} (h : w.cell? a = some u) (hm : a.block < w.heap.size → w'.heap[a.block]? = w.heap[a.block]?) : w'.cell? a = some u := by
  rw [World.cell?_of_block (hm (World.block_lt_of_cell? w a h))]; exact h
theorem add_block (a : Addr) (j : Nat) : (a.add j).block = a.block := by unfold Addr.add; split <;> rfl
/-- What is read is read still, where the blocks that it leads to are as they were. -/
theorem Rd_step {w w' : World} {ok ok' : Nat → Prop} (hm : ∀ k, ok k → k < w.heap.size → ok' k ∧ w'.heap[k]? = w.heap[k]?) : ∀ {t : Ty} {x : den t} {cs : List Value}, Rd w ok t x cs → Rd w' ok' t x cs
  | .int _, _, _, h => h
  | .bool, _, _, h => h
  | .str, _, _, h => h
  | .sl _ t, _, _, ⟨A, cp, inner, h, hl, hc, hi, hcell, hr⟩ => ⟨A, cp, inner, h, hl, hc, hi, fun j u hu => by
      obtain ⟨ad, hA, ho, hcl⟩ := hcell j u hu
      have hlt : ad.block < w.heap.size := by have := World.block_lt_of_cell? w _ hcl; rwa [add_block] at this
      exact ⟨ad, hA, (hm _ ho hlt).1, cell_same hcl (fun hlt => by rw [add_block] at *; exact (hm _ ho hlt).2)⟩, fun j x hx => Rd_step hm (hr j x hx)⟩
  | .pair a b, _, _, ⟨c0, c1, h, h0, h1⟩ => ⟨c0, c1, h, Rd_step hm h0, Rd_step hm h1⟩
  | .unit, _, _, h => h
  | .ptr _ _, _, _, h => h

/-! ### rows of the call's own -/
def Own (w : World) (χ : Nat → List Nat) : (t : Ty) → (p : List Nat) → den t → List Value → Prop
  | .int k, _, n, cs => cs = [.int k n]
  | .bool, _, b, cs => cs = [.bool b]
  | .str, _, s, cs => cs = [.string s]
  | .sl e t, p, xs, cs => ∃ (v : Value) (inner : List Value), cs = [v] ∧ w.ownsRow 0 e (width t) v (xs : List (den t)).length inner ∧ (∀ k, v.ownBlock = some k → χ k = p) ∧
      ∀ (j : Nat) (x : den t), (xs : List (den t))[j]? = some x → Own w χ t (p ++ [j]) x ((inner.drop (j * width t)).take (width t))
  | .pair a b, p, x, cs => ∃ c0 c1, cs = c0 ++ c1 ∧ Own w χ a (p ++ [0]) (x : den a × den b).1 c0 ∧ Own w χ b (p ++ [1]) (x : den a × den b).2 c1
  | .unit, _, _, cs => cs = []
  | .ptr _ t, p, x, cs => ∃ (b : Nat) (z : TypeId) (inner : List Value) (n : Nat), p = [n + 1] ∧ cs = [.pointer (some ⟨b, 0, none⟩)] ∧ w.heap[b]? = some (.cells inner.toArray z (0, 0)) ∧ χ b = [0, n] ∧ Rd w (fun k => χ k = []) t x inner
theorem ownsRow_slice {w : World} {base e size n : Nat} {v : Value} {xs : List Value} (h : w.ownsRow base e size v n xs) : ∃ A c, v = .slice A n c ∧ n ≤ c ∧ c ≤ maxLen := by
  rcases h.2 with ⟨rfl, rfl⟩ | ⟨g, cap, cur, rfl, _, _, h1, h2, _⟩
  · exact ⟨none, 0, rfl, Nat.le_refl _, Nat.zero_le _⟩
  · exact ⟨_, cap, rfl, h1, h2⟩
theorem Own_len {w : World} {χ : Nat → List Nat} : ∀ {t : Ty} {p : List Nat} {x : den t} {cs : List Value}, Own w χ t p x cs → cs.length = width t
  | .int _, _, _, _, h => by rw [show _ = _ from h]; rfl
  | .bool, _, _, _, h => by rw [show _ = _ from h]; rfl
  | .str, _, _, _, h => by rw [show _ = _ from h]; rfl
  | .sl _ _, _, _, _, ⟨_, _, h, _⟩ => by rw [h]; rfl
  | .pair a b, _, _, _, ⟨c0, c1, h, h0, h1⟩ => by rw [h, List.length_append, Own_len h0, Own_len h1]; rfl
  | .unit, _, _, _, h => by rw [show _ = _ from h]; rfl
  | .ptr _ _, _, _, _, ⟨_, _, _, _, _, h, _⟩ => by rw [h]; rfl
theorem ownsRow_move {w w' : World} {base e size n : Nat} {v : Value} {xs : List Value} (h : w.ownsRow base e size v n xs) (hm : ∀ k, v.ownBlock = some k → k < w.heap.size → w'.heap[k]? = w.heap[k]?) : w'.ownsRow base e size v n xs := by
  obtain ⟨h1, h2⟩ := h
  refine ⟨h1, ?_⟩
  rcases h2 with h2 | ⟨g, cap, cur, rfl, hg, hh, r⟩
  · exact .inl h2
  · exact .inr ⟨g, cap, cur, rfl, hg, (hm g (by simp [Value.ownBlock]) (Array.getElem?_eq_some_iff.1 hh).1).trans hh, r⟩
/-- A row of the call's own is it still, in other colours and in a later world, where its blocks are as they were. -/
theorem Own_step {w w' : World} {χ χ' : Nat → List Nat} : ∀ {t : Ty} {p p' : List Nat} {x : den t} {cs : List Value}, noP t = true → (∀ k r, χ k = p ++ r → k < w.heap.size → χ' k = p' ++ r ∧ w'.heap[k]? = w.heap[k]?) → Own w χ t p x cs → Own w' χ' t p' x cs
  | .int _, _, _, _, _, _, _, h => h
  | .bool, _, _, _, _, _, _, h => h
  | .str, _, _, _, _, _, _, h => h
  | .sl e t, p, p', xs, cs, hp, hm, ⟨v, inner, h, ho, hc, hr⟩ => by
    have hlt : ∀ k, v.ownBlock = some k → k < w.heap.size := fun k hk => (ho.lt k hk).2
    refine ⟨v, inner, h, ownsRow_move ho (fun k hk hl => (hm k [] (by rw [hc k hk, List.append_nil]) hl).2), fun k hk => ?_, fun j x hx => Own_step (by simpa [noP] using hp) (fun k r hk hl => ?_) (hr j x hx)⟩
    · have := (hm k [] (by rw [hc k hk, List.append_nil]) (hlt k hk)).1
      rw [this, List.append_nil]
    · have := hm k (j :: r) (by rw [hk, List.append_assoc]; rfl) hl
      rw [List.append_assoc]; exact this
  | .pair a b, p, p', x, cs, hp, hm, ⟨c0, c1, h, h0, h1⟩ => by
    simp only [noP, Bool.and_eq_true] at hp
    refine ⟨c0, c1, h, Own_step hp.1 (fun k r hk hl => ?_) h0, Own_step hp.2 (fun k r hk hl => ?_) h1⟩
    · have := hm k (0 :: r) (by rw [hk, List.append_assoc]; rfl) hl
      rw [List.append_assoc]; exact this
    · have := hm k (1 :: r) (by rw [hk, List.append_assoc]; rfl) hl
      rw [List.append_assoc]; exact this
  | .unit, _, _, _, _, _, _, h => h
  | .ptr _ _, _, _, _, _, hp, _, _ => by cases hp
/-- What is owned can be read. -/
theorem Own_Rd {w : World} {χ : Nat → List Nat} {ok : Nat → Prop} : ∀ {t : Ty} {p : List Nat} {x : den t} {cs : List Value}, (∀ k r, χ k = p ++ r → ok k) → Own w χ t p x cs → Rd w ok t x cs
  | .int _, _, _, _, _, h => h
  | .bool, _, _, _, _, h => h
  | .str, _, _, _, _, h => h
  | .sl e t, p, xs, cs, hok, ⟨v, inner, h, ho, hc, hr⟩ => by
    obtain ⟨A, cp, rfl, h1, h2⟩ := ownsRow_slice ho
    refine ⟨A, cp, inner, h, h1, h2, ho.1, fun j u hu => ?_, fun j x hx => Own_Rd (fun k r hk => hok k (j :: r) (by rw [hk, List.append_assoc]; rfl)) (hr j x hx)⟩
    rcases ho.2 with ⟨he, hn⟩ | ⟨g, cap, cur, he, _⟩
    · have : inner = [] := List.eq_nil_of_length_eq_zero (by rw [ho.1, hn, Nat.zero_mul])
      rw [this] at hu; simp at hu
    · have hA : A = some ⟨g, 0, none⟩ := by injection he
      subst hA
      exact ⟨_, rfl, hok g [] (by rw [hc g rfl, List.append_nil]), ho.cells (g := g) rfl j u hu⟩
  | .pair a b, p, x, cs, hok, ⟨c0, c1, h, h0, h1⟩ => ⟨c0, c1, h, Own_Rd (fun k r hk => hok k (0 :: r) (by rw [hk, List.append_assoc]; rfl)) h0, Own_Rd (fun k r hk => hok k (1 :: r) (by rw [hk, List.append_assoc]; rfl)) h1⟩
  | .unit, _, _, _, _, h => h
  | .ptr _ _, _, _, _, _, ⟨b, _, _, _, _, h, _⟩ => ⟨_, h⟩
theorem Own_one {w : World} {χ : Nat → List Nat} {t : Ty} {p : List Nat} {x : den t} {cs : List Value} (h : Own w χ t p x cs) : ∀ u ∈ cs, u.oneCell' = true := Rd_one (Own_Rd (ok := fun _ => True) (fun _ _ _ => trivial) h)

/-! ### the place of a leaf in an element; leaves put anew -/
def lp : Ty → Nat → List Nat
  | .pair a b, o => cond (Nat.blt o (width a)) (0 :: lp a o) (1 :: lp b (o - width a))
  | _, _ => []
/-- A leaf's cell put anew: what is owned then, in new colours. -/
theorem Own_put {w w' : World} {χ χ' : Nat → List Nat} {f : Nat → Val} {v : V} {u : Value} : ∀ {t : Ty} {p : List Nat} {x : den t} {cs : List Value} {o : Nat} {z : den t}, noP t = true → o < width t →
    (∀ k r, χ k = p ++ r → (∀ q, r ≠ lp t o ++ q) → k < w.heap.size → χ' k = p ++ r ∧ w'.heap[k]? = w.heap[k]?) → Own w χ t p x cs →
    (∀ (s : Ty) (y : den s), noP s = true → packV f s v = some y → Own w' χ' s (p ++ lp t o) y [u]) → setLeaf f t x o v = some z → Own w' χ' t p z (splice cs o [u]) := by
  have one : ∀ {s : Ty} {p : List Nat} {x : den s} {cs : List Value} {o : Nat} {z : den s}, width s = 1 → o < width s → Own w χ s p x cs → Own w' χ' s (p ++ []) z [u] → Own w' χ' s p z (splice cs o [u]) := fun {s p x cs o z} h1 ho hown hu => by
    have ho : o = 0 := by omega
    subst ho
    unfold splice
    have hl := Own_len hown
    have : cs.drop (0 + [u].length) = [] := List.drop_of_length_le (by simp only [List.length_singleton]; omega)
    rw [this, List.take_zero, List.nil_append, List.append_nil]
    rw [List.append_nil] at hu
    exact hu
  intro t
  induction t with
  | int k => intro p x cs o z hp ho hm hown hu hs; exact one rfl ho hown (hu _ _ rfl hs)
  | bool => intro p x cs o z hp ho hm hown hu hs; exact one rfl ho hown (hu _ _ rfl hs)
  | str => intro p x cs o z hp ho hm hown hu hs; exact one rfl ho hown (hu _ _ rfl hs)
  | unit => intro p x cs o z hp ho hm hown hu hs; simp [width] at ho
  | ptr _ _ _ => intro p x cs o z hp; cases hp
  | sl e' t' _ => intro p x cs o z hp ho hm hown hu hs; exact one rfl ho hown (hu _ _ hp hs)
  | pair a b iha ihb =>
    intro p x cs o z hp ho hm ⟨c0, c1, hcs, h0, h1⟩ hu hs
    simp only [noP, Bool.and_eq_true] at hp
    have hl0 := Own_len h0
    have hl1 := Own_len h1
    subst hcs
    cases hb : Nat.blt o (width a) with
    | true =>
      have hb' : o < width a := by simpa [Nat.blt_eq] using hb
      simp only [lp, hb, cond_true] at hu hm
      simp only [setLeaf, hb, cond_true] at hs
      split at hs
      · rename_i y e0
        injection hs with hs; subst hs
        refine ⟨splice c0 o [u], c1, ?_, iha hp.1 hb' (fun k r hk hn hl => ?_) h0 (fun s y hy hp => by rw [List.append_assoc]; exact hu s y hy hp) e0, Own_step hp.2 (fun k r hk hl => ?_) h1⟩
        · unfold splice
          rw [List.length_singleton, List.take_append_of_le_length (by omega), List.drop_append_of_le_length (by omega)]
          simp only [List.append_assoc]
        · rw [List.append_assoc] at hk ⊢
          exact hm k _ hk (fun q e => hn q (by simpa using e)) hl
        · rw [List.append_assoc] at hk ⊢
          exact hm k _ hk (fun q e => by simp at e) hl
      · cases hs
    | false =>
      have hb' : width a ≤ o := by
        rcases Nat.lt_or_ge o (width a) with h' | h'
        · have : Nat.blt o (width a) = true := by simpa [Nat.blt_eq] using h'
          rw [this] at hb; cases hb
        · exact h'
      simp only [lp, hb, cond_false] at hu hm
      simp only [setLeaf, hb, cond_false] at hs
      split at hs
      · rename_i y e0
        injection hs with hs; subst hs
        refine ⟨c0, splice c1 (o - width a) [u], ?_, Own_step hp.1 (fun k r hk hl => ?_) h0, ihb hp.2 (by simp only [width] at ho; omega) (fun k r hk hn hl => ?_) h1 (fun s y hy hp => by rw [List.append_assoc]; exact hu s y hy hp) e0⟩
        · unfold splice
          rw [List.length_singleton, List.take_append, List.drop_append, List.take_of_length_le (by omega), List.drop_of_length_le (show c0.length ≤ o + 1 by omega), hl0, List.nil_append, show o + 1 - width a = o - width a + 1 by omega]
          simp only [List.append_assoc]
        · rw [List.append_assoc] at hk ⊢
          exact hm k _ hk (fun q e => by simp at e) hl
        · rw [List.append_assoc] at hk ⊢
          exact hm k _ hk (fun q e => hn q (by simpa using e)) hl
      · cases hs
/-- A leaf of what is owned. -/
theorem Own_leaf {w : World} {χ : Nat → List Nat} : ∀ {t : Ty} {p : List Nat} {x : den t} {cs : List Value} {o e : Nat} {s : Ty} {ys : List (den s)} {u : Value}, Own w χ t p x cs → leafV t x o = .dat e s ys → cs[o]? = some u → Own w χ (.sl e s) (p ++ lp t o) ys [u] := by
  intro t
  induction t with
  | int k => intro p x cs o e s ys u _ h _; cases h
  | bool => intro p x cs o e s ys u _ h _; cases h
  | str => intro p x cs o e s ys u _ h _; cases h
  | unit => intro p x cs o e s ys u _ h _; cases h
  | ptr _ _ _ => intro p x cs o e s ys u _ h _; cases h
  | sl e' t' _ =>
    intro p x cs o e s ys u hown h hu
    have hl := Own_len hown
    injection h with h1 h2 h3
    subst h1 h2
    have h3 : x = ys := eq_of_heq h3
    subst h3
    cases cs with
    | nil => simp at hu
    | cons v r => cases r with
      | cons _ _ => simp [width] at hl
      | nil =>
        cases o with
        | succ _ => simp at hu
        | zero =>
          have hu : v = u := by simpa using hu
          subst hu
          show Own w χ _ (p ++ []) _ _
          rw [List.append_nil]; exact hown
  | pair a b iha ihb =>
    intro p x cs o e s ys u ⟨c0, c1, hcs, h0, h1⟩ h hu
    have hl0 := Own_len h0
    subst hcs
    have h : cond (Nat.blt o (width a)) (leafV a x.1 o) (leafV b x.2 (o - width a)) = .dat e s ys := h
    cases hb : Nat.blt o (width a) with
    | true =>
      have hb' : o < width a := by simpa [Nat.blt_eq] using hb
      rw [hb, cond_true] at h
      rw [List.getElem?_append_left (by omega)] at hu
      have := iha h0 h hu
      simp only [lp, hb, cond_true]
      rw [List.append_assoc] at this; exact this
    | false =>
      have hb' : ¬ o < width a := fun h' => by
        have : Nat.blt o (width a) = true := by simpa [Nat.blt_eq] using h'
        rw [this] at hb; cases hb
      rw [hb, cond_false] at h
      rw [List.getElem?_append_right (by omega), hl0] at hu
      have := ihb h1 h hu
      simp only [lp, hb, cond_false]
      rw [List.append_assoc] at this; exact this
end Go.Proofs.Ytoioaijpdiglfaa.V
