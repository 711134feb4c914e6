/- Regions whose order is drawn: in every order that the machine may take, the writes are those of the text's order. -/
import Derived.Test.YtoioaijpdiglfaaVWr
import Derived.Test.YtoioaijpdiglfaaVOp
import Derived.Orders
set_option linter.unusedVariables false
set_option linter.unusedSimpArgs false
namespace Go.Proofs.Ytoioaijpdiglfaa.V
open Go Go.RowKit
/-! ### writes, some of them -/
theorem upd1_self {f : Nat → Val} {l : Nat} {x : Val} (h : f l = x) : upd1 f l x = f := by
  funext j
  rw [upd1_eq]
  by_cases e : j = l
  · rw [if_pos e, e, h]
  · rw [if_neg e]
def touch (u : Wr) (l : Nat) : Prop := ∃ p ∈ u, p.1 = l
theorem upds_not : ∀ {u : Wr} {f : Nat → Val} {l : Nat}, ¬ touch u l → upds f u l = f l
  | [], f, l, _ => rfl
  | (m, x) :: u, f, l, h => by
    rw [show upds f ((m, x) :: u) = upds (upd1 f m x) u from rfl, upds_not (fun ⟨p, hp, e⟩ => h ⟨p, List.mem_cons_of_mem _ hp, e⟩), upd1_eq, if_neg]
    intro e; exact h ⟨(m, x), List.mem_cons_self, e.symm⟩
theorem upds_congr : ∀ {u : Wr} {f g : Nat → Val} {l : Nat}, f l = g l → upds f u l = upds g u l
  | [], f, g, l, h => h
  | (m, x) :: u, f, g, l, h => upds_congr (u := u) (by rw [upd1_eq, upd1_eq, h])
theorem upds_touch : ∀ {u : Wr} {f g : Nat → Val} {l : Nat}, touch u l → upds f u l = upds g u l
  | [], f, g, l, ⟨p, hp, _⟩ => absurd hp List.not_mem_nil
  | (m, x) :: u, f, g, l, ⟨p, hp, e⟩ => by
    show upds (upd1 f m x) u l = upds (upd1 g m x) u l
    by_cases hm : l = m
    · exact upds_congr (by rw [upd1_eq, upd1_eq, if_pos hm, if_pos hm])
    · rcases List.mem_cons.1 hp with e' | e'
      · exact absurd (by rw [← e, e']) hm
      · exact upds_touch ⟨p, e', e⟩
theorem upds_prop {Pr : Val → Prop} : ∀ {u : Wr} {f : Nat → Val} {l : Nat}, Pr (f l) → (∀ p ∈ u, p.1 = l → Pr p.2) → Pr (upds f u l)
  | [], f, l, h, _ => h
  | (m, x) :: u, f, l, h, hp => upds_prop (u := u) (f := upd1 f m x) (by
      rw [upd1_eq]
      by_cases e : l = m
      · rw [if_pos e]; exact hp (m, x) List.mem_cons_self e.symm
      · rw [if_neg e]; exact h) (fun p hp' e => hp p (List.mem_cons_of_mem _ hp') e)
def some' (us : List Wr) (b : Nat) (S : Nat → Bool) (f : Nat → Val) : Nat → Val := match us with
  | [] => f
  | u :: us => some' us (b + 1) S (cond (S b) (upds f u) f)
theorem some_agree : ∀ {us : List Wr} {b : Nat} {S S' : Nat → Bool} {f f' : Nat → Val} {l : Nat}, (∀ j u, us[j]? = some u → touch u l → S (b + j) = S' (b + j)) → f l = f' l → some' us b S f l = some' us b S' f' l
  | [], _, _, _, _, _, _, _, h => h
  | u :: us, b, S, S', f, f', l, hs, h => by
    refine some_agree (us := us) (fun j v hj ht => ?_) ?_
    · have := hs (j + 1) v (by simpa using hj) ht
      rw [show b + 1 + j = b + (j + 1) by omega]; exact this
    · by_cases ht : touch u l
      · have := hs 0 u rfl ht
        rw [Nat.add_zero] at this
        rw [this]
        cases S' b with
        | true => exact upds_congr h
        | false => exact h
      · have e1 : ∀ g : Nat → Val, ∀ c : Bool, (cond c (upds g u) g) l = g l := fun g c => by cases c <;> simp [upds_not ht]
        rw [e1, e1, h]
theorem some_skip {us : List Wr} {b : Nat} {S : Nat → Bool} {f : Nat → Val} {l : Nat} (h : ∀ j u, us[j]? = some u → S (b + j) = true → ¬ touch u l) : some' us b S f l = f l := by
  have : some' us b (fun _ => false) f = f := by
    clear h
    induction us generalizing b f with
    | nil => rfl
    | cons u us ih => exact ih
  rw [some_agree (S' := fun _ => false) (f' := f) (fun j u hj ht => ?_) rfl, this]
  cases e : S (b + j) with
  | false => rfl
  | true => exact absurd ht (h j u hj e)
theorem some_prop {Pr : Val → Prop} {l : Nat} : ∀ {us : List Wr} {b : Nat} {S : Nat → Bool} {f : Nat → Val}, Pr (f l) → (∀ j u, us[j]? = some u → S (b + j) = true → ∀ p ∈ u, p.1 = l → Pr p.2) → Pr (some' us b S f l)
  | [], _, _, _, h, _ => h
  | u :: us, b, S, f, h, hp => by
    refine some_prop (us := us) ?_ (fun j v hj hS p hp' e => hp (j + 1) v (by simpa using hj) (by rw [show b + (j + 1) = b + 1 + j by omega]; exact hS) p hp' e)
    cases e : S b with
    | false => exact h
    | true => exact upds_prop h (fun p hp' e' => hp 0 u rfl (by simpa using e) p hp' e')
/-- One more, in its place. -/
theorem some_insert {u : Wr} {l : Nat} : ∀ {us : List Wr} {b k : Nat} {S S' : Nat → Bool} {f : Nat → Val}, us[k]? = some u → S (b + k) = false → S' (b + k) = true → (∀ j, j ≠ b + k → S' j = S j) →
    (touch u l → ∀ j v, us[j]? = some v → k < j → S (b + j) = true → ¬ touch v l) → some' us b S' f l = upds (some' us b S f) u l
  | [], b, k, _, _, _, h, _, _, _, _ => by simp at h
  | v :: us, b, 0, S, S', f, h, h0, h1, hS, hl => by
    have h : v = u := by simpa using h
    subst h
    rw [Nat.add_zero] at h0 h1 hS
    show some' us (b + 1) S' (cond (S' b) (upds f v) f) l = upds (some' us (b + 1) S (cond (S b) (upds f v) f)) v l
    rw [h0, h1, cond_true, cond_false]
    have hS' : ∀ j, S' (b + 1 + j) = S (b + 1 + j) := fun j => hS _ (by omega)
    by_cases ht : touch v l
    · rw [upds_touch (g := f) ht]
      exact some_skip fun j w hj hsel => by
        rw [hS'] at hsel
        exact hl ht (j + 1) w (by simpa using hj) (by omega) (by rw [show b + (j + 1) = b + 1 + j by omega]; exact hsel)
    · rw [upds_not ht]
      exact some_agree (fun j w hj _ => hS' j) (upds_not ht)
  | v :: us, b, k + 1, S, S', f, h, h0, h1, hS, hl => by
    show some' us (b + 1) S' (cond (S' b) (upds f v) f) l = upds (some' us (b + 1) S (cond (S b) (upds f v) f)) u l
    rw [hS b (by omega)]
    have e : b + (k + 1) = b + 1 + k := by omega
    exact some_insert (us := us) (by simpa using h) (by rw [← e]; exact h0) (by rw [← e]; exact h1) (fun j hj => hS j (by omega)) (fun ht j w hj hk hs => hl ht (j + 1) w (by simpa using hj) (by omega) (by rw [show b + (j + 1) = b + 1 + j by omega]; exact hs))
section
variable {P : Program} {H : Hints} {R : Type} {r : R}
/-- What an operation told, in the state in which it was met. -/
def Tells (P : Program) (H : Hints) (call : CallR H) (ops : List Oper) (nx : Nat) (f : Nat → Val) (key : Nat) (o : Oper) (u : Wr) : Prop :=
  (o.guard = none ∧ opC P H call o ⟨f, nx⟩ (64 * key) some = some u) ∨
  (∃ j want d b, o.guard = some (j, want) ∧ (ops[j]?).bind (·.dst) = some d ∧ f (sl d) = .s (.one (.bool b)) ∧ ((b = want ∧ opC P H call o ⟨f, nx⟩ (64 * key) some = some u) ∨ (b ≠ want ∧ u = putV o.dst .no))) ∨
  ∃ j want d, o.guard = some (j, want) ∧ (ops[j]?).bind (·.dst) = some d ∧ f (sl d) = .s (.one .no) ∧ u = putV o.dst .no
def Trace (P : Program) (H : Hints) (call : CallR H) (ops : List Oper) (nx : Nat) : List Oper → Nat → (Nat → Val) → List Wr → List (List Nat × List Nat) → (Nat → Val) → Prop
  | [], _, f, us, lg, f' => us = [] ∧ lg = [] ∧ f' = f
  | o :: rest, key, f, us, lg, f' => ∃ u vs l, us = u :: vs ∧ lg = (names u, reads o ⟨f, nx⟩) :: l ∧ Tells P H call ops nx f key o u ∧ Trace P H call ops nx rest (key + 1) (upds f u) vs l f'
theorem names_undef (dst : Option Nat) : names (putV dst .no) = [] := by
  cases dst with
  | none => rfl
  | some d =>
    have : nameOf (sl d, .s (.one .no)) = none := by
      unfold nameOf
      have : Nat.beq (sl d % 3) 0 = true := by simp only [sl]; rw [Nat.mul_mod_right]; rfl
      rw [this]; rfl
    show List.filterMap nameOf [(sl d, .s (.one .no))] = []
    simp [List.filterMap_cons, this]
theorem opsD_trace (call : CallR H) (ops : List Oper) {K : List (List Nat × List Nat) → St → Option R} {nx : Nat} : ∀ (rest : List Oper) (key : Nat) {f : Nat → Val} {acc : List (List Nat × List Nat)}, opsD P H call ops rest key ⟨f, nx⟩ acc K = some r →
    ∃ us lg f', Trace P H call ops nx rest key f us lg f' ∧ K (acc ++ lg) ⟨f', nx⟩ = some r
  | [], key, f, acc, h => ⟨[], [], f, ⟨rfl, rfl, rfl⟩, by rw [List.append_nil]; exact h⟩
  | o :: rest, key, f, acc, h => by
    have go : ∀ {u : Wr}, Tells P H call ops nx f key o u → opsD P H call ops rest (key + 1) ⟨upds f u, nx⟩ (acc ++ [(names u, reads o ⟨f, nx⟩)]) K = some r → ∃ us lg f', Trace P H call ops nx (o :: rest) key f us lg f' ∧ K (acc ++ lg) ⟨f', nx⟩ = some r := fun ht h => by
      obtain ⟨us, lg, f', h1, h2⟩ := opsD_trace call ops rest (key + 1) h
      exact ⟨_ :: us, _ :: lg, f', ⟨_, us, lg, rfl, rfl, ht, h1⟩, by rw [List.append_assoc] at h2; exact h2⟩
    have run : ∀ {k : Wr → Option R}, opC P H call o ⟨f, nx⟩ (64 * key) k = some r → ∃ u, opC P H call o ⟨f, nx⟩ (64 * key) some = some u ∧ k u = some r := fun {k} hk => by
      rw [opC_bind] at hk
      cases e : opC P H call o ⟨f, nx⟩ (64 * key) some with
      | none => rw [e] at hk; cases hk
      | some u => rw [e] at hk; exact ⟨u, rfl, hk⟩
    simp only [opsD] at h
    cases hg : o.guard with
    | none =>
      rw [hg] at h
      obtain ⟨u, h1, h2⟩ := run h
      exact go (.inl ⟨hg, h1⟩) h2
    | some jw =>
      obtain ⟨j, want⟩ := jw
      rw [hg] at h
      simp only at h
      split at h
      · cases h
      · rename_i d hjd
        split at h
        · rename_i b hb
          split at h
          · rename_i hbt
            subst hbt
            have hself : upds f [(sl d, .s (.one (.bool true)))] = f := upd1_self hb
            simp only [St.wr, hself] at h
            cases want with
            | true =>
              obtain ⟨u, h1, h2⟩ := run h
              exact go (.inr (.inl ⟨j, true, d, true, hg, hjd, hb, .inl ⟨rfl, h1⟩⟩)) h2
            | false => exact go (.inr (.inl ⟨j, false, d, true, hg, hjd, hb, .inr ⟨by decide, rfl⟩⟩)) (by rw [names_undef]; exact h)
          · rename_i hbt
            have hbt : b = false := by cases b <;> simp_all
            subst hbt
            have hself : upds f [(sl d, .s (.one (.bool false)))] = f := upd1_self hb
            simp only [St.wr, hself] at h
            cases want with
            | false =>
              obtain ⟨u, h1, h2⟩ := run h
              exact go (.inr (.inl ⟨j, false, d, false, hg, hjd, hb, .inl ⟨rfl, h1⟩⟩)) h2
            | true => exact go (.inr (.inl ⟨j, true, d, false, hg, hjd, hb, .inr ⟨by decide, rfl⟩⟩)) (by rw [names_undef]; exact h)
        · rename_i hb
          exact go (.inr (.inr ⟨j, want, d, hg, hjd, hb, rfl⟩)) (by rw [names_undef]; exact h)
        · cases h
/-- The state behind the first k, and what the k-th told there. -/
theorem trace_at (call : CallR H) (ops : List Oper) {nx : Nat} : ∀ {rest : List Oper} {key : Nat} {f f' : Nat → Val} {us : List Wr} {lg : List (List Nat × List Nat)}, Trace P H call ops nx rest key f us lg f' →
    us.length = rest.length ∧ f' = some' us 0 (fun _ => true) f ∧ ∀ (k : Nat) (o : Oper), rest[k]? = some o → ∃ u, us[k]? = some u ∧ Tells P H call ops nx (some' us 0 (fun j => decide (j < k)) f) (key + k) o u ∧ lg[k]? = some (names u, reads o ⟨some' us 0 (fun j => decide (j < k)) f, nx⟩)
  | [], key, f, f', us, lg, ⟨h1, _, h2⟩ => by subst h1; exact ⟨rfl, h2, fun k o h => by simp at h⟩
  | o :: rest, key, f, f', us, lg, ⟨u, vs, l, e, e', ht, hr⟩ => by
    subst e
    subst e'
    obtain ⟨h1, h2, h3⟩ := trace_at call ops hr
    have shift : ∀ (us : List Wr) (b : Nat) (S : Nat → Bool) (f : Nat → Val), some' us (b + 1) S f = some' us b (fun j => S (j + 1)) f := fun us => by
      induction us with
      | nil => intro b S f; rfl
      | cons u us ih => intro b S f; exact ih (b + 1) S _
    refine ⟨by simp [h1], ?_, fun k o' hk => ?_⟩
    · rw [h2]
      show _ = some' vs 1 (fun _ => true) (cond true (upds f u) f)
      rw [shift vs 0]; rfl
    · cases k with
      | zero =>
        have hk : o = o' := by simpa using hk
        subst hk
        refine ⟨u, rfl, ?_⟩
        have : some' (u :: vs) 0 (fun j => decide (j < 0)) f = f := by
          funext l
          exact some_skip fun j v _ hs => by simp at hs
        rw [this]; exact ⟨ht, rfl⟩
      | succ k =>
        obtain ⟨v, hv, htl, hlg⟩ := h3 k o' (by simpa using hk)
        refine ⟨v, by simpa using hv, ?_⟩
        have : some' (u :: vs) 0 (fun j => decide (j < k + 1)) f = some' vs 0 (fun j => decide (j < k)) (upds f u) := by
          show some' vs 1 (fun j => decide (j < k + 1)) (cond (decide (0 < k + 1)) (upds f u) f) = _
          rw [shift vs 0, show decide (0 < k + 1) = true by simp, cond_true]
          congr 1
          funext j
          simp
        rw [this, show key + (k + 1) = key + 1 + k by omega]
        exact ⟨htl, by simpa using hlg⟩
end
/-! ### who comes before whom -/
theorem memN_iff {x : Nat} {l : List Nat} : memN x l = true ↔ x ∈ l := by
  unfold memN
  rw [List.any_eq_true]
  constructor
  · rintro ⟨y, hy, e⟩; rw [← Nat.eq_of_beq_eq_true e]; exact hy
  · intro h; exact ⟨x, h, by simp⟩
theorem mem_ddN {y : Nat} : ∀ {l acc : List Nat}, y ∈ ddN l acc ↔ y ∈ l ∨ y ∈ acc
  | [], acc => by simp [ddN]
  | x :: l, acc => by
    unfold ddN
    cases h : memN x acc with
    | true =>
      rw [cond_true, mem_ddN, List.mem_cons]
      constructor
      · rintro (h | h)
        · exact .inl (.inr h)
        · exact .inr h
      · rintro ((h' | h') | h')
        · subst h'; exact .inr (memN_iff.1 h)
        · exact .inl h'
        · exact .inr h'
    | false =>
      rw [cond_false, mem_ddN, List.mem_cons, List.mem_cons]
      constructor
      · rintro (h | h | h)
        · exact .inl (.inr h)
        · exact .inl (.inl h)
        · exact .inr h
      · rintro ((h | h) | h)
        · exact .inr (.inl h)
        · exact .inl h
        · exact .inr (.inr h)
theorem ancsGo_get : ∀ (r : List Oper) (acc : List (List Nat)), (∃ t, ancsGo r acc = acc ++ t ∧ t.length = r.length) ∧ ∀ (k : Nat) (o : Oper), r[k]? = some o → ∃ pre t, ancsGo r acc = pre ++ t ∧ pre.length = acc.length + k ∧ (ancsGo r acc)[acc.length + k]? = some (ddN (edges o ++ ((edges o).map fun e => pre.getD e []).flatten) [])
  | [], acc => ⟨⟨[], by simp [ancsGo], rfl⟩, fun k o h => by simp at h⟩
  | o :: r, acc => by
    obtain ⟨⟨t, h1, h2⟩, h3⟩ := ancsGo_get r (acc ++ [ddN (edges o ++ ((edges o).map fun e => acc.getD e []).flatten) []])
    have he : ancsGo (o :: r) acc = ancsGo r (acc ++ [ddN (edges o ++ ((edges o).map fun e => acc.getD e []).flatten) []]) := rfl
    refine ⟨⟨(ddN (edges o ++ ((edges o).map fun e => acc.getD e []).flatten) []) :: t, by rw [he, h1]; simp, by simp [h2]⟩, fun k o' hk => ?_⟩
    cases k with
    | zero =>
      have hk : o = o' := by simpa using hk
      subst hk
      refine ⟨acc, (ddN (edges o ++ ((edges o).map fun e => acc.getD e []).flatten) []) :: t, by rw [he, h1]; simp, rfl, ?_⟩
      rw [he, h1, Nat.add_zero, List.append_assoc, List.getElem?_append_right (Nat.le_refl _), Nat.sub_self]; rfl
    | succ k =>
      obtain ⟨pre, t', g1, g2, g3⟩ := h3 k o' (by simpa using hk)
      rw [List.length_append, List.length_singleton] at g2 g3
      exact ⟨pre, t', g1, by omega, by rw [he, show acc.length + (k + 1) = acc.length + 1 + k by omega]; exact g3⟩
/-- The check, told as it is used. -/
structure Order (L : List Oper) (an : Nat → List Nat) : Prop where
  lt : ∀ i p, p ∈ an i → p < i
  edge : ∀ (i : Nat) (o : Oper), L[i]? = some o → ∀ e ∈ edges o, e ∈ an i
  one : ∀ (i : Nat) (o : Oper), L[i]? = some o → ∀ p ∈ an i, p ∈ edges o ∨ ∃ e ∈ edges o, p ∈ an e
  trans : ∀ i j q, j ∈ an i → q ∈ an j → q ∈ an i
theorem order_of {L : List Oper} (hlt : ∀ i, i < L.length → ∀ p ∈ (ancs L).getD i [], p < i) : Order L (fun i => (ancs L).getD i []) := by
  obtain ⟨⟨t, h1, h2⟩, h3⟩ := ancsGo_get L []
  have hlen : (ancs L).length = L.length := by unfold ancs; rw [h1]; simp [h2]
  have out : ∀ i, L.length ≤ i → (ancs L).getD i [] = [] := fun i hi => by rw [List.getD_eq_getElem?_getD, List.getElem?_eq_none (by omega)]; rfl
  have lt : ∀ i p, p ∈ (ancs L).getD i [] → p < i := fun i p hp => by
    rcases Nat.lt_or_ge i L.length with h | h
    · exact hlt i h p hp
    · rw [out i h] at hp; cases hp
  have eqn : ∀ (i : Nat) (o : Oper), L[i]? = some o → ∀ p, p ∈ (ancs L).getD i [] ↔ p ∈ edges o ∨ ∃ e ∈ edges o, p ∈ (ancs L).getD e [] := fun i o ho => by
    obtain ⟨pre, t', g1, g2, g3⟩ := h3 i o ho
    rw [List.length_nil, Nat.zero_add] at g2 g3
    have g3 : (ancs L)[i]? = _ := g3
    have e1 : (ancs L).getD i [] = ddN (edges o ++ ((edges o).map fun e => pre.getD e []).flatten) [] := by rw [List.getD_eq_getElem?_getD, g3]; rfl
    have hed : ∀ e ∈ edges o, e < i := fun e he => lt i e (by rw [e1, mem_ddN]; exact .inl (List.mem_append_left _ he))
    have hpre : ∀ e ∈ edges o, pre.getD e [] = (ancs L).getD e [] := fun e he => by
      have : (ancs L) = pre ++ t' := g1
      rw [this, List.getD_eq_getElem?_getD, List.getD_eq_getElem?_getD, List.getElem?_append_left (by have := hed e he; omega)]
    intro p
    rw [e1, mem_ddN, List.mem_append, List.mem_flatten]
    constructor
    · rintro ((h | ⟨l, hl, hp⟩) | h)
      · exact .inl h
      · obtain ⟨e, he, rfl⟩ := List.mem_map.1 hl
        exact .inr ⟨e, he, by rw [← hpre e he]; exact hp⟩
      · cases h
    · rintro (h | ⟨e, he, hp⟩)
      · exact .inl (.inl h)
      · exact .inl (.inr ⟨_, List.mem_map.2 ⟨e, he, rfl⟩, by rw [hpre e he]; exact hp⟩)
  have trans : ∀ i j q, j ∈ (ancs L).getD i [] → q ∈ (ancs L).getD j [] → q ∈ (ancs L).getD i [] := by
    intro i
    induction i using Nat.strongRecOn with
    | _ i ih =>
      intro j q hj hq
      rcases Nat.lt_or_ge i L.length with h | h
      · have ho := List.getElem?_eq_getElem h
        have e := eqn i _ ho
        rw [e] at hj ⊢
        rcases hj with hj | ⟨e', he', hjl⟩
        · exact .inr ⟨j, hj, hq⟩
        · have : e' < i := lt i e' ((e e').2 (.inl he'))
          exact .inr ⟨e', he', ih e' this j q hjl hq⟩
      · rw [out i h] at hj; cases hj
  refine ⟨lt, fun i o ho e he => (eqn i o ho e).2 (.inl he), fun i o ho p hp => (eqn i o ho p).1 hp, trans⟩
theorem downTo_iff {n : Nat} {p : Nat → Bool} : downTo n p = true ↔ ∀ i, i < n → p i = true := by
  unfold downTo
  rw [List.all_eq_true]
  exact ⟨fun h i hi => h i (List.mem_range.2 hi), fun h i hi => h i (List.mem_range.1 hi)⟩
def wrOf (lg : List (List Nat × List Nat)) (i : Nat) : List Nat := (lg.getD i ([], [])).1
def rdOf (lg : List (List Nat × List Nat)) (i : Nat) : List Nat := (lg.getD i ([], [])).2
structure DrawOk (L : List Oper) (lg : List (List Nat × List Nat)) (an : Nat → List Nat) : Prop where
  ord : Order L an
  slots : ∀ (i j : Nat) (x y : Oper), i < j → L[i]? = some x → L[j]? = some y → slotConf L x y = true → i ∈ an j
  nms : ∀ i m j, i < L.length → m ∈ wrOf lg i → j < L.length → i ≠ j → (m ∈ rdOf lg j ∨ m ∈ wrOf lg j) → i ∈ an j ∨ j ∈ an i
theorem drawOk_spec {L : List Oper} {lg : List (List Nat × List Nat)} (h : drawOk L lg = true) : DrawOk L lg (fun i => (ancs L).getD i []) := by
  unfold drawOk at h
  simp only [Bool.and_eq_true] at h
  obtain ⟨h1, h2⟩ := h
  have h1 := downTo_iff.1 h1
  have h2 := downTo_iff.1 h2
  have hlt : ∀ i, i < L.length → ∀ p ∈ (ancs L).getD i [], p < i := fun i hi p hp => by
    have := h1 i hi
    rw [List.getElem?_eq_getElem hi] at this
    simp only [Bool.and_eq_true] at this
    have := List.all_eq_true.1 this.1 p hp
    simpa [Nat.blt_eq] using this
  refine ⟨order_of hlt, fun i j x y hij hx hy hc => ?_, fun i m j hi hm hj hne hme => ?_⟩
  · have hjl := (List.getElem?_eq_some_iff.1 hy).1
    have := h1 j hjl
    rw [hy] at this
    simp only [Bool.and_eq_true] at this
    have := downTo_iff.1 this.2 i hij
    rw [hx] at this
    simp only [hc, cond_true] at this
    exact memN_iff.1 this
  · have := List.all_eq_true.1 (h2 i hi) m hm
    have := downTo_iff.1 this j hj
    have hb : Nat.beq i j = false := by
      cases e : Nat.beq i j with
      | false => rfl
      | true => exact absurd (Nat.eq_of_beq_eq_true e) hne
    have hmt : (memN m (lg.getD j ([], [])).2 || memN m (lg.getD j ([], [])).1) = true := by
      rcases hme with h | h
      · have : memN m (lg.getD j ([], [])).2 = true := memN_iff.2 h
        rw [this]; rfl
      · have : memN m (lg.getD j ([], [])).1 = true := memN_iff.2 h
        rw [this, Bool.or_true]
    rw [hb, hmt] at this
    simp only [Bool.false_or, cond_true, Bool.or_eq_true] at this
    exact this.imp memN_iff.1 memN_iff.1
theorem names_b : ∀ (v : V), vB (fun m => m ∈ namesV v) v := fun v => by cases v <;> first | trivial | exact List.mem_cons_self
theorem namesS_b : ∀ (x : S), sB (fun m => m ∈ namesS x) x := fun x => by
  cases x with
  | one v => exact names_b v
  | agg vs => exact fun v hv => vB_mono (fun m hm => List.mem_flatten.2 ⟨_, List.mem_map.2 ⟨v, hv, rfl⟩, hm⟩) (names_b v)
  | arr t xs => trivial
  | tup cs => exact fun p hp v hv => vB_mono (fun m hm => List.mem_flatten.2 ⟨_, List.mem_map.2 ⟨p, hp, rfl⟩, List.mem_flatten.2 ⟨_, List.mem_map.2 ⟨v, hv, rfl⟩, hm⟩⟩) (names_b v)
theorem reads_b {o : Oper} {st : St} (hm : isMove o.op = false) : ∀ x ∈ o.op.operands, sB (fun m => m ∈ reads o st) (evS st x) := fun x hx => by
  refine sB_mono (fun m hmm => ?_) (namesS_b _)
  show m ∈ reads o st
  unfold reads
  rw [hm, cond_false]
  exact List.mem_flatten.2 ⟨_, List.mem_map.2 ⟨x, by simpa using hx, rfl⟩, hmm⟩
/-- What an operation does that only hands a value, or a part of it, on. -/
theorem move_put {R : Type} {P : Program} {H : Hints} (call : CallR H) {o : Oper} (hm : isMove o.op = true) :
    ∃ (x : Operand) (F : S → Option S), x ∈ o.op.operands ∧ (∀ (st : St) (key : Nat) (k : Wr → Option R), opC P H call o st key k = (F (evS st x)).bind fun y => k (putS o.dst y)) ∧ ∀ (A : Nat → Prop) (s y : S), sB A s → F s = some y → sB A y := by
  cases o with
  | mk dst op t p a g =>
    cases op <;> first | (cases hm; done) | skip
    · exact ⟨_, some, by simp [Op.operands], fun _ _ _ => rfl, fun A s y h e => by injection e with e; rw [← e]; exact h⟩
    · exact ⟨_, some, by simp [Op.operands], fun _ _ _ => rfl, fun A s y h e => by injection e with e; rw [← e]; exact h⟩
    · rename_i x i
      refine ⟨x, fun s => match s with
        | .tup cs => match cs[i]? with
          | some (ag, vs) => some (mkS ag vs)
          | none => none
        | _ => none, by simp [Op.operands], fun st key k => ?_, fun A s y h e => ?_⟩
      · show (match evS st x with
          | .tup cs => match cs[i]? with
            | some (ag, vs) => k (putS dst (mkS ag vs))
            | none => none
          | _ => none) = _
        cases evS st x with
        | tup cs =>
          dsimp only
          cases cs[i]? with
          | none => rfl
          | some q => rfl
        | _ => rfl
      · cases s with
        | tup cs =>
          dsimp only at e
          cases ei : cs[i]? with
          | none => rw [ei] at e; cases e
          | some q =>
            rw [ei] at e
            injection e with e
            rw [← e]
            exact mkS_b fun v hv => h _ (List.mem_of_getElem? ei) v hv
        | _ => cases e
theorem conf_of {L : List Oper} {x y : Oper} {d : Nat} (h : (x.dst = some d ∧ (d ∈ looks L y ∨ y.dst = some d)) ∨ (y.dst = some d ∧ d ∈ looks L x)) : slotConf L x y = true := by
  unfold slotConf
  rcases h with ⟨h1, h2 | h2⟩ | ⟨h1, h2⟩
  · rw [h1]; simp only [memN_iff.2 h2, Bool.true_or]
  · rw [h1, h2]
    have : Nat.beq d d = true := by simp
    simp [this]
  · rw [h1]; simp only [memN_iff.2 h2, Bool.or_true]
theorem looks_op {L : List Oper} {o : Oper} {t : Nat} (h : Operand.tmp t ∈ o.op.operands) : t ∈ looks L o := by
  unfold looks
  refine List.mem_append_left _ (List.mem_filterMap.2 ⟨.tmp t, by simpa using h, rfl⟩)
theorem looks_guard {L : List Oper} {o : Oper} {j : Nat} {b : Bool} {d : Nat} (hg : o.guard = some (j, b)) (hd : (L[j]?).bind (·.dst) = some d) : d ∈ looks L o := by
  unfold looks
  refine List.mem_append_right _ ?_
  rw [hg]
  simp [hd]
theorem names_of {u : Wr} {m : Nat} (h : touch u (bl m) ∨ touch u (rl m)) : m ∈ names u := by
  unfold names
  rcases h with ⟨p, hp, e⟩ | ⟨p, hp, e⟩
  · refine List.mem_filterMap.2 ⟨p, hp, ?_⟩
    unfold nameOf
    have h1 : Nat.beq (p.1 % 3) 0 = false := by
      have : p.1 % 3 = 1 := by rw [e]; simp only [bl]; omega
      rw [this]; rfl
    rw [h1, cond_false, e]
    congr 1; simp only [bl]; omega
  · refine List.mem_filterMap.2 ⟨p, hp, ?_⟩
    unfold nameOf
    have h1 : Nat.beq (p.1 % 3) 0 = false := by
      have : p.1 % 3 = 2 := by rw [e]; simp only [rl]; omega
      rw [this]; rfl
    rw [h1, cond_false, e]
    congr 1; simp only [rl]; omega
theorem wr_slot {A : Nat → Prop} {key : Nat} {dst : Option Nat} {u : Wr} {t : Nat} (h : WrOk A key dst u) (ht : touch u (sl t)) : dst = some t := by
  obtain ⟨p, hp, e⟩ := ht
  rcases h p hp with ⟨d, h1, h2, _⟩ | ⟨n, _, h2, _⟩
  · rw [e] at h2
    have : d = t := by simp only [sl] at h2; omega
    rw [h1, this]
  · rw [e] at h2
    rcases h2 with h2 | h2 <;> · simp only [sl, bl, rl] at h2; omega
theorem wr_name {A : Nat → Prop} {key : Nat} {dst : Option Nat} {u : Wr} {m : Nat} (h : WrOk A key dst u) (ht : touch u (bl m) ∨ touch u (rl m)) : Un A key m := by
  have : ∃ p ∈ u, p.1 = bl m ∨ p.1 = rl m := ht.elim (fun ⟨p, hp, e⟩ => ⟨p, hp, .inl e⟩) (fun ⟨p, hp, e⟩ => ⟨p, hp, .inr e⟩)
  obtain ⟨p, hp, e⟩ := this
  rcases h p hp with ⟨d, h1, h2, _⟩ | ⟨n, hn, h2, _⟩
  · rw [h2] at e
    rcases e with e | e <;> · simp only [sl, bl, rl] at e; omega
  · have : n = m := by
      rcases h2 with h2 | h2 <;> rw [h2] at e <;> rcases e with e | e <;> simp only [bl, rl] at e <;> omega
    rw [← this]; exact hn
theorem wr_val {A : Nat → Prop} {key : Nat} {dst : Option Nat} {u : Wr} (h : WrOk A key dst u) : ∀ p ∈ u, xB (Un A key) p.2 := fun p hp => (h p hp).elim (fun ⟨_, _, _, h⟩ => h) (fun ⟨_, _, _, h⟩ => h)
/-- The names of the first n keys. -/
def Bel (n : Nat) : Nat → Prop := fun i => i < 64 * n
theorem bel_fr (key : Nat) : Fr (Bel key) key := fun n h h' => by have h : n < 64 * key := h; have := h'.1; omega
theorem bel_un (key : Nat) : Le (Un (Bel key) key) (Bel (key + 1)) := fun n h => by
  show n < 64 * (key + 1)
  rcases h with h | h
  · have h : n < 64 * key := h; omega
  · have := h.2; omega
theorem bel_le {a b : Nat} (h : a ≤ b) : Le (Bel a) (Bel b) := fun n hn => by show n < 64 * b; have hn : n < 64 * a := hn; omega
section
variable {P : Program} {H : Hints} {N : Nat} {w0 : World} {keep : Kp}
/-- The names that the i-th operation may meet. -/
def Vis (nx : Nat) (an : Nat → List Nat) (i : Nat) : Nat → Prop := fun m => m < 64 * nx ∨ ∃ p ∈ an i, Kn (nx + p) m
theorem vis_of {L : List Oper} {an : Nat → List Nat} (ho : Order L an) {nx i j : Nat} (h : j ∈ an i) : Le (Un (Vis nx an j) (nx + j)) (Vis nx an i) := fun m hm => by
  rcases hm with (hm | ⟨p, hp, hm⟩) | hm
  · exact .inl hm
  · exact .inr ⟨p, ho.trans i j p h hp, hm⟩
  · exact .inr ⟨j, h, hm⟩
def upTo (us : List Wr) (k : Nat) (f : Nat → Val) : Nat → Val := some' us 0 (fun j => decide (j < k)) f
theorem draw_wr (call : CallR H) {L : List Oper} {nx : Nat} {us : List Wr} {f : Nat → Val} {an : Nat → List Nat} {lg : List (List Nat × List Nat)} (hlen : us.length = L.length) (hok : DrawOk L lg an) (hf : ∀ l, xB (Bel nx) (f l))
    (ht : ∀ (k : Nat) (o : Oper), L[k]? = some o → ∃ u, us[k]? = some u ∧ Tells P H call L nx (upTo us k f) (nx + k) o u ∧ lg[k]? = some (names u, reads o ⟨upTo us k f, nx⟩)) :
    ∀ (i : Nat) (o : Oper) (u : Wr), L[i]? = some o → us[i]? = some u → WrOk (Vis nx an i) (nx + i) o.dst u ∧ (∀ t ∈ looks L o, xB (Vis nx an i) (upTo us i f (sl t))) ∧ Shut (fun m => m ∈ reads o ⟨upTo us i f, nx⟩) (Vis nx an i) (upTo us i f) := by
  intro i
  induction i using Nat.strongRecOn with
  | _ i ih =>
    intro o u ho hu
    have hil := (List.getElem?_eq_some_iff.1 ho).1
    have hsel : ∀ j : Nat, decide (0 + j < i) = true → j < i := fun j h => by simpa using h
    have old : Le (Bel nx) (Vis nx an i) := fun m hm => .inl hm
    have prev : ∀ (j : Nat) (v : Wr), us[j]? = some v → j < i → ∃ oj, L[j]? = some oj ∧ WrOk (Vis nx an j) (nx + j) oj.dst v := fun j v hv hj => by
      have hjl : j < L.length := by omega
      exact ⟨_, List.getElem?_eq_getElem hjl, (ih j hj _ v (List.getElem?_eq_getElem hjl) hv).1⟩
    have hslots : ∀ t ∈ looks L o, xB (Vis nx an i) (upTo us i f (sl t)) := fun t htl => by
      refine some_prop (Pr := fun x => xB (Vis nx an i) x) (xB_mono old (hf _)) fun j v hv hs p hp e => ?_
      have hji := hsel j hs
      obtain ⟨oj, hoj, hw⟩ := prev j v hv hji
      have hd := wr_slot hw ⟨p, hp, e⟩
      have := hok.slots j i oj o hji hoj ho (conf_of (.inl ⟨hd, .inl htl⟩))
      exact xB_mono (vis_of hok.ord this) (wr_val hw p hp)
    obtain ⟨u', hu', htl, hlgi⟩ := ht i o ho
    rw [hu] at hu'
    injection hu' with hu'; subst hu'
    have hshut : Shut (fun m => m ∈ reads o ⟨upTo us i f, nx⟩) (Vis nx an i) (upTo us i f) := fun m hm => by
      refine some_prop (Pr := fun x => xB (Vis nx an i) x) (xB_mono old (hf _)) fun j v hv hs p hp e => ?_
      have hji := hsel j hs
      obtain ⟨oj, hoj, hw⟩ := prev j v hv hji
      have hn : m ∈ names v := names_of (.inl ⟨p, hp, e⟩)
      obtain ⟨v', hv', _, hlgj⟩ := ht j oj hoj
      rw [hv] at hv'
      injection hv' with hv'; subst hv'
      have hc := hok.nms j m i (by omega) (by unfold wrOf; rw [List.getD_eq_getElem?_getD, hlgj]; exact hn) hil (by omega) (.inl (by unfold rdOf; rw [List.getD_eq_getElem?_getD, hlgi]; exact hm))
      have : j ∈ an i := hc.elim id fun h => by have := hok.ord.lt j i h; omega
      exact xB_mono (vis_of hok.ord this) (wr_val hw p hp)
    refine ⟨?_, hslots, hshut⟩
    have hA : ∀ x ∈ o.op.operands, sB (Vis nx an i) (evS ⟨upTo us i f, nx⟩ x) := fun x hx => by
      cases x with
      | tmp t =>
        have := hslots t (looks_op hx)
        simp only [evS]
        cases e : upTo us i f (sl t) with
        | s x => rw [e] at this; exact this
        | _ => trivial
      | const v => exact constS_b _ v
      | global g => trivial
      | func g => trivial
    have wr : opC P H call o ⟨upTo us i f, nx⟩ (64 * (nx + i)) some = some u → WrOk (Vis nx an i) (nx + i) o.dst u := fun h => by
      cases hmv : isMove o.op with
      | false => exact opC_wr call o hshut nx (reads_b hmv) hA h
      | true =>
        obtain ⟨x, F, hx, hput, hF⟩ := move_put (R := Wr) (P := P) call hmv
        rw [hput] at h
        cases e : F (evS ⟨upTo us i f, nx⟩ x) with
        | none => rw [e] at h; cases h
        | some y =>
          rw [e] at h
          injection h with h
          rw [← h]
          exact put_wr (sB_mono (fun m hm => .inl hm) (hF _ _ _ (hA x hx) e))
    rcases htl with ⟨_, h⟩ | ⟨j, want, d, b, _, _, _, ⟨_, h⟩ | ⟨_, h⟩⟩ | ⟨j, want, d, _, _, _, h⟩
    · exact wr h
    · exact wr h
    · rw [h]; exact put_wr (x := .one .no) trivial
    · rw [h]; exact put_wr (x := .one .no) trivial
/-- The names in use when certain operations are done. -/
def Used (nx n : Nat) (S : Nat → Bool) : Nat → Prop := fun m => m < 64 * nx ∨ ∃ i, i < n ∧ S i = true ∧ Kn (nx + i) m
theorem yielded_of {ops : Array Oper} {j d : Nat} {b : Bool} {a : Act} (hd : (ops.toList[j]?).bind (·.dst) = some d) (hb : a.tmps.getD d undef = .bool b) : yielded ops a.tmps j = some b := by
  have hlt : d < a.tmps.size := by
    rcases Nat.lt_or_ge d a.tmps.size with h | h
    · exact h
    · rw [Array.getD_eq_getD_getElem?, Array.getElem?_eq_none h] at hb; cases hb
  unfold yielded
  have hd' : (ops[j]?).bind (·.dst) = some d := by rw [← hd]; simp
  rw [hd', Option.bind_some, Array.getElem?_eq_getElem hlt]
  have : a.tmps[d] = .bool b := by rw [← hb]; simp [Array.getD, hlt]
  rw [this]
def DstOk (N : Nat) (keep : Kp) (ops : List Oper) : Prop := ∀ o ∈ ops, DstP N keep o.dst
theorem yielded_no {ops : Array Oper} {j d : Nat} {a : Act} (hd : (ops.toList[j]?).bind (·.dst) = some d) (hb : a.tmps.getD d undef = undef) : yielded ops a.tmps j = none := by
  unfold yielded
  have hd' : (ops[j]?).bind (·.dst) = some d := by rw [← hd]; simp
  rw [hd', Option.bind_some]
  cases e : a.tmps[d]? with
  | none => rfl
  | some v =>
    rw [Array.getD_eq_getD_getElem?, e] at hb
    have hb : v = undef := hb
    rw [hb]; rfl
theorem filter_less {p q : Nat → Bool} {i : Nat} : ∀ {l : List Nat}, (∀ j, q j = true → p j = true) → i ∈ l → p i = true → q i = false → (l.filter q).length < (l.filter p).length
  | x :: l, h, hi, hp, hq => by
    have le : ∀ l : List Nat, (l.filter q).length ≤ (l.filter p).length := fun l => by
      induction l with
      | nil => exact Nat.le_refl _
      | cons y l ih =>
        cases e : q y with
        | true => rw [List.filter_cons_of_pos e, List.filter_cons_of_pos (h y e)]; simpa using ih
        | false =>
          rw [List.filter_cons_of_neg (by simp [e])]
          cases e' : p y with
          | true => rw [List.filter_cons_of_pos e']; simp only [List.length_cons]; omega
          | false => rw [List.filter_cons_of_neg (by simp [e'])]; exact ih
    rcases List.mem_cons.1 hi with e | e
    · subst e
      rw [List.filter_cons_of_neg (by simp [hq]), List.filter_cons_of_pos hp]
      have := le l
      simp only [List.length_cons]; omega
    · have := filter_less h e hp hq
      cases e' : q x with
      | true => rw [List.filter_cons_of_pos e', List.filter_cons_of_pos (h x e')]; simpa using this
      | false =>
        rw [List.filter_cons_of_neg (by simp [e'])]
        cases e2 : p x with
        | true => rw [List.filter_cons_of_pos e2]; simp only [List.length_cons]; omega
        | false => rw [List.filter_cons_of_neg (by simp [e2])]; exact this
  | [], _, hi, _, _ => absurd hi List.not_mem_nil
theorem any_ok (call : CallR H) (hn : NiceG P H w0 keep) (hcall : ∀ fn x y, call fn x = some y → Meets P H fn x y) {ops : Array Oper} {Q : Exit → Act → World → Prop} {nx : Nat} {us : List Wr} {f : Nat → Val} {an : Nat → List Nat} {lg : List (List Nat × List Nat)} (hdst : DstOk N keep ops.toList) (hlen : us.length = ops.toList.length) (hok : DrawOk ops.toList lg an) (hf : ∀ l, xB (Bel nx) (f l))
    (ht : ∀ (k : Nat) (o : Oper), ops.toList[k]? = some o → ∃ u, us[k]? = some u ∧ Tells P H call ops.toList nx (upTo us k f) (nx + k) o u ∧ lg[k]? = some (names u, reads o ⟨upTo us k f, nx⟩))
    (hq : ∀ c a w, Rel (Bel (nx + ops.size)) N w0 keep (some' us 0 (fun _ => true) f) c a w → Q .normal a w) :
    ∀ (fuel : Nat) (listed : Array Bool) {c : Ctx} {a : Act} {w : World}, listed.size = ops.size → (∀ i p, listed.getD i false = true → p ∈ an i → listed.getD p false = true) → ((List.range ops.size).filter fun i => !listed.getD i false).length ≤ fuel →
      Rel (Used nx ops.size fun i => listed.getD i false) N w0 keep (some' us 0 (fun i => listed.getD i false) f) c a w → wpAny P .any ops Q fuel listed a w := by
  intro fuel
  have hol : ∀ {i : Nat} {o : Oper}, ops[i]? = some o → ops.toList[i]? = some o := fun h => by simpa using h
  have edge_iff : ∀ {o : Oper} {e : Edge}, e ∈ o.after → Region.binds .any e = true → e.on ∈ edges o := fun {o e} he hb => by
    unfold edges
    exact List.mem_filterMap.2 ⟨e, by simpa using he, by rw [hb]; rfl⟩
  have finish : ∀ {listed : Array Bool} {c : Ctx} {a : Act} {w : World}, (∀ i, i < ops.size → listed.getD i false = true) → Rel (Used nx ops.size fun i => listed.getD i false) N w0 keep (some' us 0 (fun i => listed.getD i false) f) c a w → Q .normal a w := fun {listed c a w} hall h => by
    have he : some' us 0 (fun i => listed.getD i false) f = some' us 0 (fun _ => true) f := by
      funext l
      refine some_agree (fun j v hj _ => ?_) rfl
      have : j < us.length := (List.getElem?_eq_some_iff.1 hj).1
      rw [Nat.zero_add]
      exact hall j (by rw [hlen, Array.length_toList] at this; exact this)
    rw [he] at h
    refine hq c a w (h.mono fun m hm => ?_)
    show m < 64 * (nx + ops.size)
    rcases hm with hm | ⟨i, hi, _, hk⟩
    · omega
    · have := hk.2; omega
  induction fuel with
  | zero =>
    intro listed c a w hsz hcl hcnt h
    have hall : ∀ i, i < ops.size → listed.getD i false = true := fun i hi => by
      cases e : listed.getD i false with
      | true => rfl
      | false =>
        have : i ∈ (List.range ops.size).filter fun i => !listed.getD i false := List.mem_filter.2 ⟨List.mem_range.2 hi, by rw [e]; rfl⟩
        have := List.length_pos_of_mem this
        omega
    refine ⟨?_, finish hall h⟩
    cases e : Region.ready .any ops listed with
    | nil => rfl
    | cons j r =>
      have hj : j ∈ Region.ready .any ops listed := by rw [e]; exact List.mem_cons_self
      obtain ⟨h0, o, ho, _⟩ := mem_ready.1 hj
      have hjl : j < ops.size := (Array.getElem?_eq_some_iff.1 ho).1
      have := hall j hjl
      simp [Array.getD, hsz, hjl] at h0 this
      rw [this] at h0; cases h0
  | succ fuel ih =>
    intro listed c a w hsz hcl hcnt h
    refine ⟨fun hnil => finish (fun i => ?_) h, fun i hi => ?_⟩
    · induction i using Nat.strongRecOn with
      | _ i ihi =>
        intro hil
        cases e : listed.getD i false with
        | true => rfl
        | false =>
          have hm : i ∈ Region.ready .any ops listed := by
            refine mem_ready.2 ⟨by simp [Array.getD, hsz, hil] at e ⊢; exact e, ops[i], Array.getElem?_eq_getElem hil, fun e' he' hb => ?_⟩
            have h1 := hok.ord.edge i ops[i] (by simp [hil]) e'.on (edge_iff he' hb)
            have h2 := hok.ord.lt i _ h1
            exact ihi e'.on h2 (by omega)
          rw [hnil] at hm; cases hm
    · obtain ⟨h0, o, ho, hedge⟩ := mem_ready.1 hi
      have hil : i < ops.size := (Array.getElem?_eq_some_iff.1 ho).1
      have hSi : listed.getD i false = false := by simp [Array.getD, hsz, hil] at h0 ⊢; exact h0
      have hoL := hol ho
      have hanS : ∀ p ∈ an i, listed.getD p false = true := fun p hp => by
        have hedges : ∀ e ∈ edges o, listed.getD e false = true := fun e he => by
          unfold edges at he
          obtain ⟨e', he', hh⟩ := List.mem_filterMap.1 he
          cases hb : Region.binds .any e' with
          | false => rw [hb] at hh; cases hh
          | true =>
            rw [hb, cond_true] at hh
            injection hh with hh
            rw [← hh]; exact hedge e' (by simpa using he') hb
        rcases hok.ord.one i o hoL p hp with h | ⟨e, he, h⟩
        · exact hedges p h
        · exact hcl e p (hedges e he) h
      obtain ⟨u, hu, htl, hlgi⟩ := ht i o hoL
      have dw := draw_wr call hlen hok hf ht
      obtain ⟨hwr, hslots, hshut⟩ := dw i o u hoL hu
      have hjn : ∀ {j : Nat} {v : Wr}, us[j]? = some v → ∃ oj, ops.toList[j]? = some oj := fun {j v} hv => ⟨_, List.getElem?_eq_getElem (by rw [← hlen]; exact (List.getElem?_eq_some_iff.1 hv).1)⟩
      have hcon : ∀ {j : Nat}, i ∈ an j → listed.getD j false = false := fun {j} hj => by
        cases e : listed.getD j false with
        | false => rfl
        | true => rw [hcl j i e hj] at hSi; cases hSi
      have agr : ∀ l, (∀ j v, j ≠ i → us[j]? = some v → touch v l → j ∈ an i ∨ i ∈ an j) → some' us 0 (fun i => listed.getD i false) f l = upTo us i f l := fun l hl => by
        refine some_agree (fun j v hj htc => ?_) rfl
        rw [Nat.zero_add]
        by_cases e : j = i
        · subst e; rw [hSi]; simp
        · rcases hl j v e hj htc with h | h
          · rw [hanS j h]; have := hok.ord.lt i j h; simp [this]
          · rw [hcon h]; have := hok.ord.lt j i h; simp; omega
      have agrS : ∀ t ∈ looks ops.toList o, some' us 0 (fun i => listed.getD i false) f (sl t) = upTo us i f (sl t) := fun t htk => agr _ fun j v hne hv htc => by
        obtain ⟨oj, hoj⟩ := hjn hv
        have hd := wr_slot (dw j oj v hoj hv).1 htc
        rcases Nat.lt_or_gt_of_ne hne with hlt | hgt
        · exact .inl (hok.slots j i oj o hlt hoj hoL (conf_of (.inl ⟨hd, .inl htk⟩)))
        · exact .inr (hok.slots i j o oj hgt hoL hoj (conf_of (.inr ⟨hd, htk⟩)))
      have lgw : ∀ {j : Nat} {v : Wr} {oj : Oper}, us[j]? = some v → ops.toList[j]? = some oj → ∀ m ∈ names v, m ∈ wrOf lg j := fun {j v oj} hv hoj m hm => by
        obtain ⟨v', hv', _, hlgj⟩ := ht j oj hoj
        rw [hv] at hv'
        injection hv' with hv'; subst hv'
        unfold wrOf; rw [List.getD_eq_getElem?_getD, hlgj]; exact hm
      have agrN : Same (fun m => m ∈ reads o ⟨upTo us i f, nx⟩) (upTo us i f) (some' us 0 (fun i => listed.getD i false) f) := fun m hm => by
        have go : ∀ l, (l = bl m ∨ l = rl m) → some' us 0 (fun i => listed.getD i false) f l = upTo us i f l := fun l hl => agr l fun j v hne hv htc => by
          have hn' : m ∈ names v := names_of (hl.elim (fun e => .inl (e ▸ htc)) (fun e => .inr (e ▸ htc)))
          have hjl : j < ops.toList.length := by rw [← hlen]; exact (List.getElem?_eq_some_iff.1 hv).1
          exact hok.nms j m i hjl (lgw hv (List.getElem?_eq_getElem hjl) m hn') (by simpa using hil) hne (.inl (by unfold rdOf; rw [List.getD_eq_getElem?_getD, hlgi]; exact hm))
        exact ⟨(go _ (.inl rfl)).symm, (go _ (.inr rfl)).symm⟩
      have hev : ∀ x ∈ o.op.operands, evS ⟨upTo us i f, nx⟩ x = evS ⟨some' us 0 (fun i => listed.getD i false) f, nx⟩ x := fun x hx => by
        cases x with
        | tmp t => simp only [evS, agrS t (looks_op hx)]
        | _ => rfl
      have hsame : opC P H call o ⟨upTo us i f, nx⟩ (64 * (nx + i)) some = opC P H call o ⟨some' us 0 (fun i => listed.getD i false) f, nx⟩ (64 * (nx + i)) some := by
        cases hmv : isMove o.op with
        | false => exact opC_same call o agrN nx nx (64 * (nx + i)) hev (reads_b hmv) some
        | true =>
          obtain ⟨x, F, hx, hput, _⟩ := move_put (R := Wr) (P := P) call hmv
          rw [hput, hput, hev x hx]
      have hdo : DstP N keep o.dst := hdst o (List.mem_of_getElem? hoL)
      -- what comes next
      let listed' := listed.setIfInBounds i true
      have hS' : ∀ j, listed'.getD j false = if j = i then true else listed.getD j false := fun j => by
        by_cases e : j = i
        · subst e; simp [listed', Array.getD, hsz, hil]
        · rw [if_neg e]; exact getD_set_ne false (Ne.symm e)
      have hle : Le (Un (Used nx ops.size fun i => listed.getD i false) (nx + i)) (Used nx ops.size fun i => listed'.getD i false) := fun m hm => by
        rcases hm with (hm | ⟨j, hj, hs, hk⟩) | hm
        · exact .inl hm
        · exact .inr ⟨j, hj, by
            show listed'.getD j false = true
            rw [hS']
            split
            · rfl
            · exact hs, hk⟩
        · exact .inr ⟨i, hil, by show listed'.getD i false = true; rw [hS', if_pos rfl], hm⟩
      have hst : upds (some' us 0 (fun i => listed.getD i false) f) u = some' us 0 (fun i => listed'.getD i false) f := by
        funext l
        refine (some_insert (us := us) (b := 0) (k := i) hu (by rw [Nat.zero_add]; exact hSi) (by rw [Nat.zero_add]; show listed'.getD i false = true; rw [hS', if_pos rfl]) (fun j hj => by show listed'.getD j false = _; rw [hS', if_neg (by omega)]) fun htu j v hv hij hs htv => ?_).symm
        rw [Nat.zero_add] at hs
        obtain ⟨oj, hoj⟩ := hjn hv
        have hwj := (dw j oj v hoj hv).1
        have contra : i ∈ an j → False := fun h => by have hs : listed.getD j false = true := hs; rw [hcon h] at hs; cases hs
        obtain ⟨p, hp, e⟩ := htu
        rcases hwr p hp with ⟨d, h1, h2, _⟩ | ⟨m, hm, h2, _⟩
        · have hl : l = sl d := by rw [← e, h2]
          rw [hl] at htv
          exact contra (hok.slots i j o oj hij hoL hoj (conf_of (.inl ⟨h1, .inr (wr_slot hwj htv)⟩)))
        · have hl : l = bl m ∨ l = rl m := by rw [← e]; exact h2
          have hmu : m ∈ names u := names_of (hl.elim (fun e' => .inl ⟨p, hp, e.trans e'⟩) (fun e' => .inr ⟨p, hp, e.trans e'⟩))
          have hmv : m ∈ names v := names_of (hl.elim (fun e' => .inl (e' ▸ htv)) (fun e' => .inr (e' ▸ htv)))
          have hjl : j < ops.toList.length := (List.getElem?_eq_some_iff.1 hoj).1
          rcases hok.nms i m j (by simpa using hil) (lgw hu hoL m hmu) hjl (by omega) (.inr (lgw hv hoj m hmv)) with h | h
          · exact contra h
          · have := hok.ord.lt i j h; omega
      have next : ∀ {c' : Ctx} {a' : Act} {w' : World}, Rel (Used nx ops.size fun i => listed'.getD i false) N w0 keep (some' us 0 (fun i => listed'.getD i false) f) c' a' w' → wpAny P .any ops Q fuel listed' a' w' := fun h' => by
        refine ih listed' (by simp [listed', hsz]) (fun j p hj hp => ?_) ?_ h'
        · rw [hS'] at hj ⊢
          split
          · rfl
          · rename_i hne
            by_cases e : j = i
            · subst e; exact hanS p hp
            · rw [if_neg e] at hj; exact hcl j p hj hp
        · have := filter_less (p := fun i => !listed.getD i false) (q := fun i => !listed'.getD i false) (i := i) (l := List.range ops.size) (fun j hj => by
            simp only [Bool.not_eq_true'] at hj ⊢
            have hj : listed'.getD j false = false := hj
            rw [hS'] at hj
            split at hj
            · cases hj
            · exact hj) (List.mem_range.2 hil) (by simp [hSi]) (by simp [hS'])
          omega
      have fresh : Fr (Used nx ops.size fun i => listed.getD i false) (nx + i) := fun m hm hk => by
        rcases hm with hm | ⟨j, hj, hs, hk'⟩
        · have := hk.1; omega
        · have h1 := hk.1; have h2 := hk.2; have h3 := hk'.1; have h4 := hk'.2
          have : j = i := by omega
          subst this
          have hs : listed.getD j false = true := hs
          rw [hSi] at hs; cases hs
      have runs : opC P H call o ⟨upTo us i f, nx⟩ (64 * (nx + i)) some = some u → o.wp P a w (wpAny P .any ops Q fuel listed') Q := fun hop => by
        rw [hsame] at hop
        refine op_ok call hn hcall h fresh hdo nx hop _ Q fun u' c' a' w' hu' h' => ?_
        injection hu' with hu'; subst hu'
        rw [hst] at h'
        exact next (h'.mono hle)
      have skips : u = putV o.dst .no → wpAny P .any ops Q fuel listed' (a.put o.dst undef) w := fun hu' => by
        have h' := h.put (M' := Used nx ops.size fun i => listed'.getD i false) (fun m hm => hle m (.inl hm)) hdo (x := .one .no) (v := undef) rfl trivial
        have : upds (some' us 0 (fun i => listed.getD i false) f) (putS o.dst (.one .no)) = some' us 0 (fun i => listed'.getD i false) f := by rw [← hst, hu']; rfl
        rw [this] at h'
        exact next h'
      unfold wpOp
      rw [ho]
      show if Region.wanted o (yielded ops a.tmps) then _ else _
      rcases htl with ⟨hg, hop⟩ | ⟨j, want, d, b, hg, hd, hb, hcase⟩ | ⟨j, want, d, hg, hd, hb, hu'⟩
      · have hw : Region.wanted o (yielded ops a.tmps) = true := by simp [Region.wanted, hg]
        rw [if_pos hw]; exact .inl (runs hop)
      · have hb' : some' us 0 (fun i => listed.getD i false) f (sl d) = .s (.one (.bool b)) := by rw [agrS d (looks_guard hg hd)]; exact hb
        have hbv : a.tmps.getD d undef = .bool b := h.slots d _ hb'
        have hy := yielded_of hd hbv
        have hw : Region.wanted o (yielded ops a.tmps) = (some b == some want) := by simp [Region.wanted, hg, hy]
        rcases hcase with ⟨hbw, hop⟩ | ⟨hbw, hu'⟩
        · rw [hw, if_pos (by rw [hbw]; simp)]; exact .inl (runs hop)
        · rw [hw, if_neg (by simpa using hbw)]; exact skips hu'
      · have hb' : some' us 0 (fun i => listed.getD i false) f (sl d) = .s (.one .no) := by rw [agrS d (looks_guard hg hd)]; exact hb
        have hbv : a.tmps.getD d undef = undef := h.slots d _ hb'
        have hy := yielded_no hd hbv
        have hw : Region.wanted o (yielded ops a.tmps) = ((none : Option Bool) == some want) := by simp [Region.wanted, hg, hy]
        rw [hw, if_neg (by simp)]; exact skips hu'
end
end Go.Proofs.Ytoioaijpdiglfaa.V
