/- Operations that make rows and boxes; append. -/
import Derived.Test.YtlkjkhmifhmjbaaVOps5
import Derived.Great.BuildSlice
import Derived.Deep.OwnRows
import Derived.Maps.AppendAt
set_option linter.unusedVariables false
set_option linter.unusedSimpArgs false
namespace Go.Proofs.Ytlkjkhmifhmjbaa.V
open Go Go.RowKit
/-- Of flat data, what is read is as good as owned. -/
theorem flat_Own {w w' : World} {ok : Nat → Prop} {χ : Nat → List Nat} : ∀ {t : Ty} {p : List Nat} {x : den t} {cs : List Value}, flat t = true → Rd w ok t x cs → Own w' χ t p x cs
  | .int _, _, _, _, _, h => h
  | .bool, _, _, _, _, h => h
  | .str, _, _, _, _, h => h
  | .pair a b, p, x, cs, hf, ⟨c0, c1, h, h0, h1⟩ => by
    simp only [flat, Bool.and_eq_true] at hf
    exact ⟨c0, c1, h, flat_Own hf.1 h0, flat_Own hf.2 h1⟩
  | .sl _ _, _, _, _, hf, _ => by cases hf
  | .unit, _, _, _, _, h => h
theorem flat_any {w w' : World} {χ χ' : Nat → List Nat} {t : Ty} {p p' : List Nat} {x : den t} {cs : List Value} (hf : flat t = true) (h : Own w χ t p x cs) : Own w' χ' t p' x cs := flat_Own hf (Own_Rd (ok := fun _ => True) (fun _ _ _ => trivial) h)
theorem zero_Own {w : World} {χ : Nat → List Nat} {t : Ty} {p : List Nat} {z : Value} (hz : zeroIs t z = true) : Own w χ t p (dflt t) [z] := by
  unfold zeroIs at hz
  split at hz
  · simp only [Bool.and_eq_true, decide_eq_true_eq] at hz
    rw [hz.1, hz.2]; rfl
  · rename_i b
    have hz : b = false := by simpa using hz
    rw [hz]; rfl
  · rename_i s
    have hz := Nat.eq_of_beq_eq_true hz
    have : s = ByteArray.empty := by
      apply ByteArray.ext
      exact Array.eq_empty_of_size_eq_zero hz
    rw [this]; rfl
  · exact ⟨.slice none 0 0, [], rfl, World.ownsRow_nil _ _ _ _, fun k hk => by simp [Value.ownBlock] at hk, fun j x hx => by simp [dflt] at hx⟩
  · cases hz
section
variable {P : Program} {o : Oper} {M M' : Nat → Prop} {N key κ : Nat} {w0 w w' : World} {keep : Nat → Prop} {f : Nat → Val} {c : Ctx} {a : Act} {R : Type} {k : Wr → Option R} {r : R}
def drop0 (f : Nat → Val) (X : Option Nat) : Nat → Val := match X with
  | some κ0 => upd1 f (rl κ0) .none
  | none => f
theorem upd1_slot (l : Nat) (x : Val) (t : Nat) (h : l % 3 ≠ 0) : upd1 f l x (sl t) = f (sl t) := by rw [upd1_eq, if_neg]; simp only [sl]; omega
/-- A new root: its row was made, or grown, just now. X: the root that it took the place of. -/
theorem Rel.newRoot (h : Rel M N w0 keep f c a w) (hκ : ¬ M κ) (hLe : Le M M') (hM' : M' κ) {X : Option Nat} {e : Nat} {t : Ty} {xs : List (den t)} {v : Value} {inner : List Value} {row : Option Nat} (hg : w.grownBy w' row)
    (hX : ∀ b, row = some b → ∃ κ0, X = some κ0 ∧ c.χ b = [κ0 + 1]) (hb : ∀ b, v.ownBlock = some b → row = some b ∨ w.heap.size ≤ b) (hpos : 0 < width t)
    (hown : w'.ownsRow 0 e (width t) v xs.length inner)
    (hel : ∀ (χ : Nat → List Nat) (p : List Nat) (j : Nat) (x : den t), xs[j]? = some x → Own w' χ t p x ((inner.drop (j * width t)).take (width t))) :
    ∃ c', Rel M' N w0 keep (upd1 (drop0 f X) (rl κ) (.root ⟨e, t, xs, true, 0, none⟩)) c' a w' ∧ c'.hdr κ = v ∧ (∀ j, M j → X ≠ some j → c'.hdr j = c.hdr j) := by
  obtain ⟨A, cp, hv, _, _⟩ := ownsRow_slice hown
  let c' : Ctx := { χ := fun b => if v.ownBlock = some b then [κ + 1] else c.χ b, hdr := fun j => if j = κ then v else c.hdr j, wid := fun j => if j = κ then width t else c.wid j, blk := c.blk, gens := fun j => if j = κ then some 0 else if X = some j then none else c.gens j }
  have hold : ∀ b, b < w.heap.size → v.ownBlock = some b → ∃ κ0, X = some κ0 ∧ c.χ b = [κ0 + 1] := fun b hl hv => by
    rcases hb b hv with h1 | h1
    · exact hX b h1
    · omega
  have hcol : ∀ b q, b < w.heap.size → c.χ b = q → (∀ κ0, X = some κ0 → q ≠ [κ0 + 1]) → c'.χ b = q := fun b q hl hq hne => by
    show (if v.ownBlock = some b then [κ + 1] else c.χ b) = q
    rw [if_neg]
    · exact hq
    · intro hv
      obtain ⟨κ0, h1, h2⟩ := hold b hl hv
      exact hne κ0 h1 (hq.symm.trans h2)
  have hst : Stays M w c w' c' := h.stays (fun j => X = some j) (fun _ => False) hg.size
    (fun b hl hq => hcol b [] hl hq (fun κ0 _ e => by cases e))
    (fun b hl h1 _ => hg.block b hl (fun e => by
      obtain ⟨κ0, h2, h3⟩ := hX b e.symm
      exact h1 κ0 [] h3 h2))
    (fun j hj => by
      have : j ≠ κ := fun (e : j = κ) => hκ (e ▸ hj)
      exact ⟨if_neg this, if_neg this⟩)
    (fun _ _ => rfl)
    (fun j hj hXj g hgj => by
      have : j ≠ κ := fun (e : j = κ) => hκ (e ▸ hj)
      have e : c'.gens j = none := by show (if j = κ then _ else _) = _; rw [if_neg this, if_pos hXj]
      rw [e] at hgj; cases hgj)
    (fun j hj hXj => by
      have : j ≠ κ := fun (e : j = κ) => hκ (e ▸ hj)
      show (if j = κ then _ else _) = _; rw [if_neg this, if_neg hXj])
  have hf : ∀ l, l ≠ rl κ → (∀ κ0, X = some κ0 → l ≠ rl κ0) → upd1 (drop0 f X) (rl κ) (.root ⟨e, t, xs, true, 0, none⟩) l = f l := fun l h1 h2 => by
    rw [upd1_eq, if_neg h1]
    cases X with
    | none => rfl
    | some κ0 => show upd1 f (rl κ0) .none l = f l; rw [upd1_eq, if_neg (h2 κ0 rfl)]
  have hgone : ∀ κ0, X = some κ0 → κ0 ≠ κ → upd1 (drop0 f X) (rl κ) (.root ⟨e, t, xs, true, 0, none⟩) (rl κ0) = .none := fun κ0 hx hne => by
    subst hx
    rw [upd1_eq, if_neg (by simp only [rl]; omega)]
    show upd1 f (rl κ0) .none (rl κ0) = _
    rw [upd1_eq, if_pos rfl]
  have hsame : upd1 (drop0 f X) (rl κ) (.root ⟨e, t, xs, true, 0, none⟩) (rl κ) = .root ⟨e, t, xs, true, 0, none⟩ := by rw [upd1_eq, if_pos rfl]
  refine ⟨c', h.next hLe hst h.size h.defers hg.os hg.tape hg.output (fun t' x hx => .inl ⟨?_, rfl⟩) (fun β b hx => .inl ⟨?_, fun b' hb' hl => ?_⟩) (fun j r' hr => ?_) (fun j g hg' => ?_) (fun l => ?_) (fun j => ?_), if_pos rfl, fun j hj _ => if_neg (fun (e : j = κ) => hκ (e ▸ hj))⟩
  · rwa [hf _ (by simp only [sl, rl]; omega) (fun κ0 _ => by simp only [sl, rl]; omega)] at hx
  · rwa [hf _ (by simp only [bl, rl]; omega) (fun κ0 _ => by simp only [bl, rl]; omega)] at hx
  · refine ⟨hcol b' _ hl hb' (fun κ0 _ e => by injection e with e _; omega), hg.block b' hl (fun e => ?_)⟩
    obtain ⟨κ0, _, h3⟩ := hX b' e.symm
    rw [hb'] at h3; injection h3 with h3 _; omega
  · by_cases e1 : j = κ
    · subst e1
      rw [hsame] at hr
      injection hr with hr
      subst hr
      right
      refine ⟨⟨rfl, rfl, if_pos rfl, hpos, .inr ⟨0, if_pos rfl, Nat.le_refl _⟩, v, inner, ?_, hown, fun b hb' => if_pos hb', fun j x hx => hel _ _ j x hx⟩, hM'⟩
      show [if j = j then v else c.hdr j] = [v]
      rw [if_pos rfl]
    · by_cases e2 : X = some j
      · rw [hgone j e2 e1] at hr; cases hr
      · left
        rw [hf _ (by simp only [rl]; omega) (fun κ0 h1 => by rw [h1] at e2; simp only [rl]; intro e; exact e2 (by congr 1; omega))] at hr
        refine ⟨hr, ?_, fun b q hbq hl => ⟨hcol b _ hl hbq (fun κ0 h1 e => ?_), hg.block b hl (fun e => ?_)⟩⟩
        · show (if j = κ then _ else _) = _
          rw [if_neg e1, if_neg e2]
        · injection e with e _; exact e2 (by rw [h1]; congr 1; omega)
        · obtain ⟨κ0, h1, h3⟩ := hX b e.symm
          rw [hbq] at h3; injection h3 with h3 _; exact e2 (by rw [h1]; congr 1; omega)
  · by_cases e1 : j = κ
    · subst e1; exact ⟨_, hsame⟩
    · have hg2 : (if X = some j then none else c.gens j) = some g := by
        have : c'.gens j = if X = some j then none else c.gens j := if_neg e1
        rw [← this]; exact hg'
      by_cases e2 : X = some j
      · rw [if_pos e2] at hg2; cases hg2
      · rw [if_neg e2] at hg2
        obtain ⟨r', hr'⟩ := h.live j g hg2
        exact ⟨r', by rw [hf _ (by simp only [rl]; omega) (fun κ0 h1 => by rw [h1] at e2; simp only [rl]; intro e; exact e2 (by congr 1; omega))]; exact hr'⟩
  · by_cases e1 : l = rl κ
    · right; rw [e1, hsame]; trivial
    · by_cases e2 : ∃ κ0, X = some κ0 ∧ l = rl κ0
      · obtain ⟨κ0, h1, h2⟩ := e2
        right
        rw [h2, hgone κ0 h1 (fun e => e1 (by rw [h2, e]))]; trivial
      · left; exact hf l e1 (fun κ0 h1 h2 => e2 ⟨κ0, h1, h2⟩)
  · by_cases e1 : j = κ
    · right; exact ⟨A, _, cp, by show (if j = κ then v else c.hdr j) = _; rw [if_pos e1]; exact hv⟩
    · left; exact if_neg e1
/-- A new box. -/
theorem Rel.newBox (h : Rel M N w0 keep f c a w) (hκ : ¬ M κ) (hLe : Le M M') (hM' : M' κ) {cs : List Value} {T : Nat} {b : Box} (hbx : (∃ vs, b = .flds vs ∧ All2 (VR w c) vs cs ∧ (∀ v ∈ vs, vB M v) ∧ ∀ u ∈ cs, u.oneCell' = true) ∨ ∃ t xs, b = .arr t xs ∧ scal t = true ∧ cs = xs.map (encF t)) :
    ∃ c', Rel M' N w0 keep (upd1 f (bl κ) (.box b)) c' a (w.alloc (.cells cs.toArray T)) ∧ c'.blk κ = w.heap.size := by
  let c' : Ctx := { χ := fun b => if b = w.heap.size then [0, κ] else c.χ b, hdr := c.hdr, wid := c.wid, blk := fun j => if j = κ then w.heap.size else c.blk j, gens := c.gens }
  have hne : ∀ b, b < w.heap.size → c'.χ b = c.χ b := fun b hl => if_neg (by omega)
  have hblk : ∀ b, b < w.heap.size → (w.alloc (.cells cs.toArray T)).heap[b]? = w.heap[b]? := fun b hl => Below.heap_alloc w _ b hl
  have hst : Stays M w c (w.alloc (.cells cs.toArray T)) c' := h.stays (fun _ => False) (fun _ => False) (by simp) (fun b hl hq => (hne b hl).trans hq) (fun b hl _ _ => hblk b hl) (fun _ _ => ⟨rfl, rfl⟩)
    (fun j hj => if_neg (fun (e : j = κ) => hκ (e ▸ hj))) (fun _ _ hf => hf.elim) (fun _ _ _ => rfl)
  have hsame : upd1 f (bl κ) (.box b) (bl κ) = .box b := by rw [upd1_eq, if_pos rfl]
  have hf : ∀ l, l ≠ bl κ → upd1 f (bl κ) (.box b) l = f l := fun l hl => by rw [upd1_eq, if_neg hl]
  refine ⟨c', h.next hLe hst h.size h.defers rfl rfl rfl (fun t' x hx => .inl ⟨?_, rfl⟩) (fun β b' hx => ?_) (fun j r' hr => .inl ⟨?_, rfl, fun b q hbq hl => ⟨(hne b hl).trans hbq, hblk b hl⟩⟩) (fun j g hg' => ?_) (fun l => ?_) (fun j => .inl rfl), if_pos rfl⟩
  · rwa [hf _ (by simp only [sl, bl]; omega)] at hx
  · by_cases e : β = κ
    · subst e
      rw [hsame] at hx
      injection hx with hx
      subst hx
      right
      refine ⟨?_, hM'⟩
      have hb1 : c'.blk β = w.heap.size := if_pos rfl
      have hb2 : c'.χ (c'.blk β) = [0, β] := by rw [hb1]; exact if_pos rfl
      rcases hbx with ⟨vs, rfl, h1, h2, h3⟩ | ⟨t, xs, rfl, h1, h2⟩
      · exact ⟨cs, T, by rw [hb1]; exact heap_alloc_new w _, hb2, h1.imp fun v u hv => VR_stays hst (h2 v hv), h3⟩
      · exact ⟨T, by rw [hb1, ← h2]; exact heap_alloc_new w _, hb2, h1⟩
    · left
      rw [hf _ (by simp only [bl]; omega)] at hx
      exact ⟨hx, fun b q hl => ⟨(hne b hl).trans q, hblk b hl⟩⟩
  · rwa [hf _ (by simp only [rl, bl]; omega)] at hr
  · obtain ⟨r', hr'⟩ := h.live j g hg'
    exact ⟨r', by rw [hf _ (by simp only [rl, bl]; omega)]; exact hr'⟩
  · by_cases e : l = bl κ
    · right
      rw [e, hsame]
      rcases hbx with ⟨vs, rfl, _, h2, _⟩ | ⟨t, xs, rfl, _⟩
      · exact fun v hv => vB_mono hLe (h2 v hv)
      · trivial
    · exact .inl (hf l e)
end
end Go.Proofs.Ytlkjkhmifhmjbaa.V
