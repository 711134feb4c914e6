/- What the interpreter does at an operation the machine does, too: operations on values alone. -/
import Derived.Test.YtoioaijpdiglfaaVRel
set_option linter.unusedVariables false
set_option linter.unusedSimpArgs false
namespace Go.Proofs.Ytoioaijpdiglfaa.V
open Go Go.RowKit

theorem upds_app (f : Nat → Val) : ∀ (u v : Wr), upds f (u ++ v) = upds (upds f u) v
  | [], _ => rfl
  | (l, x) :: u, v => upds_app (upd1 f l x) u v
theorem putS_slot (f : Nat → Val) (dst : Option Nat) (x : S) (t : Nat) : upds f (putS dst x) (sl t) = if dst = some t then .s x else f (sl t) := by
  cases dst with
  | none => simp [putS, upds]
  | some d =>
    simp only [putS, upds, upd1_eq, sl, Option.some.injEq]
    by_cases h : t = d
    · subst h; simp
    · rw [if_neg (by omega), if_neg (fun e => h e.symm)]
theorem putS_box (f : Nat → Val) (dst : Option Nat) (x : S) (β : Nat) : upds f (putS dst x) (bl β) = f (bl β) := by
  cases dst with
  | none => rfl
  | some d => simp only [putS, upds, upd1_eq, sl, bl]; rw [if_neg (by omega)]
theorem putS_root (f : Nat → Val) (dst : Option Nat) (x : S) (κ : Nat) : upds f (putS dst x) (rl κ) = f (rl κ) := by
  cases dst with
  | none => rfl
  | some d => simp only [putS, upds, upd1_eq, sl, rl]; rw [if_neg (by omega)]
theorem putS_any (f : Nat → Val) (dst : Option Nat) (x : S) (l : Nat) : upds f (putS dst x) l = f l ∨ upds f (putS dst x) l = .s x := by
  cases dst with
  | none => exact .inl rfl
  | some d =>
    simp only [putS, upds, upd1_eq]
    by_cases h : l = sl d
    · rw [if_pos h]; exact .inr rfl
    · rw [if_neg h]; exact .inl rfl
theorem put_size (a : Act) (dst : Option Nat) (v : Value) : (a.put dst v).tmps.size = a.tmps.size := by
  cases dst <;> simp [Act.put]
theorem put_defers (a : Act) (dst : Option Nat) (v : Value) : (a.put dst v).defers = a.defers := by
  cases dst <;> rfl
theorem put_getD (a : Act) (dst : Option Nat) (v : Value) (t : Nat) (h : ∀ d, dst = some d → d < a.tmps.size) : (a.put dst v).tmps.getD t undef = if dst = some t then v else a.tmps.getD t undef := by
  cases dst with
  | none => simp [Act.put]
  | some d =>
    have hd := h d rfl
    simp only [Act.put, Option.some.injEq]
    by_cases e : d = t
    · subst e; simp [Array.getD, hd]
    · rw [if_neg e]
      simp only [Array.getD_eq_getD_getElem?]
      rw [Array.getElem?_setIfInBounds, if_neg e]
section
variable {P : Program} {M M' : Nat → Prop} {N : Nat} {w0 w : World} {keep : Kp} {f : Nat → Val} {c : Ctx} {a : Act}
theorem Rel.mono (h : Rel M N w0 keep f c a w) (hM : Le M M') : Rel M' N w0 keep f c a w :=
  h.next hM (Stays.refl _ _ _) h.size h.defers (fun _ _ _ => rfl) rfl rfl rfl (fun t x hx => .inl ⟨hx, rfl⟩) (fun β b hb => .inl ⟨hb, fun k hk _ => ⟨hk, rfl⟩⟩) (fun κ r hr => .inl ⟨hr, rfl, fun k q hk _ => ⟨hk, rfl⟩⟩) h.live (fun l => .inl rfl) (fun κ => .inl rfl) (fun κ x hx => .inl hx)
theorem Rel.put (h : Rel M N w0 keep f c a w) (hM : Le M M') {dst : Option Nat} (hd : DstP N keep dst) {x : S} {v : Value} (hx : SR w c x v) (hb : sB M' x) : Rel M' N w0 keep (upds f (putS dst x)) c (a.put dst v) w :=
  h.next hM (Stays.refl _ _ _) (by rw [put_size]; exact h.size) (by rw [put_defers]; exact h.defers)
    (fun t v' hv' => by
      rw [put_getD _ _ _ _ (fun d e => by rw [h.size]; exact (hd d e).1), if_neg]
      intro e; have := (hd t e).2; rw [this] at hv'; cases hv') rfl rfl rfl
    (fun t y hy => by
      rw [putS_slot] at hy
      rw [put_getD _ _ _ _ (fun d e => by rw [h.size]; exact (hd d e).1)]
      by_cases e : dst = some t
      · rw [if_pos e] at hy ⊢; injection hy with hy; subst hy; exact .inr hx
      · rw [if_neg e] at hy ⊢; exact .inl ⟨hy, rfl⟩)
    (fun β b hb => by rw [putS_box] at hb; exact .inl ⟨hb, fun k hk _ => ⟨hk, rfl⟩⟩)
    (fun κ r hr => by rw [putS_root] at hr; exact .inl ⟨hr, rfl, fun k q hk _ => ⟨hk, rfl⟩⟩)
    (fun κ g hg => by rw [putS_root]; exact h.live κ g hg)
    (fun l => (putS_any f dst x l).imp id (fun e => by rw [e]; exact hb)) (fun κ => .inl rfl) (fun κ y hy => by rw [putS_root] at hy; exact .inl hy)

theorem Rel.rsvV (h : Rel M N w0 keep f c a w) {v : V} {x : Value} (hv : VR w c v x) : VR w c (V.rsvV f v) x := by
  cases v <;> first | exact hv | skip
  rename_i κ
  have hv : x = c.hdr κ := hv
  simp only [V.rsvV]
  split
  · rename_i e t xs er
    rw [hv]; exact (h.froz κ _ er).1
  · exact hv
theorem rsvV_b {v : V} (hv : vB M v) : vB M (V.rsvV f v) := by
  cases v <;> first | exact hv | skip
  simp only [V.rsvV]
  split
  · trivial
  · exact hv
theorem Rel.rsvVs (h : Rel M N w0 keep f c a w) : ∀ {vs : List V} {cs : List Value}, All2 (VR w c) vs cs → All2 (VR w c) (vs.map (V.rsvV f)) cs
  | [], _, hv => hv
  | _ :: _, [], hv => hv.elim
  | _ :: _, _ :: _, hv => ⟨h.rsvV hv.1, h.rsvVs hv.2⟩
theorem Rel.rsvS (h : Rel M N w0 keep f c a w) : ∀ {s : S} {x : Value}, SR w c s x → SR w c (V.rsvS f s) x
  | .one _, _, hv => h.rsvV hv
  | .agg vs, x, ⟨cs, e, hv⟩ => ⟨cs, e, h.rsvVs hv⟩
  | .arr _ _, _, hv => hv
  | .tup _, _, hv => hv
theorem rsvS_b : ∀ {s : S}, sB M s → sB M (V.rsvS f s)
  | .one _, hv => rsvV_b hv
  | .agg vs, hv => fun v hm => by
    obtain ⟨u, hu, rfl⟩ := List.mem_map.1 hm
    exact rsvV_b (hv u hu)
  | .arr _ _, hv => hv
  | .tup _, hv => hv
/-- Slots may be told anew where they name frozen roots. -/
theorem Rel.rsv (h : Rel M N w0 keep f c a w) : Rel M N w0 keep (rsvF f) c a w := by
  refine h.next Le.rfl' (Stays.refl _ _ _) h.size h.defers (fun _ _ _ => rfl) rfl rfl rfl (fun t x hx => ?_) (fun β b hb => ?_) (fun κ r hr => ?_) (fun κ g hg => ?_) (fun l => ?_) (fun κ => .inl rfl) (fun κ x hx => ?_)
  · have hx : rsvX f (f (sl t)) = .s x := hx
    cases e : f (sl t) with
    | s y => rw [e] at hx; injection hx with hx; subst hx; exact .inr (h.rsvS (h.slots t y e))
    | box b => rw [e] at hx; cases b <;> cases hx
    | root r => rw [e] at hx; cases hx
    | none => rw [e] at hx; cases hx
  · have hb : rsvX f (f (bl β)) = .box b := hb
    cases e : f (bl β) with
    | s y => rw [e] at hb; cases hb
    | box b0 =>
      rw [e] at hb
      obtain ⟨h1, h2⟩ := h.boxes β b0 e
      cases b0 with
      | arr t xs => injection hb with hb; subst hb; exact .inr ⟨h1, h2⟩
      | flds vs =>
        injection hb with hb; subst hb
        obtain ⟨cs, T, g1, g2, g3, g4⟩ := h1
        exact .inr ⟨⟨cs, T, g1, g2, h.rsvVs g3, g4⟩, h2⟩
    | root r => rw [e] at hb; cases hb
    | none => rw [e] at hb; cases hb
  · have hr : rsvX f (f (rl κ)) = .root r := hr
    cases e : f (rl κ) with
    | s y => rw [e] at hr; cases hr
    | box b => rw [e] at hr; cases b <;> cases hr
    | root r' => rw [e] at hr; injection hr with hr; subst hr; exact .inl ⟨rfl, rfl, fun k q hk _ => ⟨hk, rfl⟩⟩
    | none => rw [e] at hr; cases hr
  · obtain ⟨r, hr⟩ := h.live κ g hg
    exact ⟨r, by show rsvX f (f (rl κ)) = _; rw [hr]; rfl⟩
  · right
    show xB M (rsvX f (f l))
    have hf := h.fresh l
    cases e : f l with
    | s y => rw [e] at hf; exact rsvS_b hf
    | box b =>
      rw [e] at hf
      cases b with
      | arr t xs => trivial
      | flds vs =>
        intro v hm
        obtain ⟨u, hu, rfl⟩ := List.mem_map.1 hm
        exact rsvV_b (hf u hu)
    | root r => trivial
    | none => trivial
  · have hx : rsvX f (f (rl κ)) = .s x := hx
    cases e : f (rl κ) with
    | s y =>
      rw [e] at hx; injection hx with hx; subst hx
      obtain ⟨h1, h2⟩ := h.froz κ y e
      exact .inr ⟨h.rsvS h1, h2⟩
    | box b => rw [e] at hx; cases b <;> cases hx
    | root r => rw [e] at hx; cases hx
    | none => rw [e] at hx; cases hx
/-! ### operands -/
theorem constV_ok (w : World) (c : Ctx) : ∀ v : Value, VR w c (constV v) v := by
  intro v
  unfold constV
  split <;> first | rfl | trivial
theorem constV_b (M : Nat → Prop) (v : Value) : vB M (constV v) := by
  unfold constV
  split <;> trivial
theorem constS_ok (w : World) (c : Ctx) (v : Value) : SR w c (constS v) v := by
  unfold constS
  split
  · rename_i cs
    exact ⟨cs.toList, rfl, All2.mk (by simp) (fun i x y hx hy => by
      rw [List.getElem?_map] at hx
      rw [hy] at hx
      simp at hx
      subst hx; exact constV_ok w c y)⟩
  · exact constV_ok w c _
theorem constS_b (M : Nat → Prop) (v : Value) : sB M (constS v) := by
  unfold constS
  split
  · intro x hx
    simp only [List.mem_map] at hx
    obtain ⟨y, _, rfl⟩ := hx
    exact constV_b M y
  · exact constV_b M _
theorem Rel.ev (h : Rel M N w0 keep f c a w) (nx : Nat) (x : Operand) : SR w c (evS ⟨f, nx⟩ x) (a.eval x) := by
  cases x with
  | tmp t =>
    simp only [evS, Act.eval]
    cases e : f (sl t) with
    | s x => exact h.slots t x e
    | none => trivial
    | box b => trivial
    | root r => trivial
  | const v => exact constS_ok w c v
  | global g => trivial
  | func g => trivial
theorem Rel.evb (h : Rel M N w0 keep f c a w) (nx : Nat) (x : Operand) : sB M (evS ⟨f, nx⟩ x) := by
  cases x with
  | tmp t =>
    simp only [evS]
    have := h.fresh (sl t)
    cases e : f (sl t) with
    | s x => rw [e] at this; exact this
    | none => trivial
    | box b => trivial
    | root r => trivial
  | const v => exact constS_b M v
  | global g => trivial
  | func g => trivial
theorem Rel.evv (h : Rel M N w0 keep f c a w) (nx : Nat) (x : Operand) : VR w c (evV ⟨f, nx⟩ x) (a.eval x) := by
  have := h.ev nx x
  unfold evV
  cases e : evS ⟨f, nx⟩ x with
  | one v => rw [e] at this; exact this
  | agg vs => trivial
  | arr t xs => trivial
  | tup cs => trivial
theorem Rel.evvb (h : Rel M N w0 keep f c a w) (nx : Nat) (x : Operand) : vB M (evV ⟨f, nx⟩ x) := by
  have := h.evb nx x
  unfold evV
  cases e : evS ⟨f, nx⟩ x with
  | one v => rw [e] at this; exact this
  | agg vs => trivial
  | arr t xs => trivial
  | tup cs => trivial
end
/-- The machine does what the interpreter did: 'R' the interpreter's answer. -/
def Does (P : Program) (o : Oper) (M : Nat → Prop) (N : Nat) (w0 : World) (keep : Kp) (f : Nat → Val) (key : Nat) (a : Act) (w : World) {R : Type} (k : Wr → Option R) (r : R) : Prop :=
  ∀ (next : Act → World → Prop) (Q : Exit → Act → World → Prop), (∀ u c' a' w', k u = some r → Rel (Un M key) N w0 keep (upds f u) c' a' w' → next a' w') → o.wp P a w next Q
section
variable {P : Program} {o : Oper} {M : Nat → Prop} {N key : Nat} {w0 w : World} {keep : Kp} {f : Nat → Val} {c : Ctx} {a : Act} {R : Type} {k : Wr → Option R} {r : R}
/-- An operation that only tells a value. -/
theorem does_value (h : Rel M N w0 keep f c a w) (hM : Fr M key) (hd : DstP N keep o.dst) {x : S} {v : Value} (hrun : (execOp a.eval o).run P w = .ok (.value v) w) (hx : SR w c x v) (hb : sB (Un M key) x) (hk : k (putS o.dst x) = some r) : Does P o M N w0 keep f key a w k r := by
  intro next Q hn
  show o.upon P a next Q _
  rw [hrun]
  exact hn _ _ _ _ hk (h.put Le.un hd hx hb)
theorem does_move (h : Rel M N w0 keep f c a w) (hM : Fr M key) (hd : DstP N keep o.dst) {x : Operand} (ho : o.op = .move x ∨ o.op = .assign x) (nx : Nat) (hk : k (putS o.dst (evS ⟨f, nx⟩ x)) = some r) : Does P o M N w0 keep f key a w k r :=
  does_value h hM hd (by rcases ho with ho | ho <;> · simp only [execOp, ho]; rfl) (h.ev nx x) (sB_mono Le.un (h.evb nx x)) hk
end
end Go.Proofs.Ytoioaijpdiglfaa.V
