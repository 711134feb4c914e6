/- The machine does what the interpreter does: alloc, box, a literal's row, make, append. -/
import Derived.Test.YtoioaijpdiglfaaVOps6
set_option linter.unusedVariables false
set_option linter.unusedSimpArgs false
namespace Go.Proofs.Ytoioaijpdiglfaa.V
open Go Go.RowKit
theorem zeros_All2 {w : World} {c : Ctx} : ∀ {ts : List Ty} {zs : List Value}, zerosAre ts zs = true → All2 (VR w c) (ts.map zeroV) zs ∧ ∀ u ∈ zs, u.oneCell' = true
  | [], [], _ => ⟨trivial, fun u hu => by simp at hu⟩
  | t :: ts, z :: zs, h => by
    simp only [zerosAre, Bool.and_eq_true] at h
    obtain ⟨h1, h2⟩ := zeros_All2 (w := w) (c := c) h.2
    have hz : VR w c (zeroV t) z ∧ z.oneCell' = true := by
      have hz := h.1
      unfold zeroIs at hz
      split at hz
      · simp only [Bool.and_eq_true, decide_eq_true_eq] at hz
        rw [hz.1, hz.2]; exact ⟨rfl, rfl⟩
      · rename_i b
        have hz : b = false := by simpa using hz
        rw [hz]; exact ⟨rfl, rfl⟩
      · rename_i s
        have hz := Nat.eq_of_beq_eq_true hz
        have : s = ByteArray.empty := ByteArray.ext (Array.eq_empty_of_size_eq_zero hz)
        rw [this]; exact ⟨rfl, rfl⟩
      · exact ⟨rfl, rfl⟩
      · cases hz
    refine ⟨⟨hz.1, h1⟩, fun u hu => ?_⟩
    rcases List.mem_cons.1 hu with e | e
    · rw [e]; exact hz.2
    · exact h2 u e
  | [], _ :: _, h => by cases h
  | _ :: _, [], h => by cases h
theorem zeroV_b (M : Nat → Prop) (t : Ty) : vB M (zeroV t) := by cases t <;> trivial
section
variable {P : Program} {o : Oper} {M M' : Nat → Prop} {N key κ : Nat} {w0 w w' : World} {keep : Kp} {f : Nat → Val} {c : Ctx} {a : Act} {R : Type} {k : Wr → Option R} {r : R}
theorem VR_oneCell (h : Rel M N w0 keep f c a w) {v : V} {x : Value} (hok : okLeaf v = true) (hx : VR w c v x) : x.oneCell' = true := by
  cases v with
  | undef => cases hok
  | no => cases hok
  | row _ _ _ _ => cases hok
  | rptr _ _ _ _ _ => cases hok
  | int _ _ => rw [show x = _ from hx]; rfl
  | bool _ => rw [show x = _ from hx]; rfl
  | str _ => rw [show x = _ from hx]; rfl
  | nil => rw [show x = _ from hx]; rfl
  | dat e t xs => exact Rd_one (show Rd w (fun k => c.χ k = []) (.sl e t) xs [x] from hx) x (List.mem_singleton_self _)
  | own κ => obtain ⟨A, n, cp, e⟩ := h.hdrs κ; rw [show x = _ from hx, e]; rfl
  | cut _ _ _ => obtain ⟨A, n, cp, A', _, _, _, e, _⟩ := hx; rw [e]; rfl
  | bptr _ _ => rw [show x = _ from hx]; rfl
  | aptr _ _ => rw [show x = _ from hx]; rfl
  | eptr _ _ _ => obtain ⟨_, _, _, _, _, e⟩ := hx; rw [e]; rfl
  | dptr _ _ _ => obtain ⟨_, _, e, _⟩ := hx; rw [e]; rfl
/-- What a value's leaves stand for: its cells. -/
theorem leaves_cells (h : Rel M N w0 keep f c a w) {x : S} {v : Value} (hx : SR w c x v) (hok : (leavesS x).all okLeaf = true) (hne : leavesS x ≠ []) : ∃ cs : List Value, v.cells.toList = cs ∧ All2 (VR w c) (leavesS x) cs ∧ ∀ u ∈ cs, u.oneCell' = true := by
  have one : ∀ {vs : List V} {cs : List Value}, vs.all okLeaf = true → All2 (VR w c) vs cs → ∀ u ∈ cs, u.oneCell' = true := by
    intro vs
    induction vs with
    | nil => intro cs _ ha u hu; cases cs with
      | nil => simp at hu
      | cons _ _ => exact ha.elim
    | cons v vs ih => intro cs hok ha u hu; cases cs with
      | nil => exact ha.elim
      | cons x cs =>
        simp only [List.all_cons, Bool.and_eq_true] at hok
        rcases List.mem_cons.1 hu with e | e
        · rw [e]; exact VR_oneCell h hok.1 ha.1
        · exact ih hok.2 ha.2 u e
  cases x with
  | one u =>
    have h1 : okLeaf u = true := by simpa [leavesS] using hok
    have h2 := VR_oneCell h h1 hx
    refine ⟨[v], ?_, ⟨hx, trivial⟩, fun y hy => by rw [List.mem_singleton] at hy; rw [hy]; exact h2⟩
    cases v <;> first | rfl | (simp [Value.oneCell'] at h2)
  | agg vs =>
    obtain ⟨cs, rfl, ha⟩ := hx
    exact ⟨cs, by simp [Value.cells], ha, one hok ha⟩
  | arr t xs => exact absurd rfl hne
  | tup cs => exact absurd rfl hne
theorem zeroOk_spec {e : Nat} {t : Ty} (h : zeroOk P e t = true) : ∃ i z, P.info? e = some i ∧ i.zero = some z ∧ zerosAre (leafTys t) z.cells.toList = true := by
  unfold zeroOk at h
  split at h
  · rename_i i hi
    split at h
    · rename_i z hz; exact ⟨i, z, hi, hz, h⟩
    · cases h
  · cases h
theorem leafTys_len : ∀ t : Ty, (leafTys t).length = width t
  | .int _ => rfl
  | .bool => rfl
  | .str => rfl
  | .sl _ _ => rfl
  | .pair a b => by simp only [leafTys, List.length_append, leafTys_len a, leafTys_len b, width]
  | .unit => rfl
  | .ptr _ _ => rfl
theorem rowOk_nop {e : Nat} {t : Ty} (h : rowOk P e t = true) : noP t = true := by
  unfold rowOk at h
  simp only [Bool.and_eq_true] at h
  exact h.2
theorem rowOk_spec {e : Nat} {t : Ty} (h : rowOk P e t = true) : ∃ i z, P.info? e = some i ∧ i.zero = some z ∧ i.size = width t ∧ z.cells.size = width t ∧ 0 < width t ∧ i.bytes = bytesT P e ∧ 0 < i.bytes ∧ zerosAre (leafTys t) z.cells.toList = true := by
  unfold rowOk at h
  simp only [Bool.and_eq_true] at h
  obtain ⟨⟨⟨⟨h1, h2⟩, h3⟩, h4⟩, _⟩ := h
  obtain ⟨i, z, hi, hz, hall⟩ := zeroOk_spec h4
  have h1 := Nat.eq_of_beq_eq_true h1
  have h2 : 0 < width t := by simpa [Nat.blt_eq] using h2
  have h3 : 0 < bytesT P e := by simpa [Nat.blt_eq] using h3
  have hl := (zeros_All2 (w := default) (c := ⟨fun _ => [], fun _ => undef, fun _ => 0, fun _ => 0, fun _ => none⟩) hall).1.len
  rw [List.length_map, leafTys_len, Array.length_toList] at hl
  exact ⟨i, z, hi, hz, by unfold sizeT at h1; rw [hi] at h1; exact h1, hl.symm, h2, by unfold bytesT; rw [hi], by unfold bytesT at h3; rw [hi] at h3; exact h3, hall⟩
theorem elem_info {T e : Nat} (h : elemOf? P T = some e) : P.underlying T = some (.slice e) := by
  unfold elemOf? at h
  split at h
  · rename_i e' hu; injection h with h; subst h; exact hu
  · cases h
theorem run_newObj (ob : Obj) : (newObj ob).run P w = .ok w.heap.size (w.alloc ob) := rfl
/-- Behind an operation that told a new name: the slot is put. -/
theorem does_named (hM : Le M' (Un M key)) (hd : DstP N keep o.dst) {f' : Nat → Val} {c' : Ctx} (h' : Rel M' N w0 keep f' c' a w') {x : V} {v : Value} (hrun : (execOp a.eval o).run P w = .ok (.value v) w') (hx : VR w' c' x v) (hb : vB M' x) {u : Wr} (hf : upds f u = f') (hk : k (u ++ putV o.dst x) = some r) : Does P o M N w0 keep f key a w k r := by
  intro next Q hn
  show o.upon P a next Q _
  rw [hrun]
  refine hn (u ++ putV o.dst x) c' (a.put o.dst v) w' hk ?_
  rw [upds_app, hf]
  exact h'.put hM hd (x := .one x) hx (vB_mono hM hb)
theorem does_box (h : Rel M N w0 keep f c a w) (hM : Fr M key) (hd : DstP N keep o.dst) {T : Nat} {x : Operand} (ho : o.op = .box T x) (nx : Nat) {vs : List V} (hvs : leavesS (evS ⟨f, nx⟩ x) = vs) (hok : vs.all okLeaf = true) (hne : vs ≠ [])
    (hk : k ([(bl (64 * key), .box (.flds vs))] ++ putV o.dst (.bptr (64 * key) 0)) = some r) : Does P o M N w0 keep f key a w k r := by
  subst hvs
  obtain ⟨cs, hc, hall, h1⟩ := leaves_cells h (h.ev nx x) hok hne
  have hB := h.evb nx x
  have hvb : ∀ v ∈ leavesS (evS ⟨f, nx⟩ x), vB M v := by
    cases e : evS ⟨f, nx⟩ x with
    | one u => rw [e] at hB; intro v hv; rw [show leavesS (.one u) = [u] from rfl, List.mem_singleton] at hv; rw [hv]; exact hB
    | agg us => rw [e] at hB; exact hB
    | arr t xs => intro v hv; simp [leavesS] at hv
    | tup cs => intro v hv; simp [leavesS] at hv
  obtain ⟨c', h', hb⟩ := h.newBox (κ := 64 * key) (M' := Un M key) hM.not Le.un (un_self key) (cs := cs) (T := T) (b := .flds (leavesS (evS ⟨f, nx⟩ x))) (.inl ⟨_, rfl, hall, hvb, h1⟩)
  refine does_named Le.rfl' hd h' (v := .pointer (some ⟨w.heap.size, 0, none⟩)) ?_ (x := .bptr (64 * key) 0) (by show _ = _; rw [hb]) (un_self key) rfl hk
  have : (a.eval x).cells = cs.toArray := by rw [← hc]
  simp [execOp, ho, Instr.box, newVar, newRow, run_newObj, this]
theorem does_alloc (h : Rel M N w0 keep f c a w) (hM : Fr M key) (hd : DstP N keep o.dst) {T : Nat} (ho : o.op = .alloc T) {ts : List Ty} {t : Ty}
    (hz : (match P.info? T with | some i => (match i.zero with | some z => zerosAre ts z.cells.toList | none => false) | none => false) = true)
    (hk : k ([(bl (64 * key), .box (.flds (ts.map zeroV)))] ++ putV o.dst (.bptr (64 * key) 0)) = some r) : Does P o M N w0 keep f key a w k r := by
  split at hz
  · rename_i i hi
    split at hz
    · rename_i z hzz
      obtain ⟨hall, h1⟩ := zeros_All2 (w := w) (c := c) hz
      obtain ⟨c', h', hb⟩ := h.newBox (κ := 64 * key) (M' := Un M key) hM.not Le.un (un_self key) (cs := z.cells.toList) (T := T) (b := .flds (ts.map zeroV)) (.inl ⟨_, rfl, hall, fun v hv => by
        simp only [List.mem_map] at hv
        obtain ⟨t, _, rfl⟩ := hv
        exact zeroV_b M t, h1⟩)
      refine does_named Le.rfl' hd h' (v := .pointer (some ⟨w.heap.size, 0, none⟩)) ?_ (x := .bptr (64 * key) 0) (by show _ = _; rw [hb]) (un_self key) rfl hk
      simp [execOp, ho, Instr.alloc, zeroValue, typeInfo, hi, hzz, newVar, newRow, run_newObj]
    · cases hz
  · cases hz
theorem does_allocArr (h : Rel M N w0 keep f c a w) (hM : Fr M key) (hd : DstP N keep o.dst) {T n : Nat} {t : Ty} (ho : o.op = .alloc T) (hsc : scal t = true)
    (hz : (match P.info? T with | some i => (match i.zero with | some z => zerosAre (List.replicate n t) z.cells.toList | none => false) | none => false) = true)
    (hk : k ([(bl (64 * key), .box (.arr t (List.replicate n (dflt t))))] ++ putV o.dst (.bptr (64 * key) 0)) = some r) : Does P o M N w0 keep f key a w k r := by
  split at hz
  · rename_i i hi
    split at hz
    · rename_i z hzz
      have hcs : ∀ (n : Nat) (zs : List Value), zerosAre (List.replicate n t) zs = true → zs = (List.replicate n (dflt t)).map (encF t) := by
        intro n
        induction n with
        | zero => intro zs h; cases zs with
          | nil => rfl
          | cons _ _ => cases h
        | succ n ih => intro zs h; cases zs with
          | nil => cases h
          | cons u zs =>
            simp only [List.replicate_succ, zerosAre, Bool.and_eq_true] at h
            rw [List.replicate_succ, List.map_cons, ih zs h.2]
            congr 1
            have hz := h.1
            have := zero_Own (w := w) (χ := fun _ => []) (p := []) hz
            cases t <;> simp [scal] at hsc <;> · have : [u] = [_] := this; simpa [encF] using this
      obtain ⟨c', h', hb⟩ := h.newBox (κ := 64 * key) (M' := Un M key) hM.not Le.un (un_self key) (cs := z.cells.toList) (T := T) (b := .arr t (List.replicate n (dflt t))) (.inr ⟨t, _, rfl, hsc, hcs n _ hz⟩)
      refine does_named Le.rfl' hd h' (v := .pointer (some ⟨w.heap.size, 0, none⟩)) ?_ (x := .bptr (64 * key) 0) (by show _ = _; rw [hb]) (un_self key) rfl hk
      simp [execOp, ho, Instr.alloc, zeroValue, typeInfo, hi, hzz, newVar, newRow, run_newObj]
    · cases hz
  · cases hz
/-- A literal's elements: their cells, and what they are made of. -/
theorem buildL_ok (h : Rel M N w0 keep f c a w) (nx : Nat) {t : Ty} : ∀ {parts : List (Nat × Operand)} {i : Nat} {xs : List (den t)}, inOrder (parts.map fun p => (p.1, leavesS (evS ⟨f, nx⟩ p.2))) i = true → (parts.map fun p => leavesS (evS ⟨f, nx⟩ p.2)).all (fun vs => vs.all okLeaf && !vs.isEmpty) = true → buildL f t (parts.map fun p => (p.1, leavesS (evS ⟨f, nx⟩ p.2))) = some xs →
    ∃ vss : List Value, parts.map (fun p => (p.1, a.eval p.2)) = (vss.zipIdx i).map (fun x => (x.2, x.1)) ∧ vss.length = xs.length ∧ vss.length = parts.length ∧
      ∀ (j : Nat) (x : den t) (v : Value) (us : List V), xs[j]? = some x → vss[j]? = some v → (parts.map fun p => leavesS (evS ⟨f, nx⟩ p.2))[j]? = some us → All2 (VR w c) us v.cells.toList ∧ packs f t us = some x
  | [], i, xs, _, _, hb => by
    injection hb with hb; subst hb
    exact ⟨[], rfl, rfl, rfl, fun j x v us hx => by simp at hx⟩
  | (j, x) :: parts, i, xs, ho, hok, hb => by
    simp only [List.map_cons, inOrder, Bool.and_eq_true, List.all_cons] at ho hok
    have hj := Nat.eq_of_beq_eq_true ho.1
    subst hj
    simp only [List.map_cons, buildL] at hb
    split at hb
    · rename_i y ys e1 e2
      injection hb with hb; subst hb
      obtain ⟨vss, h1, h2, h2', h3⟩ := buildL_ok h nx ho.2 hok.2 e2
      obtain ⟨cs, hc, hall, _⟩ := leaves_cells h (h.ev nx x) hok.1.1 (by intro e; rw [e] at hok; simp at hok)
      refine ⟨a.eval x :: vss, by rw [List.map_cons, h1]; simp [List.zipIdx_cons], by simp [h2], by simp [h2'], fun q x' v us hx hv hu => ?_⟩
      cases q with
      | zero =>
        have hx : y = x' := by simpa using hx
        have hv : a.eval x = v := by simpa using hv
        have hu : leavesS (evS ⟨f, nx⟩ x) = us := by simpa using hu
        subst hx hv hu
        exact ⟨by rw [hc]; exact hall, e1⟩
      | succ q => exact h3 q x' v us (by simpa using hx) (by simpa using hv) (by simpa using hu)
    · cases hb
def posOwn (κ : Nat) : List V → Nat → Option Nat
  | [], _ => none
  | .own κ' :: vs, j => if κ' = κ then some j else posOwn κ vs (j + 1)
  | _ :: vs, j => posOwn κ vs (j + 1)
theorem mem_any {x : Nat} {l : List Nat} : (l.any fun y => Nat.beq y x) = true ↔ x ∈ l := by
  rw [List.any_eq_true]
  constructor
  · rintro ⟨y, hy, e⟩; rw [← Nat.eq_of_beq_eq_true e]; exact hy
  · intro h; exact ⟨x, h, by simp⟩
theorem nodupN_cons {x : Nat} {l : List Nat} (h : nodupN (x :: l) = true) : x ∉ l ∧ nodupN l = true := by
  simp only [nodupN, Bool.and_eq_true, Bool.not_eq_true'] at h
  exact ⟨fun hm => by rw [mem_any.2 hm] at h; exact absurd h.1 (by simp), h.2⟩
theorem ownKeys_mem {κ : Nat} : ∀ {vs : List V}, κ ∈ ownKeys vs ↔ V.own κ ∈ vs
  | [] => by simp [ownKeys]
  | v :: vs => by
    have ih := ownKeys_mem (κ := κ) (vs := vs)
    cases v <;> simp [ownKeys, ih]
theorem posOwn_none {κ : Nat} : ∀ {vs : List V} {j : Nat}, κ ∉ ownKeys vs → posOwn κ vs j = none
  | [], _, _ => rfl
  | v :: vs, j, h => by
    cases v with
    | own κ' =>
      simp only [ownKeys, List.mem_cons, not_or] at h
      show (if κ' = κ then _ else _) = _
      rw [if_neg (fun e => h.1 e.symm)]; exact posOwn_none h.2
    | _ => exact posOwn_none (vs := vs) h
theorem posOwn_get {κ : Nat} : ∀ {vs : List V} {p : Nat} {j : Nat}, nodupN (ownKeys vs) = true → vs[p]? = some (.own κ) → posOwn κ vs j = some (j + p)
  | v :: vs, 0, j, _, h => by
    have h : v = .own κ := by simpa using h
    subst h
    show (if κ = κ then _ else _) = _
    rw [if_pos rfl]; rfl
  | v :: vs, p + 1, j, hn, h => by
    have h : vs[p]? = some (.own κ) := by simpa using h
    have e : j + (p + 1) = j + 1 + p := by omega
    rw [e]
    cases v with
    | own κ' =>
      have hn := nodupN_cons (l := ownKeys vs) hn
      have hne : κ' ≠ κ := fun e => hn.1 (by rw [e]; exact ownKeys_mem.2 (List.mem_of_getElem? h))
      show (if κ' = κ then _ else _) = _
      rw [if_neg hne]; exact posOwn_get hn.2 h
    | _ => exact posOwn_get (vs := vs) hn h
  | [], _, _, _, h => by simp at h
/-- Pieces of one length, put behind each other. -/
theorem flat_get {α : Type} {wd : Nat} : ∀ {ls : List (List α)} {i o : Nat} {l : List α} {x : α}, (∀ l ∈ ls, l.length = wd) → ls[i]? = some l → l[o]? = some x → ls.flatten[i * wd + o]? = some x
  | m :: ls, 0, o, l, x, h, hi, ho => by
    have hi : m = l := by simpa using hi
    subst hi
    rw [Nat.zero_mul, Nat.zero_add, List.flatten_cons, List.getElem?_append_left (List.getElem?_eq_some_iff.1 ho).1]; exact ho
  | m :: ls, i + 1, o, l, x, h, hi, ho => by
    have hm := h m List.mem_cons_self
    rw [List.flatten_cons, List.getElem?_append_right (by rw [hm, Nat.succ_mul]; omega), hm, show (i + 1) * wd + o - wd = i * wd + o by rw [Nat.succ_mul]; omega]
    exact flat_get (fun l hl => h l (List.mem_cons_of_mem _ hl)) (by simpa using hi) ho
  | [], _, _, _, _, _, hi, _ => by simp at hi
theorem leaf_sh (h : Rel M N w0 keep f c a w) {s : Ty} {v : V} {d : Value} {y : den s} (hv : VR w c v d) (ho : shOk f v = true) (hy : packV f s v = some y) : Rd w (fun k => c.χ k = [] ∨ ∃ κ, v = .own κ ∧ ∃ q, c.χ k = (κ + 1) :: q) s y [d] := by
  have hrd := packV_ok h hv hy
  cases s with
  | int _ => exact hrd
  | bool => exact hrd
  | str => exact hrd
  | pair _ _ => cases v <;> cases hy
  | unit => cases v <;> cases hy
  | ptr _ _ => exact hrd
  | sl e t =>
    have hy : readL f e t v = some y := hy
    cases v with
    | nil =>
      have hy : y = [] := by simpa [readL] using hy.symm
      subst hy
      exact ⟨none, 0, [], by rw [show d = _ from hv]; rfl, Nat.le_refl _, Nat.zero_le _, by simp, fun j u hu => by simp at hu, fun j x hx => by simp at hx⟩
    | dat e' t' xs =>
      simp only [readL] at hy
      cases he : Nat.beq e' e with
      | false => rw [he] at hy; cases hy
      | true =>
        rw [he, cond_true] at hy
        have he := Nat.eq_of_beq_eq_true he
        subst he
        exact Rd_step (fun k hk _ => ⟨.inl hk, rfl⟩) (castTo_Rd hy (show Rd w (fun k => c.χ k = []) (.sl _ t') xs [d] from hv))
    | own κ =>
      have hv : d = c.hdr κ := hv
      simp only [shOk] at ho
      split at ho
      · rename_i rt er
        have hh : rt.hole = none := by simpa using ho
        simp only [readL, er, hh] at hy
        cases he : Nat.beq rt.e e with
        | false => rw [he] at hy; cases hy
        | true =>
          rw [he, cond_true] at hy
          have he := Nat.eq_of_beq_eq_true he
          subst he
          rw [hv]
          exact Rd_step (fun k hk _ => ⟨hk.elim (fun ⟨q, hq⟩ => .inr ⟨κ, rfl, q, hq⟩) .inl, rfl⟩) (castTo_Rd hy (root_Rd h er hh))
      · cases ho
    | _ => first | (cases ho; done) | cases hy
theorem packs_sh (h : Rel M N w0 keep f c a w) {ok : Nat → Prop} (h0 : ∀ k, c.χ k = [] → ok k) : ∀ {t : Ty} {vs : List V} {cs : List Value} {y : den t}, (∀ κ, V.own κ ∈ vs → ∀ k q, c.χ k = (κ + 1) :: q → ok k) → All2 (VR w c) vs cs → vs.all (shOk f) = true → packs f t vs = some y → Rd w ok t y cs := by
  have one : ∀ {t : Ty} {vs : List V} {cs : List Value} {y : den t}, (∀ us, packs f t us = some y → ∃ v, us = [v] ∧ packV f t v = some y) → (∀ κ, V.own κ ∈ vs → ∀ k q, c.χ k = (κ + 1) :: q → ok k) → All2 (VR w c) vs cs → vs.all (shOk f) = true → packs f t vs = some y → Rd w ok t y cs := fun {t vs cs y} hone hk hall hok hy => by
    obtain ⟨v, rfl, hv⟩ := hone vs hy
    cases cs with
    | nil => exact hall.elim
    | cons d r => cases r with
      | cons _ _ => exact hall.2.elim
      | nil =>
        simp only [List.all_cons, List.all_nil, Bool.and_true] at hok
        exact Rd_step (fun k hk' _ => ⟨hk'.elim (h0 k) (fun ⟨κ, e, q, hq⟩ => hk κ (by rw [e]; exact List.mem_cons_self) k q hq), rfl⟩) (leaf_sh h hall.1 hok hv)
  intro t
  induction t with
  | pair a b iha ihb =>
    intro vs cs y hk hall hok hy
    simp only [packs] at hy
    split at hy
    · rename_i x1 x2 e1 e2
      injection hy with hy; subst hy
      exact ⟨cs.take (width a), cs.drop (width a), (List.take_append_drop _ _).symm, iha (fun κ hm => hk κ (List.mem_of_mem_take hm)) (hall.take _) (List.all_eq_true.2 fun v hv => List.all_eq_true.1 hok v (List.mem_of_mem_take hv)) e1, ihb (fun κ hm => hk κ (List.mem_of_mem_drop hm)) (hall.drop _) (List.all_eq_true.2 fun v hv => List.all_eq_true.1 hok v (List.mem_of_mem_drop hv)) e2⟩
    · cases hy
  | unit =>
    intro vs cs y _ hall _ hy
    cases vs with
    | cons _ _ => cases hy
    | nil => cases cs with
      | nil => rfl
      | cons _ _ => exact hall.elim
  | ptr _ _ _ => intro vs cs y _ _ _ hy; cases vs <;> cases hy
  | int k => intro vs cs y hk hall hok hy; exact one (fun us h => by
      cases us with
      | nil => cases h
      | cons v r => cases r with
        | nil => exact ⟨v, rfl, h⟩
        | cons _ _ => cases h) hk hall hok hy
  | bool => intro vs cs y hk hall hok hy; exact one (fun us h => by
      cases us with
      | nil => cases h
      | cons v r => cases r with
        | nil => exact ⟨v, rfl, h⟩
        | cons _ _ => cases h) hk hall hok hy
  | str => intro vs cs y hk hall hok hy; exact one (fun us h => by
      cases us with
      | nil => cases h
      | cons v r => cases r with
        | nil => exact ⟨v, rfl, h⟩
        | cons _ _ => cases h) hk hall hok hy
  | sl e t _ => intro vs cs y hk hall hok hy; exact one (fun us h => by
      cases us with
      | nil => cases h
      | cons v r => cases r with
        | nil => exact ⟨v, rfl, h⟩
        | cons _ _ => cases h) hk hall hok hy
/-- The roots that are laid into a literal's row: their new colours. -/
def layDeep (κ : Nat) (t : Ty) (L : List V) : List Nat → List Nat
  | (m + 1) :: r => match posOwn m L 0 with
    | some p => [κ + 1, p / width t] ++ (lp t (p % width t) ++ r)
    | none => (m + 1) :: r
  | q => q
def layFlat (ks : List Nat) : List Nat → List Nat
  | (m + 1) :: r => if m ∈ ks then [] else (m + 1) :: r
  | q => q
theorem does_buildSlice (h : Rel M N w0 keep f c a w) (hM : Fr M key) (hd : DstP N keep o.dst) {T n e : Nat} {parts : Array (Nat × Operand)} {t : Ty} (ho : o.op = .buildSlice T n parts) (nx : Nat) (hT : elemOf? P T = some e) (hrow : rowOk P e t = true)
    (hn : parts.size = n) (hio : inOrder (parts.toList.map fun p => (p.1, leavesS (evS ⟨f, nx⟩ p.2))) 0 = true) (hok : (parts.toList.map fun p => leavesS (evS ⟨f, nx⟩ p.2)).all (fun vs => vs.all okLeaf && !vs.isEmpty) = true) (hsm : n * width t ≤ 16777216)
    {xs : List (den t)} (hb : buildL f t (parts.toList.map fun p => (p.1, leavesS (evS ⟨f, nx⟩ p.2))) = some xs)
    (hk : (cond (flat t) (k ([(rl (64 * key), .root ⟨e, t, xs, true, 0, none⟩)] ++ putV o.dst (.own (64 * key))))
            (match (parts.toList.map fun p => leavesS (evS ⟨f, nx⟩ p.2)).flatten with
            | vs => cond (nodupN (ownKeys vs)) (cond (vs.all (moveOk f)) (k (dropKeys (ownKeys vs) ++ [(rl (64 * key), .root ⟨e, t, xs, true, 0, none⟩)] ++ putV o.dst (.own (64 * key))))
                (cond (vs.all (shOk f)) (k (dropKeys (ownKeys vs) ++ [(rl (64 * key), .root ⟨e, t, xs, false, 0, none⟩)] ++ putV o.dst (.own (64 * key)))) none)) none)) = some r) : Does P o M N w0 keep f key a w k r := by
  obtain ⟨vss, h1, h2, h2', h3'⟩ := buildL_ok h nx hio hok hb
  have h3 : All2 (fun x (v : Value) => Rd w (fun _ => True) t x v.cells.toList) xs vss := All2.mk h2.symm fun i x v hx hv => by
    have hi : i < (parts.toList.map fun p => leavesS (evS ⟨f, nx⟩ p.2)).length := by
      rw [List.length_map, ← h2']; exact (List.getElem?_eq_some_iff.1 hv).1
    obtain ⟨g1, g2⟩ := h3' i x v _ hx hv (List.getElem?_eq_getElem hi)
    exact packs_ok h g1 g2
  obtain ⟨i, z, hi, hz, hsz, hzs, hpos, hby, hby0, hzeros⟩ := rowOk_spec hrow
  have hu := elem_info hT
  have hlen : vss.length = n := by have := congrArg List.length h1; simp at this; omega
  have hcells : ∀ v ∈ vss, v.cells.size = width t := by
    intro v hv
    obtain ⟨j, hj⟩ := List.getElem?_of_mem hv
    have hjl : j < xs.length := by rw [← h2]; exact (List.getElem?_eq_some_iff.1 hj).1
    obtain ⟨v', hv', hr⟩ := h3.get (List.getElem?_eq_getElem hjl)
    rw [hj] at hv'; injection hv' with hv'; subst hv'
    rw [← Array.length_toList]; exact Rd_len hr
  let inner := vss.flatMap fun v => v.cells.toList
  have hin : inner.length = n * width t := by
    show (vss.flatMap _).length = _
    rw [← hlen]
    clear h1 h2 h3 h2' h3' hlen
    induction vss with
    | nil => simp
    | cons v vs ih =>
      rw [List.flatMap_cons, List.length_append, ih (fun v hv => hcells v (List.mem_cons_of_mem _ hv)), Array.length_toList, hcells v List.mem_cons_self, List.length_cons, Nat.succ_mul, Nat.add_comm]
  have hpiece : ∀ (j : Nat) (v : Value), vss[j]? = some v → (inner.drop (j * width t)).take (width t) = v.cells.toList := by
    show ∀ (j : Nat) (v : Value), vss[j]? = some v → ((vss.flatMap fun v => v.cells.toList).drop (j * width t)).take (width t) = v.cells.toList
    clear hin inner hk hb hio hok h1 hlen hn h2 h3 h3' h2'
    induction vss with
    | nil => intro j v hx; simp at hx
    | cons v vss ih =>
      intro j u hu
      have hv := hcells v List.mem_cons_self
      have hvl : v.cells.toList.length = width t := by rw [Array.length_toList]; exact hv
      cases j with
      | zero =>
        simp at hu; subst hu
        rw [Nat.zero_mul, List.drop_zero, List.flatMap_cons, List.take_append_of_le_length (by omega), List.take_of_length_le (by omega)]
      | succ j =>
        rw [Nat.succ_mul, Nat.add_comm, List.flatMap_cons, ← List.drop_drop, List.drop_append_of_le_length (by omega), List.drop_of_length_le (show v.cells.toList.length ≤ width t by omega), List.nil_append]
        exact ih (fun v hv => hcells v (List.mem_cons_of_mem _ hv)) j u (by simpa using hu)
  have hrun : (execOp a.eval o).run P w = .ok (.value (.slice (some ⟨w.heap.size, 0, none⟩) n n)) (w.alloc (.cells inner.toArray e)) := by
    have hfill : ∀ cells : Array Value, vss.length * width t = cells.size → Instr.fill (fun i => some (i * width t, width t)) cells (parts.map fun (i, x) => (i, a.eval x)).toList = some inner.toArray := by
      intro cells hc
      rw [Array.toList_map, show (parts.toList.map fun (i, x) => (i, a.eval x)) = parts.toList.map (fun p => (p.1, a.eval p.2)) from rfl, h1]
      exact Great.fill_whole hpos vss cells hcells hc
    simp only [execOp, ho, Sem.run_bind]
    by_cases h0 : n = 0
    · have hp0 : parts = #[] := Array.eq_empty_of_size_eq_zero (hn.trans h0)
      have hin0 : inner.toArray = #[] := by have : inner = [] := List.eq_nil_of_length_eq_zero (by rw [hin, h0, Nat.zero_mul]); rw [this]
      simp only [Instr.buildSlice, Sem.run_bind, run_underlying hu, Result.andThen_ok, run_size hi]
      rw [hin0, h0, hp0]
      have hnone : ∀ g : Nat → Value, Array.map g (Array.range 0) = #[] := fun g => Array.eq_empty_of_size_eq_zero (by simp)
      simp [Instr.fill, newRow, run_newObj]
      rw [hnone]
    · have := run_buildSlice (P := P) w T e n (parts.map fun (i, x) => (i, a.eval x)) inner.toArray i z hu hi hz (by rw [hsz]; omega) (by rw [hsz]; exact Nat.mul_ne_zero h0 (by omega)) (by rw [hsz]; exact hfill _ (by simp [hlen]))
      simp [this]
  have hxs : xs.length = n := by omega
  have hrow' : (w.alloc (.cells inner.toArray e)).ownsRow 0 e (width t) (.slice (some ⟨w.heap.size, 0, none⟩) n n) xs.length inner := by
    rw [hxs]
    refine ⟨hin, .inr ⟨w.heap.size, n, inner.toArray, rfl, Nat.zero_le _, heap_alloc_new w _, Nat.le_refl _, ?_, by simp [hin], ?_⟩⟩
    · have : n ≤ n * width t := Nat.le_mul_of_pos_right _ hpos
      simp only [maxLen]; omega
    · simp only [List.take_of_length_le (show inner.length ≤ n * width t by omega)]
  have hnew : ∀ b, (Value.slice (some ⟨w.heap.size, 0, none⟩) n n).ownBlock = some b → (none : Option Nat) = some b ∨ w.heap.size ≤ b := fun b hb => .inr (by simp [Value.ownBlock] at hb; omega)
  have elem : ∀ (j : Nat) (x : den t), xs[j]? = some x → ∃ us, (parts.toList.map fun p => leavesS (evS ⟨f, nx⟩ p.2))[j]? = some us ∧ All2 (VR w c) us ((inner.drop (j * width t)).take (width t)) ∧ packs f t us = some x := fun j x hx => by
    have hj : j < vss.length := by rw [h2]; exact (List.getElem?_eq_some_iff.1 hx).1
    have hv := List.getElem?_eq_getElem hj
    have hi : j < (parts.toList.map fun p => leavesS (evS ⟨f, nx⟩ p.2)).length := by rw [List.length_map, ← h2']; exact hj
    obtain ⟨g1, g2⟩ := h3' j x _ _ hx hv (List.getElem?_eq_getElem hi)
    exact ⟨_, List.getElem?_eq_getElem hi, by rw [hpiece j _ hv]; exact g1, g2⟩
  have hnop := rowOk_nop hrow
  cases hfl : flat t with
  | true =>
    rw [hfl, cond_true] at hk
    obtain ⟨c', h', hh, _⟩ := h.newRoot (κ := 64 * key) (M' := Un M key) hM.not Le.un (un_self key) [] id (e := e) (t := t) (xs := xs) (v := .slice (some ⟨w.heap.size, 0, none⟩) n n) (inner := inner) (d := true) (World.grownBy_alloc w (.cells inner.toArray e) none) (fun _ _ => rfl) (fun b hb => by cases hb) hnew hpos hnop hrow'
      (fun χ' _ j x hx => by
        obtain ⟨us, _, g1, g2⟩ := elem j x hx
        exact flat_El hfl (packs_ok h g1 g2))
    exact does_named Le.rfl' hd h' hrun (x := .own (64 * key)) hh.symm (un_self key) rfl hk
  | false =>
    rw [hfl, cond_false] at hk
    generalize hL : (parts.toList.map fun p => leavesS (evS ⟨f, nx⟩ p.2)).flatten = L at hk
    simp only at hk
    obtain ⟨hnd, hk⟩ := cond_some' hk
    have sub : ∀ (j : Nat) (us : List V), (parts.toList.map fun p => leavesS (evS ⟨f, nx⟩ p.2))[j]? = some us → ∀ v ∈ us, v ∈ L := fun j us hj v hv => by
      rw [← hL]; exact List.mem_flatten.2 ⟨us, List.mem_of_getElem? hj, hv⟩
    have put : ∀ (f' : Nat → Val), upds f (dropKeys (ownKeys L) ++ [(rl (64 * key), f' 0)]) = upd1 (upds f (dropKeys (ownKeys L))) (rl (64 * key)) (f' 0) := fun f' => by rw [upds_app]; rfl
    cases hmv : L.all (moveOk f) with
    | true =>
      rw [hmv, cond_true] at hk
      have hlens : ∀ l ∈ (parts.toList.map fun p => leavesS (evS ⟨f, nx⟩ p.2)), l.length = width t := fun l hl => by
        obtain ⟨j, hj⟩ := List.getElem?_of_mem hl
        have hjl : j < xs.length := by rw [← h2, h2']; have := (List.getElem?_eq_some_iff.1 hj).1; rwa [List.length_map] at this
        obtain ⟨us, g0, g1, g2⟩ := elem j _ (List.getElem?_eq_getElem hjl)
        rw [hj] at g0; injection g0 with g0; subst g0
        have := Rd_len (packs_ok h g1 g2)
        rw [← g1.len] at this; exact this
      obtain ⟨c', h', hh, _⟩ := h.newRoot (κ := 64 * key) (M' := Un M key) hM.not Le.un (un_self key) (ownKeys L) (layDeep (64 * key) t L) (e := e) (t := t) (xs := xs) (v := .slice (some ⟨w.heap.size, 0, none⟩) n n) (inner := inner) (d := true) (World.grownBy_alloc w (.cells inner.toArray e) none) (fun q hq => by
          unfold layDeep
          split
          · rename_i m r
            rw [posOwn_none (hq m r rfl)]
          · rfl) (fun b hb => by cases hb) hnew hpos hnop hrow'
        (fun χ' hχ j x hx => by
          obtain ⟨us, g0, g1, g2⟩ := elem j x hx
          refine leaves_into h hnop g1 (List.all_eq_true.2 fun v hv => List.all_eq_true.1 hmv v (sub j us g0 v hv)) (fun o' κ0 ho' k' q hk' hl => ?_) g2
          have hol : o' < width t := by rw [← hlens us (List.mem_of_getElem? g0)]; exact (List.getElem?_eq_some_iff.1 ho').1
          have hpos' := posOwn_get (j := 0) hnd (by rw [← hL]; exact flat_get hlens g0 ho')
          obtain ⟨g3, g4⟩ := hχ k' _ hl hk' (fun e => by cases e)
          refine ⟨?_, g4⟩
          rw [g3]
          simp only [layDeep, hpos', Nat.zero_add]
          have e1 : (j * width t + o') / width t = j := by rw [Nat.mul_comm, Nat.mul_add_div hpos, Nat.div_eq_of_lt hol, Nat.add_zero]
          have e2 : (j * width t + o') % width t = o' := by rw [Nat.mul_comm, Nat.mul_add_mod, Nat.mod_eq_of_lt hol]
          rw [e1, e2])
      exact does_named Le.rfl' hd h' hrun (x := .own (64 * key)) hh.symm (un_self key) (put fun _ => .root ⟨e, t, xs, true, 0, none⟩) hk
    | false =>
      rw [hmv, cond_false] at hk
      obtain ⟨hsh, hk⟩ := cond_some' hk
      obtain ⟨c', h', hh, _⟩ := h.newRoot (κ := 64 * key) (M' := Un M key) hM.not Le.un (un_self key) (ownKeys L) (layFlat (ownKeys L)) (e := e) (t := t) (xs := xs) (v := .slice (some ⟨w.heap.size, 0, none⟩) n n) (inner := inner) (d := false) (World.grownBy_alloc w (.cells inner.toArray e) none) (fun q hq => by
          unfold layFlat
          split
          · rename_i m r
            rw [if_neg (hq m r rfl)]
          · rfl) (fun b hb => by cases hb) hnew hpos hnop hrow'
        (fun χ' hχ j x hx => by
          obtain ⟨us, g0, g1, g2⟩ := elem j x hx
          have := packs_sh h (ok := fun k => c.χ k = [] ∨ ∃ κ0 ∈ ownKeys L, ∃ q, c.χ k = (κ0 + 1) :: q) (fun k hk => .inl hk) (fun κ0 hm k q hq => .inr ⟨κ0, ownKeys_mem.2 (sub j us g0 _ hm), q, hq⟩) g1 (List.all_eq_true.2 fun v hv => List.all_eq_true.1 hsh v (sub j us g0 v hv)) g2
          refine Rd_step (fun k' hk' hl => ?_) this
          obtain ⟨g3, g4⟩ := hχ k' _ hl rfl (fun e => by cases e)
          refine ⟨?_, g4⟩
          rw [g3]
          rcases hk' with e | ⟨κ0, hm, q, e⟩
          · rw [e]; rfl
          · rw [e]; simp only [layFlat, if_pos hm])
      exact does_named Le.rfl' hd h' hrun (x := .own (64 * key)) hh.symm (un_self key) (put fun _ => .root ⟨e, t, xs, false, 0, none⟩) hk
end
end Go.Proofs.Ytoioaijpdiglfaa.V
