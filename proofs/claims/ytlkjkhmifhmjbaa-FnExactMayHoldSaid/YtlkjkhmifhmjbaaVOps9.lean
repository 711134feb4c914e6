/- store. -/
import Derived.Test.YtlkjkhmifhmjbaaVOps8
import Derived.Laws.CopyRow
set_option linter.unusedVariables false
set_option linter.unusedSimpArgs false
namespace Go.Proofs.Ytlkjkhmifhmjbaa.V
open Go Go.RowKit
def splice {α : Type} (l : List α) (p : Nat) (us : List α) : List α := l.take p ++ us ++ l.drop (p + us.length)
theorem splice_get {α : Type} {l us : List α} {p : Nat} (h : p + us.length ≤ l.length) (k : Nat) : (splice l p us)[k]? = if p ≤ k ∧ k < p + us.length then us[k - p]? else l[k]? := by
  unfold splice
  have ht : (l.take p).length = p := by rw [List.length_take]; omega
  rw [List.append_assoc]
  by_cases h1 : k < p
  · rw [List.getElem?_append_left (by omega), List.getElem?_take, if_pos h1, if_neg (by omega)]
  · rw [List.getElem?_append_right (by omega), ht]
    by_cases h2 : k < p + us.length
    · rw [List.getElem?_append_left (by omega), if_pos ⟨by omega, h2⟩]
    · rw [List.getElem?_append_right (by omega), List.getElem?_drop, if_neg (by omega)]
      congr 1; omega
theorem splice_len {α : Type} {l us : List α} {p : Nat} (h : p + us.length ≤ l.length) : (splice l p us).length = l.length := by
  unfold splice
  rw [List.length_append, List.length_append, List.length_take, List.length_drop]; omega
theorem splice_All2 {α β : Type} {R : α → β → Prop} {l us : List α} {m vs : List β} {p : Nat} (h : All2 R l m) (h' : All2 R us vs) : All2 R (splice l p us) (splice m p vs) := by
  unfold splice
  rw [← h'.len]
  exact ((h.take p).app h').app (h.drop _)
theorem splice_mem {α : Type} {l us : List α} {p : Nat} {x : α} (h : x ∈ splice l p us) : x ∈ l ∨ x ∈ us := by
  unfold splice at h
  rw [List.mem_append, List.mem_append] at h
  rcases h with (h | h) | h
  · exact .inl (List.mem_of_mem_take h)
  · exact .inr h
  · exact .inl (List.mem_of_mem_drop h)
/-- Pieces of a row with a part written anew. -/
theorem chunk_other {α : Type} {l us : List α} {i j n wd off : Nat} (hl : l.length = n * wd) (hi : i < n) (ho : off + us.length ≤ wd) (hne : j ≠ i) :
    ((splice l (i * wd + off) us).drop (j * wd)).take wd = (l.drop (j * wd)).take wd := by
  have hfit : i * wd + off + us.length ≤ l.length := by
    have : i * wd + wd ≤ n * wd := by rw [← Nat.succ_mul]; exact Nat.mul_le_mul_right _ hi
    omega
  apply List.ext_getElem?
  intro k
  rw [List.getElem?_take, List.getElem?_take, List.getElem?_drop, List.getElem?_drop]
  by_cases hk : k < wd
  · rw [if_pos hk, if_pos hk, splice_get hfit, if_neg]
    rcases Nat.lt_or_gt_of_ne hne with h | h
    · have : j * wd + wd ≤ i * wd := by rw [← Nat.succ_mul]; exact Nat.mul_le_mul_right _ h
      omega
    · have : i * wd + wd ≤ j * wd := by rw [← Nat.succ_mul]; exact Nat.mul_le_mul_right _ h
      omega
  · rw [if_neg hk, if_neg hk]
theorem chunk_same {α : Type} {l us : List α} {i n wd off : Nat} (hl : l.length = n * wd) (hi : i < n) (ho : off + us.length ≤ wd) :
    ((splice l (i * wd + off) us).drop (i * wd)).take wd = splice ((l.drop (i * wd)).take wd) off us := by
  have hfit : i * wd + wd ≤ l.length := by
    have : i * wd + wd ≤ n * wd := by rw [← Nat.succ_mul]; exact Nat.mul_le_mul_right _ hi
    omega
  have hc : ((l.drop (i * wd)).take wd).length = wd := by rw [List.length_take, List.length_drop]; omega
  apply List.ext_getElem?
  intro k
  rw [List.getElem?_take, List.getElem?_drop, splice_get (by omega), splice_get (by omega), List.getElem?_take, List.getElem?_drop]
  by_cases hk : k < wd
  · rw [if_pos hk]
    by_cases h : off ≤ k ∧ k < off + us.length
    · rw [if_pos (by omega), if_pos h]; congr 1; omega
    · rw [if_neg (by omega), if_neg h, if_pos hk]
  · rw [if_neg hk, if_neg (by omega), if_neg hk]
section
variable {P : Program} {o : Oper} {M M' : Nat → Prop} {N key κ : Nat} {w0 w w' : World} {keep : Nat → Prop} {f : Nat → Val} {c : Ctx} {a : Act} {R : Type} {k : Wr → Option R} {r : R}
theorem does_unit {u : Wr} {f' : Nat → Val} (hdst : o.dst = none) (hf : upds f u = f') (h' : ∃ c', Rel (Un M key) N w0 keep f' c' a w') (hrun : (execOp a.eval o).run P w = .ok .skip w') (hk : k u = some r) : Does P o M N w0 keep f key a w k r := by
  intro next Q hn
  show o.upon P a next Q _
  rw [hrun]
  obtain ⟨c', h'⟩ := h'
  subst hf
  have hp : a.put o.dst undef = a := by rw [hdst]; rfl
  show next (a.put o.dst undef) w'
  rw [hp]
  exact hn u c' a w' hk h'
theorem run_storeAt {T b off : Nat} {v : Value} {us : List Value} {cur : List Value} {t : TypeId} (hus : v.cells.toList = us) (hs : us.length = sizeT P T) (hpos : 0 < sizeT P T) (hg : w.heap[b]? = some (.cells cur.toArray t (0, 0))) (hfit : off + us.length ≤ cur.length) (h1 : ∀ u ∈ us, u.oneCell' = true) :
    (Instr.storeAt T (.pointer (some ⟨b, off, none⟩)) v).run P w = .ok () (w.setRow b (splice cur off us).toArray) := by
  have := run_storeCells_at (P := P) b off t us 0 cur.toArray w hg (by simpa using hfit) h1
  have hi : ∃ i, P.info? T = some i := by
    cases e : P.info? T with
    | none => unfold sizeT at hpos; rw [e] at hpos; simp at hpos
    | some i => exact ⟨i, rfl⟩
  obtain ⟨i, hi⟩ := hi
  have hsz : v.cells.size = sizeT P T := by rw [← hs, ← hus, Array.length_toList]
  simp only [Instr.storeAt, Instr.sureAddr, Sem.run_bind, Sem.run_pure, Result.andThen_ok, storeVar, run_size hi, hsz, ne_eq, not_true_eq_false, if_false, hus, this]
  simp [splice]
/-- A box is written. -/
theorem Rel.setBox (h : Rel M N w0 keep f c a w) {β : Nat} {b b' : Box} (hb : f (bl β) = .box b) {cs cur : List Value} {T : TypeId} (hcur : w.heap[c.blk β]? = some (.cells cur.toArray T (0, 0)))
    (hbx : (∃ vs, b' = .flds vs ∧ All2 (VR w c) vs cs ∧ (∀ v ∈ vs, vB M v) ∧ ∀ u ∈ cs, u.oneCell' = true) ∨ ∃ t xs, b' = .arr t xs ∧ scal t = true ∧ cs = xs.map (encF t)) :
    Rel M N w0 keep (upd1 f (bl β) (.box b')) c a (w.setRow (c.blk β) cs.toArray) := by
  obtain ⟨hB, hβ⟩ := h.boxes β b hb
  have hχ : c.χ (c.blk β) = [0, β] := by
    cases b with
    | flds vs => obtain ⟨_, _, _, h2, _⟩ := hB; exact h2
    | arr t xs => obtain ⟨_, _, h2, _⟩ := hB; exact h2
  have hoth : ∀ k, k ≠ c.blk β → (w.setRow (c.blk β) cs.toArray).heap[k]? = w.heap[k]? := fun k hk => setRow_other w _ _ _ hk
  have hst : Stays M w c (w.setRow (c.blk β) cs.toArray) c := h.stays (fun _ => False) (fun j => j = β) (by simp) (fun k _ hk => hk)
    (fun k hl _ h2 => hoth k (fun e => h2 β [] (by rw [e, hχ]) rfl)) (fun _ _ => ⟨rfl, rfl⟩) (fun _ _ => rfl) (fun _ _ hf => hf.elim) (fun _ _ _ => rfl)
  have hnew := setRow_heap w (c.blk β) cur.toArray cs.toArray T (0, 0) hcur
  refine h.next Le.rfl' hst h.size h.defers rfl rfl rfl (fun t x hx => .inl ⟨?_, rfl⟩) (fun j b2 hj => ?_) (fun j r' hr => .inl ⟨?_, rfl, fun k q hk hl => ⟨hk, hoth k (fun e => by rw [e, hχ] at hk; injection hk with hk _; omega)⟩⟩) (fun j g hg => ?_) (fun l => ?_) (fun j => .inl rfl)
  · rwa [upd1_eq, if_neg (by simp only [sl, bl]; omega)] at hx
  · by_cases e : j = β
    · subst e
      rw [upd1_eq, if_pos rfl] at hj
      injection hj with hj; subst hj
      right
      refine ⟨?_, hβ⟩
      rcases hbx with ⟨vs, rfl, h1, h2, h3⟩ | ⟨t, xs, rfl, h1, h2⟩
      · exact ⟨cs, T, hnew, hχ, h1.imp fun v u hv => VR_stays hst (h2 v hv), h3⟩
      · exact ⟨T, by rw [← h2]; exact hnew, hχ, h1⟩
    · left
      rw [upd1_eq, if_neg (by simp only [bl]; omega)] at hj
      exact ⟨hj, fun k hk hl => ⟨hk, hoth k (fun e' => by rw [e', hχ] at hk; injection hk with _ hk; injection hk with hk _; exact e hk.symm)⟩⟩
  · rwa [upd1_eq, if_neg (by simp only [rl, bl]; omega)] at hr
  · obtain ⟨r', hr'⟩ := h.live j g hg
    exact ⟨r', by rw [upd1_eq, if_neg (by simp only [rl, bl]; omega)]; exact hr'⟩
  · rw [upd1_eq]
    by_cases e : l = bl β
    · right
      rw [if_pos e]
      rcases hbx with ⟨vs, rfl, _, h2, _⟩ | ⟨t, xs, rfl, _⟩
      · exact h2
      · trivial
    · left; rw [if_neg e]
/-- A flat root's element is written. -/
theorem Rel.setElem (h : Rel M N w0 keep f c a w) {κ i off n cp b : Nat} {rt : Root} (er : f (rl κ) = .root rt) (hfl : flat rt.t = true) (hhd : c.hdr κ = .slice (some ⟨b, 0, none⟩) n cp) (hin : i < n) {us : List Value} (hfit : off + us.length ≤ width rt.t) {y : den rt.t}
    (hy : ∀ cs, Rd w (fun _ => True) rt.t (rt.xs.getD i (dflt rt.t)) cs → Rd w (fun _ => True) rt.t y (splice cs off us)) :
    ∃ cur T, w.heap[b]? = some (.cells (cur : List Value).toArray T (0, 0)) ∧ i * width rt.t + off + us.length ≤ cur.length ∧ ∃ c', Rel M N w0 keep (upd1 f (rl κ) (.root { rt with xs := rt.xs.set i y })) c' a (w.setRow b (splice cur (i * width rt.t + off) us).toArray) := by
  obtain ⟨⟨hdeep, hhole, hwid, hpos, hgen, v, inner, hv, hown, hcol, hel⟩, hκ⟩ := h.roots κ rt er
  have hv : c.hdr κ = v := by simpa using hv
  rw [hhd] at hv
  subst hv
  obtain ⟨hil, hr⟩ := hown
  rcases hr with ⟨he, _⟩ | ⟨g, cap, cur, he, hbg, hh, hnc, hcm, hcs, htk⟩
  · cases he
  injection he with he1 he2 he3
  injection he1 with he1
  injection he1 with he1 _ _
  have hil' : inner.length = n * width rt.t := by rw [he2]; exact hil
  have hnx : n = rt.xs.length := he2
  subst he1
  have hcl : cur.toList.length = cap * width rt.t := by rw [Array.length_toList]; exact hcs
  have hnw : n * width rt.t ≤ cap * width rt.t := Nat.mul_le_mul_right _ (by omega)
  have hiw : i * width rt.t + width rt.t ≤ n * width rt.t := by rw [← Nat.succ_mul]; exact Nat.mul_le_mul_right _ hin
  refine ⟨cur.toList, _, by rw [Array.toArray_toList]; exact hh, by omega, ?_⟩
  have hχ : c.χ b = [κ + 1] := hcol b rfl
  have hoth : ∀ k, k ≠ b → (w.setRow b (splice cur.toList (i * width rt.t + off) us).toArray).heap[k]? = w.heap[k]? := fun k hk => setRow_other w _ _ _ hk
  have hnew := setRow_heap w b cur (splice cur.toList (i * width rt.t + off) us).toArray _ (0, 0) hh
  let c' : Ctx := { c with gens := fun j => if j = κ then none else c.gens j }
  have hst : Stays M w c (w.setRow b (splice cur.toList (i * width rt.t + off) us).toArray) c' := h.stays (fun j => j = κ) (fun _ => False) (by simp) (fun k _ hk => hk)
    (fun k hl h1 _ => hoth k (fun e => h1 κ [] (by rw [e, hχ]) rfl)) (fun _ _ => ⟨rfl, rfl⟩) (fun _ _ => rfl)
    (fun j _ e g hg => by have : c'.gens j = none := if_pos e
                          rw [this] at hg; cases hg) (fun j _ e => if_neg e)
  refine ⟨c', h.next Le.rfl' hst h.size h.defers rfl rfl rfl (fun t x hx => .inl ⟨?_, rfl⟩) (fun β b2 hj => .inl ⟨?_, fun k hk hl => ⟨hk, hoth k (fun e => by rw [e, hχ] at hk; injection hk with hk _; omega)⟩⟩) (fun j r' hr => ?_) (fun j g hg => ?_) (fun l => ?_) (fun j => .inl rfl)⟩
  · rwa [upd1_eq, if_neg (by simp only [sl, rl]; omega)] at hx
  · rwa [upd1_eq, if_neg (by simp only [bl, rl]; omega)] at hj
  · by_cases e : j = κ
    · subst e
      rw [upd1_eq, if_pos rfl] at hr
      injection hr with hr; subst hr
      right
      refine ⟨⟨hdeep, hhole, hwid, hpos, .inl hfl, .slice (some ⟨b, 0, none⟩) n cp, splice inner (i * width rt.t + off) us, ?_, ⟨?_, .inr ⟨b, cap, (splice cur.toList (i * width rt.t + off) us).toArray, ?_, hbg, hnew, ?_, hcm, ?_, ?_⟩⟩, hcol, fun j x hx => ?_⟩, hκ⟩
      · show [c.hdr j] = _; rw [hhd]
      · rw [splice_len (by omega), List.length_set]; exact hil
      · rw [List.length_set, ← hnx]; rw [he3]
      · rw [List.length_set]; exact hnc
      · rw [List.size_toArray, splice_len (by omega)]; exact hcl
      · rw [List.length_set, ← hnx]
        have htk' : cur.toList.take (n * width rt.t) = inner := by rw [hnx]; exact htk
        show (splice cur.toList (i * width rt.t + off) us).take (n * width rt.t) = splice inner (i * width rt.t + off) us
        apply List.ext_getElem?
        intro k
        rw [splice_get (by omega), List.getElem?_take, splice_get (by omega), ← htk', List.getElem?_take]
        by_cases hk : k < n * width rt.t
        · rw [if_pos hk, if_pos hk]
        · rw [if_neg hk, if_neg hk, if_neg (by omega)]
      · have hjl : j < rt.xs.length := by have := (List.getElem?_eq_some_iff.1 hx).1; rwa [List.length_set] at this
        have hi : i < rt.xs.length := by omega
        by_cases e : j = i
        · subst e
          rw [List.getElem?_set, if_pos rfl, if_pos hjl] at hx
          injection hx with hx; subst hx
          rw [chunk_same hil' hin hfit]
          have hxi : rt.xs[j]? = some (rt.xs.getD j (dflt rt.t)) := by rw [List.getD_eq_getElem?_getD, List.getElem?_eq_getElem hi]; rfl
          exact flat_Own hfl (hy _ (Own_Rd (fun _ _ _ => trivial) (hel j _ hxi)))
        · rw [List.getElem?_set, if_neg (fun e' => e e'.symm)] at hx
          rw [chunk_other hil' hin hfit e]
          exact flat_any hfl (hel j x hx)
    · left
      rw [upd1_eq, if_neg (by simp only [rl]; omega)] at hr
      exact ⟨hr, if_neg e, fun k q hk hl => ⟨hk, hoth k (fun e' => by rw [e', hχ] at hk; injection hk with hk _; omega)⟩⟩
  · by_cases e : j = κ
    · have : c'.gens j = none := if_pos e
      rw [this] at hg; cases hg
    · have : c'.gens j = c.gens j := if_neg e
      rw [this] at hg
      obtain ⟨r', hr'⟩ := h.live j g hg
      exact ⟨r', by rw [upd1_eq, if_neg (by simp only [rl]; omega)]; exact hr'⟩
  · rw [upd1_eq]
    by_cases e : l = rl κ
    · right; rw [if_pos e]; trivial
    · left; rw [if_neg e]
theorem setLeaf_Rd (h : Rel M N w0 keep f c a w) {v : V} {u : Value} (hv : VR w c v u) : ∀ {t : Ty} {x y : den t} {o : Nat} {cs : List Value}, flat t = true → o < width t → Rd w (fun _ => True) t x cs → setLeaf f t x o v = some y → Rd w (fun _ => True) t y (splice cs o [u])
  | .int _, x, y, o, cs, _, ho, hr, hs => by
    have ho : o = 0 := by simp only [width] at ho; omega
    subst ho
    rw [show cs = _ from hr]; exact packV_ok h hv hs
  | .bool, x, y, o, cs, _, ho, hr, hs => by
    have ho : o = 0 := by simp only [width] at ho; omega
    subst ho
    rw [show cs = _ from hr]; exact packV_ok h hv hs
  | .str, x, y, o, cs, _, ho, hr, hs => by
    have ho : o = 0 := by simp only [width] at ho; omega
    subst ho
    rw [show cs = _ from hr]; exact packV_ok h hv hs
  | .sl _ _, x, y, o, cs, hf, ho, hr, hs => by cases hf
  | .unit, x, y, o, cs, _, ho, hr, hs => by simp [width] at ho
  | .pair p q, x, y, o, cs, hf, ho, ⟨c0, c1, hcs, h0, h1⟩, hs => by
    simp only [flat, Bool.and_eq_true] at hf
    have hl0 := Rd_len h0
    have hl1 := Rd_len h1
    subst hcs
    simp only [setLeaf] at hs
    cases hb : Nat.blt o (width p) with
    | true =>
      rw [hb, cond_true] at hs
      have hb : o < width p := by simpa [Nat.blt_eq] using hb
      split at hs
      · rename_i y' e
        injection hs with hs; subst hs
        refine ⟨splice c0 o [u], c1, ?_, setLeaf_Rd h hv hf.1 hb h0 e, h1⟩
        simp only [splice, List.length_singleton]
        rw [List.take_append_of_le_length (by omega), List.drop_append_of_le_length (by omega), List.append_assoc, List.append_assoc, List.append_assoc]
      · cases hs
    | false =>
      rw [hb, cond_false] at hs
      have hb : width p ≤ o := by
        rcases Nat.lt_or_ge o (width p) with h' | h'
        · have : Nat.blt o (width p) = true := by simpa [Nat.blt_eq] using h'
          rw [this] at hb; cases hb
        · exact h'
      split at hs
      · rename_i y' e
        injection hs with hs; subst hs
        refine ⟨c0, splice c1 (o - width p) [u], ?_, h0, setLeaf_Rd h hv hf.2 (by simp only [width] at ho; omega) h1 e⟩
        simp only [splice, List.length_singleton]
        rw [List.take_append, List.drop_append, List.take_of_length_le (by omega), List.drop_of_length_le (show c0.length ≤ o + 1 by omega), hl0, List.nil_append, show o + 1 - width p = o - width p + 1 by omega, List.append_assoc, List.append_assoc, List.append_assoc]
      · cases hs
theorem setLeaf_okLeaf {v : V} : ∀ {t : Ty} {x y : den t} {o : Nat}, flat t = true → setLeaf f t x o v = some y → okLeaf v = true
  | .int _, x, y, o, _, hs => by cases v <;> first | rfl | cases hs
  | .bool, x, y, o, _, hs => by cases v <;> first | rfl | cases hs
  | .str, x, y, o, _, hs => by cases v <;> first | rfl | cases hs
  | .sl _ _, x, y, o, hf, hs => by cases hf
  | .unit, x, y, o, _, hs => by cases hs
  | .pair p q, x, y, o, hf, hs => by
    simp only [flat, Bool.and_eq_true] at hf
    simp only [setLeaf] at hs
    cases hb : Nat.blt o (width p) with
    | true =>
      rw [hb, cond_true] at hs
      split at hs
      · rename_i y' e; exact setLeaf_okLeaf hf.1 e
      · cases hs
    | false =>
      rw [hb, cond_false] at hs
      split at hs
      · rename_i y' e; exact setLeaf_okLeaf hf.2 e
      · cases hs
theorem does_store (h : Rel M N w0 keep f c a w) (hM : Fr M key) {T : Nat} {x y : Operand} (hdst : o.dst = none) (ho : o.op = .store T x y) (nx : Nat)
    (hk : storeC P f T (evV ⟨f, nx⟩ x) (evS ⟨f, nx⟩ y) k = some r) : Does P o M N w0 keep f key a w k r := by
  have hX := h.evv nx x
  have hY := h.ev nx y
  have hYb := h.evb nx y
  have run : ∀ {w' : World}, (Instr.storeAt T (a.eval x) (a.eval y)).run P w = .ok () w' → (execOp a.eval o).run P w = .ok .skip w' := by
    intro w' hr
    simp [execOp, ho, hr]
  unfold storeC at hk
  cases hpos : Nat.blt 0 (sizeT P T) with
  | false => rw [hpos] at hk; cases hk
  | true =>
    rw [hpos, cond_true] at hk
    have hpos : 0 < sizeT P T := by simpa [Nat.blt_eq] using hpos
    split at hk
    · rename_i β off e
      rw [e] at hX
      have hX : a.eval x = .pointer (some ⟨c.blk β, off, none⟩) := hX
      split at hk
      · rename_i vs eb
        obtain ⟨⟨cs, T', hh, hχ, hall, h1⟩, hβ⟩ := h.boxes β _ eb
        have hfr := h.fresh (bl β)
        rw [eb] at hfr
        cases hc : (Nat.ble (off + sizeT P T) vs.length && (Nat.beq (leavesS (evS ⟨f, nx⟩ y)).length (sizeT P T) && (leavesS (evS ⟨f, nx⟩ y)).all okLeaf)) with
        | false => rw [hc] at hk; cases hk
        | true =>
          rw [hc, cond_true] at hk
          simp only [Bool.and_eq_true] at hc
          obtain ⟨hc1, hc2, hc3⟩ := hc
          have hc1 := Nat.le_of_ble_eq_true hc1
          have hc2 := Nat.eq_of_beq_eq_true hc2
          obtain ⟨us, hus, hall', h1'⟩ := leaves_cells h hY hc3 (by intro e'; rw [e'] at hc2; simp at hc2; omega)
          have hul : us.length = sizeT P T := by rw [← hall'.len, hc2]
          have hcl : vs.length = cs.length := hall.len
          have hr := run_storeAt (P := P) (off := off) hus hul hpos hh (by omega) h1'
          have h' := h.setBox eb hh (b' := .flds (splice vs off (leavesS (evS ⟨f, nx⟩ y)))) (cs := splice cs off us) (.inl ⟨_, rfl, splice_All2 hall hall', fun v hv => (splice_mem hv).elim (hfr v) (fun hv => by
            cases e' : evS ⟨f, nx⟩ y with
            | one q => rw [e'] at hv hYb; rw [show leavesS (.one q) = [q] from rfl, List.mem_singleton] at hv; rw [hv]; exact hYb
            | agg qs => rw [e'] at hv hYb; exact hYb v hv
            | arr t xs => rw [e'] at hv; simp [leavesS] at hv
            | tup cs => rw [e'] at hv; simp [leavesS] at hv), fun u hu => (splice_mem hu).elim (h1 u) (h1' u)⟩)
          refine does_unit hdst (by rfl) ⟨c, ?_⟩ (run (by rw [hX]; exact hr)) hk
          have : vs.take off ++ leavesS (evS ⟨f, nx⟩ y) ++ vs.drop (off + sizeT P T) = splice vs off (leavesS (evS ⟨f, nx⟩ y)) := by unfold splice; rw [hc2]
          rw [show upds f [(bl β, Val.box (.flds (vs.take off ++ leavesS (evS ⟨f, nx⟩ y) ++ vs.drop (off + sizeT P T))))] = upd1 f (bl β) (.box (.flds (vs.take off ++ leavesS (evS ⟨f, nx⟩ y) ++ vs.drop (off + sizeT P T)))) from rfl, this]
          exact h'.mono Le.un
      · rename_i t xs eb
        obtain ⟨⟨T', hh, hχ, hsc⟩, hβ⟩ := h.boxes β _ eb
        split at hk
        · rename_i t' ys ey
          cases hc : Nat.beq off 0 with
          | false => rw [hc] at hk; cases hk
          | true =>
            rw [hc, cond_true] at hk
            have hc := Nat.eq_of_beq_eq_true hc
            subst hc
            split at hk
            · rename_i zs ez
              split at hk
              · rename_i hz
                rw [ey] at hY
                obtain ⟨hsc', hY⟩ := hY
                obtain ⟨het, hez⟩ := castTo_some ez
                injection het with _ het
                subst het
                have hez : zs = ys := hez
                subst hez
                have hus : (a.eval y).cells.toList = zs.map (encF t') := by rw [hY]; simp [Value.cells]
                have hoc : ∀ u ∈ zs.map (encF t'), u.oneCell' = true := by
                  intro u hu
                  simp only [List.mem_map] at hu
                  obtain ⟨q, _, rfl⟩ := hu
                  cases t' <;> simp [scal] at hsc <;> rfl
                have hr := run_storeAt (P := P) (off := 0) (cur := xs.map (encF t')) hus (by rw [List.length_map]; omega) hpos hh (by rw [List.length_map, List.length_map]; omega) hoc
                have hsp : splice (xs.map (encF t')) 0 (zs.map (encF t')) = zs.map (encF t') := by
                  unfold splice
                  rw [List.take_zero, List.nil_append, List.drop_of_length_le (by rw [List.length_map, List.length_map]; omega), List.append_nil]
                rw [hsp] at hr
                have h' := h.setBox eb hh (b' := .arr t' zs) (cs := zs.map (encF t')) (.inr ⟨_, _, rfl, hsc, rfl⟩)
                exact does_unit hdst (by rfl) ⟨c, h'.mono Le.un⟩ (run (by rw [hX]; exact hr)) hk
              · cases hk
            · cases hk
        · cases hk
      · cases hk
    · rename_i β i e
      rw [e] at hX
      have hX : a.eval x = .pointer (some ⟨c.blk β, i, none⟩) := hX
      split at hk
      · rename_i t xs eb
        obtain ⟨⟨T', hh, hχ, hsc⟩, hβ⟩ := h.boxes β _ eb
        cases hc : Nat.beq (sizeT P T) 1 with
        | false => rw [hc] at hk; cases hk
        | true =>
          rw [hc, cond_true] at hk
          have hc := Nat.eq_of_beq_eq_true hc
          split at hk
          · rename_i z ez
            split at hk
            · rename_i hi
              obtain ⟨q, eq⟩ : ∃ q, leavesS (evS ⟨f, nx⟩ y) = [q] := by
                cases hl : leavesS (evS ⟨f, nx⟩ y) with
                | nil => rw [hl] at ez; cases t <;> simp [scal] at hsc <;> cases ez
                | cons q qs => cases qs with
                  | nil => exact ⟨q, rfl⟩
                  | cons _ _ => rw [hl] at ez; cases t <;> simp [scal] at hsc <;> cases ez
              have hok : okLeaf q = true := by
                rw [eq] at ez
                cases t <;> simp [scal] at hsc <;> · cases q <;> first | rfl | cases ez
              obtain ⟨us, hus, hall', h1'⟩ := leaves_cells h hY (by rw [eq]; simp [hok]) (by rw [eq]; simp)
              have hrd := packs_ok h hall' ez
              have hus1 : us = [encF t z] := by cases t <;> simp [scal] at hsc <;> exact hrd
              subst hus1
              have hr := run_storeAt (P := P) (off := i) (cur := xs.map (encF t)) hus (by rw [hc]; rfl) hpos hh (by rw [List.length_map]; simp; omega) h1'
              have hsp : splice (xs.map (encF t)) i [encF t z] = (xs.set i z).map (encF t) := by
                apply List.ext_getElem?
                intro k
                rw [splice_get (by rw [List.length_map]; simp; omega), List.getElem?_map, List.getElem?_map, List.getElem?_set]
                by_cases hk : i = k
                · subst hk; simp [hi]
                · rw [if_neg (by simp only [List.length_singleton]; omega), if_neg hk]
              rw [hsp] at hr
              have h' := h.setBox eb hh (b' := .arr t (xs.set i z)) (cs := (xs.set i z).map (encF t)) (.inr ⟨_, _, rfl, hsc, rfl⟩)
              exact does_unit hdst (by rfl) ⟨c, h'.mono Le.un⟩ (run (by rw [hX]; exact hr)) hk
            · cases hk
          · cases hk
      · cases hk
    · rename_i κ i off e
      rw [e] at hX
      obtain ⟨b, n, cp, hhd, hin, hp⟩ := hX
      split at hk
      · rename_i rt er
        have hwid : c.wid κ = width rt.t := (h.roots κ rt er).1.2.2.1
        rw [hwid] at hp
        cases hfl : flat rt.t with
        | false => rw [hfl] at hk; cases hk
        | true =>
          rw [hfl, cond_true] at hk
          split at hk
          · rename_i v ev
            rw [ev] at hY
            have hY : VR w c v (a.eval y) := hY
            cases hc : (Nat.blt off (width rt.t) && Nat.beq (sizeT P T) 1) with
            | false => rw [hc] at hk; cases hk
            | true =>
              rw [hc, cond_true] at hk
              simp only [Bool.and_eq_true] at hc
              have hc1 : off < width rt.t := by simpa [Nat.blt_eq] using hc.1
              have hc2 := Nat.eq_of_beq_eq_true hc.2
              split at hk
              · rename_i z ez
                obtain ⟨cur, T', hh, hfit, c', h'⟩ := h.setElem er hfl hhd hin (off := off) (us := [a.eval y]) (by simp; omega) (y := z) (fun cs hcs => setLeaf_Rd h hY hfl hc1 hcs ez)
                have hok : okLeaf v = true := setLeaf_okLeaf hfl ez
                have h1 := VR_oneCell h hok hY
                have hus : (a.eval y).cells.toList = [a.eval y] := by
                  cases hv : a.eval y <;> first | rfl | (rw [hv] at h1; simp [Value.oneCell'] at h1)
                have hr := run_storeAt (P := P) (off := i * width rt.t + off) hus (by rw [hc2]; rfl) hpos hh (by omega) (fun u hu => by rw [List.mem_singleton] at hu; rw [hu]; exact h1)
                exact does_unit hdst (by rfl) ⟨c', h'.mono Le.un⟩ (run (by rw [hp]; exact hr)) hk
              · cases hk
          · rename_i vs ev
            cases hc : (Nat.beq off 0 && Nat.beq (sizeT P T) (width rt.t)) with
            | false => rw [hc] at hk; cases hk
            | true =>
              rw [hc, cond_true] at hk
              simp only [Bool.and_eq_true] at hc
              have hc1 := Nat.eq_of_beq_eq_true hc.1
              have hc2 := Nat.eq_of_beq_eq_true hc.2
              subst hc1
              split at hk
              · rename_i z ez
                rw [ev] at hY
                obtain ⟨us, hval, hall⟩ := hY
                have hrd := packs_ok h hall ez
                have hul := Rd_len hrd
                obtain ⟨cur, T', hh, hfit, c', h'⟩ := h.setElem er hfl hhd hin (off := 0) (us := us) (by omega) (y := z) (fun cs hcs => by
                  have : splice cs 0 us = us := by
                    unfold splice
                    rw [List.take_zero, List.nil_append, List.drop_of_length_le (by rw [Rd_len hcs]; omega), List.append_nil]
                  rw [this]; exact hrd)
                have hr := run_storeAt (P := P) (off := i * width rt.t) (v := a.eval y) (us := us) (by rw [hval]; simp [Value.cells]) (by omega) hpos hh (by omega) (fun u hu => Rd_one hrd u hu)
                exact does_unit hdst (by rfl) ⟨c', h'.mono Le.un⟩ (run (by rw [hp, Nat.add_zero]; exact hr)) hk
              · cases hk
          · cases hk
      · cases hk
    · cases hk
end
end Go.Proofs.Ytlkjkhmifhmjbaa.V
