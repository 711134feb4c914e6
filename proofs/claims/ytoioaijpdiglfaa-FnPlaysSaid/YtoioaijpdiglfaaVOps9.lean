/- store. -/
import Derived.Test.YtoioaijpdiglfaaVOps8
import Derived.Laws.CopyRow
set_option linter.unusedVariables false
set_option linter.unusedSimpArgs false
namespace Go.Proofs.Ytoioaijpdiglfaa.V
open Go Go.RowKit
section
variable {P : Program} {o : Oper} {M M' : Nat → Prop} {N key κ : Nat} {w0 w w' : World} {keep : Kp} {f : Nat → Val} {c : Ctx} {a : Act} {R : Type} {k : Wr → Option R} {r : R}
theorem does_unit {u : Wr} {f' : Nat → Val} (hdst : o.dst = none) (hf : upds f u = f') (h' : ∃ c', Rel (Un M key) N w0 keep f' c' a w') (hrun : (execOp a.eval o).run P w = .ok .skip w') (hk : k u = some r) : Does P o M N w0 keep f key a w k r := by
  intro next Q hn
  show o.upon P a next Q _
  rw [hrun]
  obtain ⟨c', h'⟩ := h'
  subst hf
  have hp : a.put o.dst undef = a := by rw [hdst]; rfl
  show next (a.put o.dst undef) w'
  rw [hp]
  exact hn u c' a w' hk h'
theorem run_storeAt {T b off : Nat} {v : Value} {us : List Value} {cur : List Value} {t : TypeId} (hus : v.cells.toList = us) (hs : us.length = sizeT P T) (hpos : 0 < sizeT P T) (hg : w.heap[b]? = some (.cells cur.toArray t (0, 0))) (hfit : off + us.length ≤ cur.length) (h1 : ∀ u ∈ us, u.oneCell' = true) :
    (Instr.storeAt T (.pointer (some ⟨b, off, none⟩)) v).run P w = .ok () (w.setRow b (splice cur off us).toArray) := by
  have := run_storeCells_at (P := P) b off t us 0 cur.toArray w hg (by simpa using hfit) h1
  have hi : ∃ i, P.info? T = some i := by
    cases e : P.info? T with
    | none => unfold sizeT at hpos; rw [e] at hpos; simp at hpos
    | some i => exact ⟨i, rfl⟩
  obtain ⟨i, hi⟩ := hi
  have hsz : v.cells.size = sizeT P T := by rw [← hs, ← hus, Array.length_toList]
  simp only [Instr.storeAt, Instr.sureAddr, Sem.run_bind, Sem.run_pure, Result.andThen_ok, storeVar, run_size hi, hsz, ne_eq, not_true_eq_false, if_false, hus, this]
  simp [splice]
/-- A box is written. -/
theorem Rel.setBox (h : Rel M N w0 keep f c a w) {β : Nat} {b b' : Box} (hb : f (bl β) = .box b) {cs cur : List Value} {T : TypeId} (hcur : w.heap[c.blk β]? = some (.cells cur.toArray T (0, 0)))
    (hbx : (∃ vs, b' = .flds vs ∧ All2 (VR w c) vs cs ∧ (∀ v ∈ vs, vB M v) ∧ ∀ u ∈ cs, u.oneCell' = true) ∨ ∃ t xs, b' = .arr t xs ∧ scal t = true ∧ cs = xs.map (encF t)) :
    Rel M N w0 keep (upd1 f (bl β) (.box b')) c a (w.setRow (c.blk β) cs.toArray) := by
  obtain ⟨hB, hβ⟩ := h.boxes β b hb
  have hχ : c.χ (c.blk β) = [0, β] := by
    cases b with
    | flds vs => obtain ⟨_, _, _, h2, _⟩ := hB; exact h2
    | arr t xs => obtain ⟨_, _, h2, _⟩ := hB; exact h2
  have hoth : ∀ k, k ≠ c.blk β → (w.setRow (c.blk β) cs.toArray).heap[k]? = w.heap[k]? := fun k hk => setRow_other w _ _ _ hk
  have hst : Stays M w c (w.setRow (c.blk β) cs.toArray) c := h.stays (fun _ => False) (fun j => j = β) (by simp) (fun k _ hk => rfl)
    (fun k hl _ h2 => hoth k (fun e => h2 β [] (by rw [e, hχ]) rfl)) (fun _ _ => ⟨rfl, rfl⟩) (fun _ _ => rfl) (fun _ _ hf => hf.elim) (fun _ _ _ => rfl)
  have hnew := setRow_heap w (c.blk β) cur.toArray cs.toArray T (0, 0) hcur
  refine h.next Le.rfl' hst h.size h.defers (fun _ _ _ => rfl) rfl rfl rfl (fun t x hx => .inl ⟨?_, rfl⟩) (fun j b2 hj => ?_) (fun j r' hr => .inl ⟨?_, rfl, fun k q hk hl => ⟨hk, hoth k (fun e => by rw [e, hχ] at hk; injection hk with hk _; omega)⟩⟩) (fun j g hg => ?_) (fun l => ?_) (fun j => .inl rfl) (fun j x hx => .inl (by rwa [upd1_eq, if_neg (by simp only [rl, bl]; omega)] at hx))
  · rwa [upd1_eq, if_neg (by simp only [sl, bl]; omega)] at hx
  · by_cases e : j = β
    · subst e
      rw [upd1_eq, if_pos rfl] at hj
      injection hj with hj; subst hj
      right
      refine ⟨?_, hβ⟩
      rcases hbx with ⟨vs, rfl, h1, h2, h3⟩ | ⟨t, xs, rfl, h1, h2⟩
      · exact ⟨cs, T, hnew, hχ, h1.imp fun v u hv => VR_stays hst (h2 v hv), h3⟩
      · exact ⟨T, by rw [← h2]; exact hnew, hχ, h1⟩
    · left
      rw [upd1_eq, if_neg (by simp only [bl]; omega)] at hj
      exact ⟨hj, fun k hk hl => ⟨hk, hoth k (fun e' => by rw [e', hχ] at hk; injection hk with _ hk; injection hk with hk _; exact e hk.symm)⟩⟩
  · rwa [upd1_eq, if_neg (by simp only [rl, bl]; omega)] at hr
  · obtain ⟨r', hr'⟩ := h.live j g hg
    exact ⟨r', by rw [upd1_eq, if_neg (by simp only [rl, bl]; omega)]; exact hr'⟩
  · rw [upd1_eq]
    by_cases e : l = bl β
    · right
      rw [if_pos e]
      rcases hbx with ⟨vs, rfl, _, h2, _⟩ | ⟨t, xs, rfl, _⟩
      · exact h2
      · trivial
    · left; rw [if_neg e]
theorem splice_same {α : Type} {l us vs : List α} {p : Nat} (hl : us.length = vs.length) (h : p + us.length ≤ l.length) : splice (splice l p us) p vs = splice l p vs := by
  apply List.ext_getElem?
  intro k
  rw [splice_get (by rw [splice_len h]; omega), splice_get h, splice_get (by omega)]
  by_cases hk : p ≤ k ∧ k < p + vs.length
  · rw [if_pos hk, if_pos hk]
  · rw [if_neg hk, if_neg hk, if_neg (by omega)]
/-- A root's own row is written in a part; ks: roots that were laid into it. -/
theorem Rel.setRow (h : Rel M N w0 keep f c a w) {κ n cp b p : Nat} {rt : Root} (er : f (rl κ) = .root rt) (hhd : c.hdr κ = .slice (some ⟨b, 0, none⟩) n cp) {us : List Value} (hfit : p + us.length ≤ n * width rt.t)
    {xs' : List (den rt.t)} (hxl : xs'.length = rt.xs.length) (gen' : Nat) (hole' : Option Nat) (hgen : flat rt.t = true ∨ rt.gen < gen') (hhole : ∀ q, hole' = some q → rt.deep = true) (ks : List Nat) (ρ : List Nat → List Nat) (hκk : κ ∉ ks)
    (hρ : ∀ q, (∀ κ0 r, q = (κ0 + 1) :: r → κ0 ∉ ks) → ρ q = q)
    (hel : ∀ (inner : List Value) (w' : World) (χ' : Nat → List Nat), inner.length = n * width rt.t → (∀ (j : Nat) (x : den rt.t), rt.xs[j]? = some x → El w c.χ rt.deep rt.t [κ + 1, j] x (((holed inner rt.hole).drop (j * width rt.t)).take (width rt.t))) →
      (∀ q, q < w.heap.size → c.χ q ≠ [κ + 1] → w'.heap[q]? = w.heap[q]?) → (∀ q, q < w.heap.size → χ' q = ρ (c.χ q)) → ∀ (j : Nat) (x : den rt.t), xs'[j]? = some x → El w' χ' rt.deep rt.t [κ + 1, j] x (((holed (splice inner p us) hole').drop (j * width rt.t)).take (width rt.t))) :
    ∃ cur T, w.heap[b]? = some (.cells (cur : List Value).toArray T (0, 0)) ∧ p + us.length ≤ cur.length ∧ ∃ c', Rel M N w0 keep (upd1 (upds f (dropKeys ks)) (rl κ) (.root { rt with xs := xs', gen := gen', hole := hole' })) c' a (w.setRow b (splice cur p us).toArray) := by
  obtain ⟨⟨hwid, hpos, hnop, hgenr, hholer, v, inner, hv, hown, hcol, helr⟩, hκ⟩ := h.roots κ rt er
  rw [hhd] at hv
  subst hv
  obtain ⟨hil, hr⟩ := hown
  rcases hr with ⟨he, _⟩ | ⟨g, cap, cur, he, hbg, hh, hnc, hcm, hcs, htk⟩
  · cases he
  injection he with he1 he2 he3
  injection he1 with he1
  injection he1 with he1 _ _
  have hil' : inner.length = n * width rt.t := by rw [he2]; exact hil
  have hnx : n = rt.xs.length := he2
  subst he1
  have hcl : cur.toList.length = cap * width rt.t := by rw [Array.length_toList]; exact hcs
  have hnw : n * width rt.t ≤ cap * width rt.t := Nat.mul_le_mul_right _ (by omega)
  refine ⟨cur.toList, _, by rw [Array.toArray_toList]; exact hh, by omega, ?_⟩
  have hχ : c.χ b = [κ + 1] := hcol b rfl
  have hoth : ∀ k, k ≠ b → (w.setRow b (splice cur.toList p us).toArray).heap[k]? = w.heap[k]? := fun k hk => setRow_other w _ _ _ hk
  have hnew := setRow_heap w b cur (splice cur.toList p us).toArray _ (0, 0) hh
  let c' : Ctx := { c with χ := fun q => ρ (c.χ q), gens := fun j => if j = κ then (if flat rt.t = true then none else some gen') else if j ∈ ks then none else c.gens j }
  have hf : ∀ l, l ≠ rl κ → (∀ κ0 ∈ ks, l ≠ rl κ0) → upd1 (upds f (dropKeys ks)) (rl κ) (.root { rt with xs := xs', gen := gen', hole := hole' }) l = f l := fun l h1 h2 => by
    rw [upd1_eq, if_neg h1, upds_drop, if_neg]
    rintro ⟨j, hj, e⟩; exact h2 j hj e
  have hsame : upd1 (upds f (dropKeys ks)) (rl κ) (.root { rt with xs := xs', gen := gen', hole := hole' }) (rl κ) = .root { rt with xs := xs', gen := gen', hole := hole' } := by rw [upd1_eq, if_pos rfl]
  have hgone : ∀ κ0, κ0 ∈ ks → κ0 ≠ κ → upd1 (upds f (dropKeys ks)) (rl κ) (.root { rt with xs := xs', gen := gen', hole := hole' }) (rl κ0) = .none := fun κ0 hx hne => by
    rw [upd1_eq, if_neg (by simp only [rl]; omega), upds_drop, if_pos ⟨κ0, hx, rfl⟩]
  have hks : ∀ (j : Nat), j ∉ ks → ∀ κ0 ∈ ks, rl j ≠ rl κ0 := fun j hj κ0 h1 e => hj (by simp only [rl] at e; have : j = κ0 := by omega
                                                                                         rw [this]; exact h1)
  refine ⟨c', h.reroot Le.rfl' (fun j => j = κ ∨ j ∈ ks) (by simp) rfl rfl rfl (fun q hl hq => ⟨hρ _ (fun κ0 r e hm => hq κ0 r e (.inr hm)), hoth q (fun e => hq κ [] (by rw [e, hχ]) (.inl rfl))⟩) (fun _ _ => ⟨rfl, rfl⟩) rfl (fun j hj hXj g' hg' => ?_) (fun j hj hXj => ?_) (fun l hl => hf l (fun e => by rw [e] at hl; simp only [rl] at hl; omega) (fun κ0 _ e => by rw [e] at hl; simp only [rl] at hl; omega)) (fun j r' hr => ?_) (fun j g' hg' => ?_) (fun j => ?_) (fun j => .inl rfl)⟩
  · have hg' : (if j = κ then (if flat rt.t = true then none else some gen') else if j ∈ ks then none else c.gens j) = some g' := hg'
    by_cases e : j = κ
    · rw [if_pos e] at hg'
      by_cases hfl : flat rt.t = true
      · rw [if_pos hfl] at hg'; cases hg'
      · rw [if_neg hfl] at hg'
        injection hg' with hg'
        have := hgen.resolve_left hfl
        refine ⟨rt.gen, by rw [e]; exact hgenr.resolve_left hfl, by omega, fun e' => by omega⟩
    · rw [if_neg e, if_pos (hXj.resolve_left e)] at hg'; cases hg'
  · show (if j = κ then _ else _) = _
    rw [if_neg (fun e => hXj (.inl e)), if_neg (fun e => hXj (.inr e))]
  · by_cases e1 : j = κ
    · subst e1
      rw [hsame] at hr
      injection hr with hr
      subst hr
      right
      refine ⟨⟨hwid, hpos, hnop, ?_, hhole, .slice (some ⟨b, 0, none⟩) n cp, splice inner p us, hhd, ⟨?_, .inr ⟨b, cap, (splice cur.toList p us).toArray, ?_, hbg, hnew, ?_, hcm, ?_, ?_⟩⟩, fun q hq => ?_, hel inner _ _ hil' helr (fun q hl hne => hoth q (fun e => hne (by rw [e]; exact hχ))) (fun q hl => rfl)⟩, hκ⟩
      · by_cases hfl : flat rt.t = true
        · exact .inl hfl
        · right
          show (if j = j then _ else _) = _
          rw [if_pos rfl, if_neg hfl]
      · show (splice inner p us).length = xs'.length * width rt.t
        rw [splice_len (by omega), hxl, hil', hnx]
      · show _ = Value.slice _ xs'.length cap
        rw [hxl, ← hnx, he3]
      · show xs'.length ≤ cap
        rw [hxl]; exact hnc
      · rw [List.size_toArray, splice_len (by omega)]; exact hcl
      · show (splice cur.toList p us).take (xs'.length * width rt.t) = splice inner p us
        rw [hxl, ← hnx]
        have htk' : cur.toList.take (n * width rt.t) = inner := by rw [hnx]; exact htk
        apply List.ext_getElem?
        intro k
        rw [splice_get (by omega), List.getElem?_take, splice_get (by omega), ← htk', List.getElem?_take]
        by_cases hk : k < n * width rt.t
        · rw [if_pos hk, if_pos hk]
        · rw [if_neg hk, if_neg hk, if_neg (by omega)]
      · show ρ (c.χ q) = _
        have hq : b = q := by simpa [Value.ownBlock] using hq
        rw [← hq, hχ]
        exact hρ _ (fun κ0 r e hm => by
          injection e with e _
          have : κ0 = j := by omega
          exact hκk (by rw [← this]; exact hm))
    · by_cases e2 : j ∈ ks
      · rw [hgone j e2 e1] at hr; cases hr
      · left
        rw [hf _ (by simp only [rl]; omega) (hks j e2)] at hr
        exact ⟨hr, fun e => e.elim e1 e2⟩
  · have hg' : (if j = κ then (if flat rt.t = true then none else some gen') else if j ∈ ks then none else c.gens j) = some g' := hg'
    by_cases e1 : j = κ
    · subst e1; exact ⟨_, hsame⟩
    · rw [if_neg e1] at hg'
      by_cases e2 : j ∈ ks
      · rw [if_pos e2] at hg'; cases hg'
      · rw [if_neg e2] at hg'
        obtain ⟨r', hr'⟩ := h.live j g' hg'
        exact ⟨r', by rw [hf _ (by simp only [rl]; omega) (hks j e2)]; exact hr'⟩
  · by_cases e1 : j = κ
    · right; left; rw [e1, hsame]; trivial
    · by_cases e2 : j ∈ ks
      · right; left; rw [hgone j e2 e1]; trivial
      · left; exact hf _ (by simp only [rl]; omega) (hks j e2)
/-- A flat root's element is written. -/
theorem Rel.setElem (h : Rel M N w0 keep f c a w) {κ i off n cp b : Nat} {rt : Root} (er : f (rl κ) = .root rt) (hh : rt.hole = none) (hfl : flat rt.t = true) (hhd : c.hdr κ = .slice (some ⟨b, 0, none⟩) n cp) (hin : i < n) {us : List Value} (hfit : off + us.length ≤ width rt.t) {y : den rt.t}
    (hy : ∀ cs, Rd w (fun _ => True) rt.t (rt.xs.getD i (dflt rt.t)) cs → Rd w (fun _ => True) rt.t y (splice cs off us)) :
    ∃ cur T, w.heap[b]? = some (.cells (cur : List Value).toArray T (0, 0)) ∧ i * width rt.t + off + us.length ≤ cur.length ∧ ∃ c', Rel M N w0 keep (upd1 f (rl κ) (.root { rt with xs := rt.xs.set i y })) c' a (w.setRow b (splice cur (i * width rt.t + off) us).toArray) := by
  have hiw : i * width rt.t + width rt.t ≤ n * width rt.t := by rw [← Nat.succ_mul]; exact Nat.mul_le_mul_right _ hin
  obtain ⟨cur, T, h1, h2, c', h3⟩ := h.setRow er hhd (p := i * width rt.t + off) (us := us) (by omega) (xs' := rt.xs.set i y) (by rw [List.length_set]) rt.gen none (.inl hfl) (fun _ e => by cases e) [] id (by simp) (fun _ _ => rfl) (fun inner w' χ' hil helr _ _ j x hx => by
    rw [hh] at helr
    have hjl : j < rt.xs.length := by have := (List.getElem?_eq_some_iff.1 hx).1; rwa [List.length_set] at this
    show El w' χ' rt.deep rt.t [κ + 1, j] x (((splice inner (i * width rt.t + off) us).drop (j * width rt.t)).take (width rt.t))
    by_cases e : j = i
    · subst e
      rw [List.getElem?_set, if_pos rfl, if_pos hjl] at hx
      injection hx with hx; subst hx
      rw [chunk_same hil hin hfit]
      have hxi : rt.xs[j]? = some (rt.xs.getD j (dflt rt.t)) := by rw [List.getD_eq_getElem?_getD, List.getElem?_eq_getElem hjl]; rfl
      exact flat_El hfl (hy _ (El_any (helr j _ hxi)))
    · rw [List.getElem?_set, if_neg (fun e' => e e'.symm)] at hx
      rw [chunk_other hil hin hfit e]
      exact flat_El hfl (El_any (helr j x hx)))
  refine ⟨cur, T, h1, h2, c', ?_⟩
  have e : ({ rt with xs := rt.xs.set i y } : Root) = { rt with xs := rt.xs.set i y, gen := rt.gen, hole := none } := by rw [← hh]
  rw [e]; exact h3
/-- Roots that are laid into an element of a deep root: their new colours. -/
def layElem (κ i : Nat) (t : Ty) (off : Nat) (vs : List V) : List Nat → List Nat
  | (m + 1) :: r => match posOwn m vs off with
    | some o => [κ + 1, i] ++ (lp t o ++ r)
    | none => (m + 1) :: r
  | q => q
theorem layElem_id {κ i off : Nat} {t : Ty} {vs : List V} {q : List Nat} (h : ∀ κ0 r, q = (κ0 + 1) :: r → κ0 ∉ ownKeys vs) : layElem κ i t off vs q = q := by
  unfold layElem
  split
  · rename_i m r
    rw [posOwn_none (h m r rfl)]
  · rfl
theorem holed_other {inner : List Value} {hole : Option Nat} {i off n wd j : Nat} (hl : inner.length = n * wd) (hi : i < n) (ho : off < wd) (hh : ∀ q, hole = some q → q = i * wd + off) (hne : j ≠ i) : ((holed inner hole).drop (j * wd)).take wd = (inner.drop (j * wd)).take wd := by
  cases hole with
  | none => rfl
  | some q =>
    rw [hh q rfl]
    exact chunk_other hl hi (by rw [List.length_singleton]; omega) hne
theorem setLeaf_Rd (h : Rel M N w0 keep f c a w) {v : V} {u : Value} (hv : VR w c v u) : ∀ {t : Ty} {x y : den t} {o : Nat} {cs : List Value}, flat t = true → o < width t → Rd w (fun _ => True) t x cs → setLeaf f t x o v = some y → Rd w (fun _ => True) t y (splice cs o [u])
  | .int _, x, y, o, cs, _, ho, hr, hs => by
    have ho : o = 0 := by simp only [width] at ho; omega
    subst ho
    rw [show cs = _ from hr]; exact packV_ok h hv hs
  | .bool, x, y, o, cs, _, ho, hr, hs => by
    have ho : o = 0 := by simp only [width] at ho; omega
    subst ho
    rw [show cs = _ from hr]; exact packV_ok h hv hs
  | .str, x, y, o, cs, _, ho, hr, hs => by
    have ho : o = 0 := by simp only [width] at ho; omega
    subst ho
    rw [show cs = _ from hr]; exact packV_ok h hv hs
  | .sl _ _, x, y, o, cs, hf, ho, hr, hs => by cases hf
  | .unit, x, y, o, cs, _, ho, hr, hs => by simp [width] at ho
  | .ptr _ _, x, y, o, cs, hf, ho, hr, hs => by cases hf
  | .pair p q, x, y, o, cs, hf, ho, ⟨c0, c1, hcs, h0, h1⟩, hs => by
    simp only [flat, Bool.and_eq_true] at hf
    have hl0 := Rd_len h0
    have hl1 := Rd_len h1
    subst hcs
    simp only [setLeaf] at hs
    cases hb : Nat.blt o (width p) with
    | true =>
      rw [hb, cond_true] at hs
      have hb : o < width p := by simpa [Nat.blt_eq] using hb
      split at hs
      · rename_i y' e
        injection hs with hs; subst hs
        refine ⟨splice c0 o [u], c1, ?_, setLeaf_Rd h hv hf.1 hb h0 e, h1⟩
        simp only [splice, List.length_singleton]
        rw [List.take_append_of_le_length (by omega), List.drop_append_of_le_length (by omega), List.append_assoc, List.append_assoc, List.append_assoc]
      · cases hs
    | false =>
      rw [hb, cond_false] at hs
      have hb : width p ≤ o := by
        rcases Nat.lt_or_ge o (width p) with h' | h'
        · have : Nat.blt o (width p) = true := by simpa [Nat.blt_eq] using h'
          rw [this] at hb; cases hb
        · exact h'
      split at hs
      · rename_i y' e
        injection hs with hs; subst hs
        refine ⟨c0, splice c1 (o - width p) [u], ?_, h0, setLeaf_Rd h hv hf.2 (by simp only [width] at ho; omega) h1 e⟩
        simp only [splice, List.length_singleton]
        rw [List.take_append, List.drop_append, List.take_of_length_le (by omega), List.drop_of_length_le (show c0.length ≤ o + 1 by omega), hl0, List.nil_append, show o + 1 - width p = o - width p + 1 by omega, List.append_assoc, List.append_assoc, List.append_assoc]
      · cases hs
theorem setLeaf_okLeaf {v : V} : ∀ {t : Ty} {x y : den t} {o : Nat}, flat t = true → setLeaf f t x o v = some y → okLeaf v = true
  | .int _, x, y, o, _, hs => by cases v <;> first | rfl | cases hs
  | .bool, x, y, o, _, hs => by cases v <;> first | rfl | cases hs
  | .str, x, y, o, _, hs => by cases v <;> first | rfl | cases hs
  | .sl _ _, x, y, o, hf, hs => by cases hf
  | .unit, x, y, o, _, hs => by cases hs
  | .ptr _ _, x, y, o, hf, hs => by cases hf
  | .pair p q, x, y, o, hf, hs => by
    simp only [flat, Bool.and_eq_true] at hf
    simp only [setLeaf] at hs
    cases hb : Nat.blt o (width p) with
    | true =>
      rw [hb, cond_true] at hs
      split at hs
      · rename_i y' e; exact setLeaf_okLeaf hf.1 e
      · cases hs
    | false =>
      rw [hb, cond_false] at hs
      split at hs
      · rename_i y' e; exact setLeaf_okLeaf hf.2 e
      · cases hs
/-- A cell of a row inside a deep root is written. -/
theorem Rel.setInner (h : Rel M N w0 keep f c a w) {κ i oo j : Nat} {rt : Root} (er : f (rl κ) = .root rt) (hh : rt.hole = none) (hd : rt.deep = true) {e : Nat} {t : Ty} {xs : List (den t)} (el : leafV rt.t (rt.xs.getD i (dflt rt.t)) oo = .dat e t xs) (hs : scal t = true)
    {b n cp b' n' cp' : Nat} (hhd : c.hdr κ = .slice (some ⟨b, 0, none⟩) n cp) (hin : i < n) (hoo : oo < c.wid κ) (hcell : w.cell? ⟨b, i * c.wid κ + oo, none⟩ = some (.slice (some ⟨b', 0, none⟩) n' cp')) (hj : j < xs.length) {u : Value} {y : den t} (hy : Rd w (fun _ => True) t y [u])
    {z : den rt.t} (hz : setLeaf f rt.t (rt.xs.getD i (dflt rt.t)) oo (.dat e t (xs.set j y)) = some z) :
    ∃ cur T, w.heap[b']? = some (.cells (cur : List Value).toArray T (0, 0)) ∧ j + 1 ≤ cur.length ∧ Rel M N w0 keep (upd1 f (rl κ) (.root { rt with xs := rt.xs.set i z })) c a (w.setRow b' (splice cur j [u]).toArray) := by
  have hRow := row_own h er hh hd el hhd hin hoo hcell
  obtain ⟨hi, v, inner2, hv2, hown2, hcol2, hel2⟩ := hRow
  have hv2 : Value.slice (some ⟨b', 0, none⟩) n' cp' = v := by simpa using hv2
  subst hv2
  have hw1 : width t = 1 := by cases t <;> first | rfl | (simp [scal] at hs)
  have hflt : flat t = true := by cases t <;> first | rfl | (simp [scal] at hs)
  obtain ⟨⟨hwid, hpos, hnop, hgenr, hholer, vr, innr, hvr, hownr, hcolr, helr⟩, hκ⟩ := h.roots κ rt er
  rw [hh, hd] at helr
  rw [hhd] at hvr
  subst hvr
  have hgk := gens_ok h er el
  have hnx : n = rt.xs.length := by obtain ⟨_, _, he, _⟩ := ownsRow_slice hownr; injection he
  have hlenr : innr.length = n * width rt.t := by rw [hnx]; exact hownr.1
  have hb'col : c.χ b' = [κ + 1, i] ++ lp rt.t oo := hcol2 b' rfl
  obtain ⟨hil2, hr2⟩ := hown2
  rcases hr2 with ⟨he, _⟩ | ⟨g, cap, cur, he, hbg, hbh, hnc, hcm, hcs, htk⟩
  · cases he
  injection he with he1 he2 he3
  injection he1 with he1
  injection he1 with he1 _ _
  subst he1
  rw [hw1, Nat.mul_one] at hil2 hcs htk
  have hcl : cur.toList.length = cap := by rw [Array.length_toList]; exact hcs
  have hj2 : j + 1 ≤ inner2.length := by rw [hil2]; exact hj
  refine ⟨cur.toList, _, by rw [Array.toArray_toList]; exact hbh, by omega, ?_⟩
  have hoth : ∀ k, k ≠ b' → (w.setRow b' (splice cur.toList j [u]).toArray).heap[k]? = w.heap[k]? := fun k hk => setRow_other w _ _ _ hk
  have hnew := setRow_heap w b' cur (splice cur.toList j [u]).toArray _ (0, 0) hbh
  have hf : ∀ l, l ≠ rl κ → upd1 f (rl κ) (.root { rt with xs := rt.xs.set i z }) l = f l := fun l h1 => by rw [upd1_eq, if_neg h1]
  have hsame : upd1 f (rl κ) (.root { rt with xs := rt.xs.set i z }) (rl κ) = .root { rt with xs := rt.xs.set i z } := by rw [upd1_eq, if_pos rfl]
  have hne' : ∀ q (col : List Nat), c.χ q = col → col ≠ [κ + 1, i] ++ lp rt.t oo → q ≠ b' := fun q col hq hne e => hne (by rw [← hq, e]; exact hb'col)
  refine h.reroot Le.rfl' (fun j => j = κ) (by simp) rfl rfl rfl (fun q hl hq => ⟨rfl, hoth q (fun e => hq κ (i :: lp rt.t oo) (by rw [e]; exact hb'col) rfl)⟩) (fun _ _ => ⟨rfl, rfl⟩) rfl (fun jj hj' hXj g' hg' => ?_) (fun _ _ _ => rfl) (fun l hl => hf l (fun e => by rw [e] at hl; simp only [rl] at hl; omega)) (fun jj r' hr => ?_) (fun jj g' hg' => ?_) (fun jj => ?_) (fun _ => .inl rfl)
  · refine ⟨g', hg', Nat.le_refl _, fun _ q hq hl => hoth q ?_⟩
    rw [hXj, hhd] at hq
    have hq : b = q := by simpa [Value.ownBlock] using hq
    exact hne' q [κ + 1] (by rw [← hq]; exact hcolr b rfl) (by simp)
  · by_cases e1 : jj = κ
    · subst e1
      rw [hsame] at hr
      injection hr with hr
      subst hr
      right
      refine ⟨⟨hwid, hpos, hnop, .inr hgk, hholer, .slice (some ⟨b, 0, none⟩) n cp, innr, hhd, ?_, hcolr, fun i' x hx => ?_⟩, hκ⟩
      · show World.ownsRow _ 0 rt.e (width rt.t) _ (rt.xs.set i z).length innr
        rw [List.length_set]
        exact ownsRow_move hownr (fun q hq hl => hoth q (hne' q _ (hcolr q hq) (by simp)))
      · show El _ c.χ rt.deep rt.t [jj + 1, i'] x (((holed innr rt.hole).drop (i' * width rt.t)).take (width rt.t))
        rw [hd, hh]
        show Own _ c.χ rt.t [jj + 1, i'] x ((innr.drop (i' * width rt.t)).take (width rt.t))
        have hx : (rt.xs.set i z)[i']? = some x := hx
        have hjl : i' < rt.xs.length := by have := (List.getElem?_eq_some_iff.1 hx).1; rwa [List.length_set] at this
        by_cases e3 : i' = i
        · subst e3
          rw [List.getElem?_set, if_pos rfl, if_pos hjl] at hx
          injection hx with hx; subst hx
          have hxi : rt.xs[i']? = some (rt.xs.getD i' (dflt rt.t)) := by rw [List.getD_eq_getElem?_getD, List.getElem?_eq_getElem hjl]; rfl
          have hE := helr i' _ hxi
          have hEl : ((innr.drop (i' * width rt.t)).take (width rt.t)).length = width rt.t := Own_len hE
          -- the cell of the row's header stays as it is
          have hcu : ((innr.drop (i' * width rt.t)).take (width rt.t))[oo]? = some (.slice (some ⟨b', 0, none⟩) n' cp') := by
            rw [hwid] at hoo hcell
            obtain ⟨u2, hu2⟩ : ∃ u2, ((innr.drop (i' * width rt.t)).take (width rt.t))[oo]? = some u2 := ⟨_, List.getElem?_eq_getElem (by omega)⟩
            have := hownr.cells (g := b) rfl _ u2 (drop_take_get innr _ _ oo u2 hu2)
            rw [add_plain', Nat.zero_add, hcell] at this
            rw [hu2, this]
          have hsp : splice ((innr.drop (i' * width rt.t)).take (width rt.t)) oo [.slice (some ⟨b', 0, none⟩) n' cp'] = (innr.drop (i' * width rt.t)).take (width rt.t) := by
            rw [hwid] at hoo
            apply List.ext_getElem?
            intro k
            rw [splice_get (by rw [List.length_singleton]; omega), List.length_singleton]
            by_cases hk : oo ≤ k ∧ k < oo + 1
            · have : k = oo := by omega
              subst this
              rw [if_pos hk, hcu, Nat.sub_self]; rfl
            · rw [if_neg hk]
          rw [← hsp]
          rw [hwid] at hoo
          refine Own_put (χ := c.χ) hnop hoo (fun q r' hq hnr hl => ⟨hq, hoth q (hne' q _ hq (fun e => hnr [] (by rw [List.append_nil]; exact List.append_cancel_left e)))⟩) hE (fun s' y' hs' hp => ?_) hz
          cases s' <;> first | (cases hp; done) | skip
          rename_i e2 t2
          simp only [packV, readL] at hp
          obtain ⟨he2', hp⟩ := cond_some' hp
          have he2' := Nat.eq_of_beq_eq_true he2'
          subst he2'
          obtain ⟨hty, hyy⟩ := castTo_some hp
          injection hty with _ hty
          subst hty
          have hyy : y' = xs.set j y := hyy
          subst hyy
          refine ⟨.slice (some ⟨b', 0, none⟩) n' cp', splice inner2 j [u], rfl, ?_, hcol2, fun q x hx => ?_⟩
          · have hxl : (xs.set j y).length = xs.length := List.length_set
            rw [hw1]
            refine ⟨by rw [splice_len (by rw [List.length_singleton]; omega), hxl, Nat.mul_one, hil2], .inr ⟨b', cap, (splice cur.toList j [u]).toArray, ?_, hbg, hnew, ?_, hcm, ?_, ?_⟩⟩
            · rw [hxl, ← he2, he3]
            · rw [hxl]; exact hnc
            · rw [List.size_toArray, splice_len (by rw [List.length_singleton]; omega), Nat.mul_one]; exact hcl
            · rw [hxl, Nat.mul_one]
              apply List.ext_getElem?
              intro k
              rw [List.getElem?_take]
              show (if k < xs.length then (splice cur.toList j [u])[k]? else none) = _
              rw [splice_get (by rw [List.length_singleton]; omega), splice_get (by rw [List.length_singleton]; omega), ← htk, List.getElem?_take]
              by_cases hk : k < xs.length
              · rw [if_pos hk, if_pos hk]
              · rw [if_neg hk, if_neg hk, if_neg (by rw [List.length_singleton]; omega)]
          · have hql : q < xs.length := by have := (List.getElem?_eq_some_iff.1 hx).1; rwa [List.length_set] at this
            rw [hw1, Nat.mul_one]
            have hE2 := hel2 q
            rw [hw1, Nat.mul_one] at hE2
            by_cases e4 : q = j
            · subst e4
              rw [List.getElem?_set, if_pos rfl, if_pos hql] at hx
              injection hx with hx; subst hx
              have : ((splice inner2 q [u]).drop q).take 1 = [u] := by
                have := chunk_same (l := inner2) (us := [u]) (i := q) (n := xs.length) (wd := 1) (off := 0) (by omega) hql (by simp)
                simp only [Nat.mul_one, Nat.add_zero] at this
                rw [this]
                obtain ⟨u3, hu3⟩ : ∃ u3, (inner2.drop q).take 1 = [u3] := by
                  have hl := Own_len (hE2 _ (List.getElem?_eq_getElem hql))
                  rw [hw1] at hl
                  cases hq' : (inner2.drop q).take 1 with
                  | nil => rw [hq'] at hl; cases hl
                  | cons u3 r3 =>
                    have : r3 = [] := by rw [hq'] at hl; simpa using hl
                    subst this
                    exact ⟨u3, rfl⟩
                rw [hu3]; rfl
              rw [this]
              exact flat_Own hflt hy
            · rw [List.getElem?_set, if_neg (fun e' => e4 e'.symm)] at hx
              have := chunk_other (l := inner2) (us := [u]) (i := j) (j := q) (n := xs.length) (wd := 1) (off := 0) (by omega) hj (by simp) e4
              simp only [Nat.mul_one, Nat.add_zero] at this
              rw [this]
              exact flat_Own hflt (Own_Rd (ok := fun _ => True) (fun _ _ _ => trivial) (hE2 x hx))
        · rw [List.getElem?_set, if_neg (fun e' => e3 e'.symm)] at hx
          exact Own_step hnop (fun q r' hq hl => ⟨hq, hoth q (hne' q _ hq (fun e => by simp at e; exact e3 e.1))⟩) (helr i' x hx)
    · left
      rw [hf _ (by simp only [rl]; omega)] at hr
      exact ⟨hr, e1⟩
  · obtain ⟨r', hr'⟩ := h.live jj g' hg'
    by_cases e1 : jj = κ
    · subst e1; exact ⟨_, hsame⟩
    · exact ⟨r', by rw [hf _ (by simp only [rl]; omega)]; exact hr'⟩
  · by_cases e1 : jj = κ
    · right; left; rw [e1, hsame]; trivial
    · left; exact hf _ (by simp only [rl]; omega)
theorem does_store (h : Rel M N w0 keep f c a w) (hM : Fr M key) {T : Nat} {x y : Operand} (hdst : o.dst = none) (ho : o.op = .store T x y) (nx : Nat)
    (hk : storeC P f T (evV ⟨f, nx⟩ x) (evS ⟨f, nx⟩ y) k = some r) : Does P o M N w0 keep f key a w k r := by
  have hX := h.evv nx x
  have hY := h.ev nx y
  have hYb := h.evb nx y
  have run : ∀ {w' : World}, (Instr.storeAt T (a.eval x) (a.eval y)).run P w = .ok () w' → (execOp a.eval o).run P w = .ok .skip w' := by
    intro w' hr
    simp [execOp, ho, hr]
  unfold storeC at hk
  cases hpos : Nat.blt 0 (sizeT P T) with
  | false => rw [hpos] at hk; cases hk
  | true =>
    rw [hpos, cond_true] at hk
    have hpos : 0 < sizeT P T := by simpa [Nat.blt_eq] using hpos
    split at hk
    · rename_i β off e
      rw [e] at hX
      have hX : a.eval x = .pointer (some ⟨c.blk β, off, none⟩) := hX
      split at hk
      · rename_i vs eb
        obtain ⟨⟨cs, T', hh, hχ, hall, h1⟩, hβ⟩ := h.boxes β _ eb
        have hfr := h.fresh (bl β)
        rw [eb] at hfr
        cases hc : (Nat.ble (off + sizeT P T) vs.length && (Nat.beq (leavesS (evS ⟨f, nx⟩ y)).length (sizeT P T) && (leavesS (evS ⟨f, nx⟩ y)).all okLeaf)) with
        | false => rw [hc] at hk; cases hk
        | true =>
          rw [hc, cond_true] at hk
          simp only [Bool.and_eq_true] at hc
          obtain ⟨hc1, hc2, hc3⟩ := hc
          have hc1 := Nat.le_of_ble_eq_true hc1
          have hc2 := Nat.eq_of_beq_eq_true hc2
          obtain ⟨us, hus, hall', h1'⟩ := leaves_cells h hY hc3 (by intro e'; rw [e'] at hc2; simp at hc2; omega)
          have hul : us.length = sizeT P T := by rw [← hall'.len, hc2]
          have hcl : vs.length = cs.length := hall.len
          have hr := run_storeAt (P := P) (off := off) hus hul hpos hh (by omega) h1'
          have h' := h.setBox eb hh (b' := .flds (splice vs off (leavesS (evS ⟨f, nx⟩ y)))) (cs := splice cs off us) (.inl ⟨_, rfl, splice_All2 hall hall', fun v hv => (splice_mem hv).elim (hfr v) (fun hv => by
            cases e' : evS ⟨f, nx⟩ y with
            | one q => rw [e'] at hv hYb; rw [show leavesS (.one q) = [q] from rfl, List.mem_singleton] at hv; rw [hv]; exact hYb
            | agg qs => rw [e'] at hv hYb; exact hYb v hv
            | arr t xs => rw [e'] at hv; simp [leavesS] at hv
            | tup cs => rw [e'] at hv; simp [leavesS] at hv), fun u hu => (splice_mem hu).elim (h1 u) (h1' u)⟩)
          refine does_unit hdst (by rfl) ⟨c, ?_⟩ (run (by rw [hX]; exact hr)) hk
          have : vs.take off ++ leavesS (evS ⟨f, nx⟩ y) ++ vs.drop (off + sizeT P T) = splice vs off (leavesS (evS ⟨f, nx⟩ y)) := by unfold splice; rw [hc2]
          rw [show upds f [(bl β, Val.box (.flds (vs.take off ++ leavesS (evS ⟨f, nx⟩ y) ++ vs.drop (off + sizeT P T))))] = upd1 f (bl β) (.box (.flds (vs.take off ++ leavesS (evS ⟨f, nx⟩ y) ++ vs.drop (off + sizeT P T)))) from rfl, this]
          exact h'.mono Le.un
      · rename_i t xs eb
        obtain ⟨⟨T', hh, hχ, hsc⟩, hβ⟩ := h.boxes β _ eb
        split at hk
        · rename_i t' ys ey
          cases hc : Nat.beq off 0 with
          | false => rw [hc] at hk; cases hk
          | true =>
            rw [hc, cond_true] at hk
            have hc := Nat.eq_of_beq_eq_true hc
            subst hc
            split at hk
            · rename_i zs ez
              split at hk
              · rename_i hz
                rw [ey] at hY
                obtain ⟨hsc', hY⟩ := hY
                obtain ⟨het, hez⟩ := castTo_some ez
                injection het with _ het
                subst het
                have hez : zs = ys := hez
                subst hez
                have hus : (a.eval y).cells.toList = zs.map (encF t') := by rw [hY]; simp [Value.cells]
                have hoc : ∀ u ∈ zs.map (encF t'), u.oneCell' = true := by
                  intro u hu
                  simp only [List.mem_map] at hu
                  obtain ⟨q, _, rfl⟩ := hu
                  cases t' <;> simp [scal] at hsc <;> rfl
                have hr := run_storeAt (P := P) (off := 0) (cur := xs.map (encF t')) hus (by rw [List.length_map]; omega) hpos hh (by rw [List.length_map, List.length_map]; omega) hoc
                have hsp : splice (xs.map (encF t')) 0 (zs.map (encF t')) = zs.map (encF t') := by
                  unfold splice
                  rw [List.take_zero, List.nil_append, List.drop_of_length_le (by rw [List.length_map, List.length_map]; omega), List.append_nil]
                rw [hsp] at hr
                have h' := h.setBox eb hh (b' := .arr t' zs) (cs := zs.map (encF t')) (.inr ⟨_, _, rfl, hsc, rfl⟩)
                exact does_unit hdst (by rfl) ⟨c, h'.mono Le.un⟩ (run (by rw [hX]; exact hr)) hk
              · cases hk
            · cases hk
        · cases hk
      · cases hk
    · rename_i β i e
      rw [e] at hX
      have hX : a.eval x = .pointer (some ⟨c.blk β, i, none⟩) := hX
      split at hk
      · rename_i t xs eb
        obtain ⟨⟨T', hh, hχ, hsc⟩, hβ⟩ := h.boxes β _ eb
        cases hc : Nat.beq (sizeT P T) 1 with
        | false => rw [hc] at hk; cases hk
        | true =>
          rw [hc, cond_true] at hk
          have hc := Nat.eq_of_beq_eq_true hc
          split at hk
          · rename_i z ez
            split at hk
            · rename_i hi
              obtain ⟨q, eq⟩ : ∃ q, leavesS (evS ⟨f, nx⟩ y) = [q] := by
                cases hl : leavesS (evS ⟨f, nx⟩ y) with
                | nil => rw [hl] at ez; cases t <;> simp [scal] at hsc <;> cases ez
                | cons q qs => cases qs with
                  | nil => exact ⟨q, rfl⟩
                  | cons _ _ => rw [hl] at ez; cases t <;> simp [scal] at hsc <;> cases ez
              have hok : okLeaf q = true := by
                rw [eq] at ez
                cases t <;> simp [scal] at hsc <;> · cases q <;> first | rfl | cases ez
              obtain ⟨us, hus, hall', h1'⟩ := leaves_cells h hY (by rw [eq]; simp [hok]) (by rw [eq]; simp)
              have hrd := packs_ok h hall' ez
              have hus1 : us = [encF t z] := by cases t <;> simp [scal] at hsc <;> exact hrd
              subst hus1
              have hr := run_storeAt (P := P) (off := i) (cur := xs.map (encF t)) hus (by rw [hc]; rfl) hpos hh (by rw [List.length_map]; simp; omega) h1'
              have hsp : splice (xs.map (encF t)) i [encF t z] = (xs.set i z).map (encF t) := by
                apply List.ext_getElem?
                intro k
                rw [splice_get (by rw [List.length_map]; simp; omega), List.getElem?_map, List.getElem?_map, List.getElem?_set]
                by_cases hk : i = k
                · subst hk; simp [hi]
                · rw [if_neg (by simp only [List.length_singleton]; omega), if_neg hk]
              rw [hsp] at hr
              have h' := h.setBox eb hh (b' := .arr t (xs.set i z)) (cs := (xs.set i z).map (encF t)) (.inr ⟨_, _, rfl, hsc, rfl⟩)
              exact does_unit hdst (by rfl) ⟨c, h'.mono Le.un⟩ (run (by rw [hX]; exact hr)) hk
            · cases hk
          · cases hk
      · cases hk
    · rename_i κ i off e
      rw [e] at hX
      obtain ⟨b, n, cp, hhd, hin, hp⟩ := hX
      split at hk
      · rename_i rt er
        have hwid : c.wid κ = width rt.t := (h.roots κ rt er).1.wid
        have hnop : noP rt.t = true := (h.roots κ rt er).1.nop
        rw [hwid] at hp
        have hiw : i * width rt.t + width rt.t ≤ n * width rt.t := by rw [← Nat.succ_mul]; exact Nat.mul_le_mul_right _ hin
        split at hk
        · rename_i v ev
          rw [ev] at hY
          have hY : VR w c v (a.eval y) := hY
          obtain ⟨hc, hk⟩ := cond_some' hk
          simp only [Bool.and_eq_true] at hc
          have hc1 : off < width rt.t := by simpa [Nat.blt_eq] using hc.1
          have hc2 := Nat.eq_of_beq_eq_true hc.2
          split at hk
          · rename_i z ez
            cases hfl : flat rt.t with
            | true =>
              rw [hfl, cond_true] at hk
              obtain ⟨hh, hk⟩ := cond_some' hk
              have hh : rt.hole = none := by simpa using hh
              obtain ⟨cur, T', hcu, hfit, c', h'⟩ := h.setElem er hh hfl hhd hin (off := off) (us := [a.eval y]) (by simp; omega) (y := z) (fun cs hcs => setLeaf_Rd h hY hfl hc1 hcs ez)
              have hok : okLeaf v = true := setLeaf_okLeaf hfl ez
              have h1 := VR_oneCell h hok hY
              have hus : (a.eval y).cells.toList = [a.eval y] := by
                cases hv : a.eval y <;> first | rfl | (rw [hv] at h1; simp [Value.oneCell'] at h1)
              have hr := run_storeAt (P := P) (off := i * width rt.t + off) hus (by rw [hc2]; rfl) hpos hcu (by omega) (fun u hu => by rw [List.mem_singleton] at hu; rw [hu]; exact h1)
              exact does_unit hdst (by rfl) ⟨c', h'.mono Le.un⟩ (run (by rw [hp]; exact hr)) hk
            | false =>
              rw [hfl, cond_false] at hk
              obtain ⟨hcc, hk⟩ := cond_some' hk
              simp only [Bool.and_eq_true] at hcc
              obtain ⟨⟨⟨hdp, hhf⟩, hmv⟩, hnd⟩ := hcc
              have hnd := nodupN_cons hnd
              have hh2 : ∀ q, rt.hole = some q → q = i * width rt.t + off := fun q hq => by
                rw [hq] at hhf; exact Nat.eq_of_beq_eq_true hhf
              obtain ⟨cur, T', hcu, hfit, c', h'⟩ := h.setRow er hhd (p := i * width rt.t + off) (us := [a.eval y]) (by rw [List.length_singleton]; omega) (xs' := rt.xs.set i z) (by rw [List.length_set]) (rt.gen + 1) none (.inr (Nat.lt_succ_self _)) (fun _ e => by cases e) (ownKeys [v]) (layElem κ i rt.t off [v]) hnd.1 (fun q hq => layElem_id hq)
                (fun inner w' χ' hil helr hw' hχ' j x hx => by
                  have hjl : j < rt.xs.length := by have := (List.getElem?_eq_some_iff.1 hx).1; rwa [List.length_set] at this
                  show El w' χ' rt.deep rt.t [κ + 1, j] x (((splice inner (i * width rt.t + off) [a.eval y]).drop (j * width rt.t)).take (width rt.t))
                  rw [hdp] at helr ⊢
                  have keepc : ∀ (jj : Nat) q r', c.χ q = [κ + 1, jj] ++ r' → q < w.heap.size → χ' q = [κ + 1, jj] ++ r' ∧ w'.heap[q]? = w.heap[q]? := fun jj q r' hq hl => by
                    refine ⟨?_, hw' q hl (by rw [hq]; simp)⟩
                    rw [hχ' q hl, hq]
                    exact layElem_id (fun κ0 r e hm => by
                      simp only [List.cons_append, List.cons.injEq] at e
                      have : κ0 = κ := by omega
                      exact hnd.1 (by rw [← this]; exact hm))
                  by_cases e : j = i
                  · subst e
                    rw [List.getElem?_set, if_pos rfl, if_pos hjl] at hx
                    injection hx with hx; subst hx
                    rw [chunk_same hil hin (by rw [List.length_singleton]; omega)]
                    have hxi : rt.xs[j]? = some (rt.xs.getD j (dflt rt.t)) := by rw [List.getD_eq_getElem?_getD, List.getElem?_eq_getElem hjl]; rfl
                    have hE := helr j _ hxi
                    have hcl : ((inner.drop (j * width rt.t)).take (width rt.t)).length = width rt.t := by rw [List.length_take, List.length_drop]; omega
                    have hE' : Own w' χ' rt.t [κ + 1, j] z (splice (((holed inner rt.hole).drop (j * width rt.t)).take (width rt.t)) off [a.eval y]) := by
                      refine Own_put hnop hc1 (fun q r' hq _ hl => keepc j q r' hq hl) hE (fun s' y' hs' hp' => leaf_into h hs' hY hmv (fun κ0 e k' q hk' hl => ?_) hp') ez
                      refine ⟨?_, hw' k' hl (by
                        rw [hk']
                        intro e2
                        injection e2 with e2 _
                        have : κ0 = κ := by omega
                        exact hnd.1 (by rw [← this, e]; exact List.mem_singleton_self _))⟩
                      rw [hχ' k' hl, hk', e]
                      show (match posOwn κ0 [.own κ0] off with | some o => [κ + 1, j] ++ (lp rt.t o ++ q) | none => _) = _
                      simp only [posOwn, if_pos, List.append_assoc]
                    cases hho : rt.hole with
                    | none => rw [hho] at hE'; exact hE'
                    | some q0 =>
                      rw [hho, hh2 q0 hho] at hE'
                      have : ((holed inner (some (j * width rt.t + off))).drop (j * width rt.t)).take (width rt.t) = splice ((inner.drop (j * width rt.t)).take (width rt.t)) off [.slice none 0 0] := chunk_same hil hin (by rw [List.length_singleton]; omega)
                      rw [this, splice_same (us := [.slice none 0 0]) (vs := [a.eval y]) rfl (by rw [List.length_singleton]; omega)] at hE'
                      exact hE'
                  · rw [List.getElem?_set, if_neg (fun e' => e e'.symm)] at hx
                    rw [chunk_other hil hin (by rw [List.length_singleton]; omega) e]
                    have hE := helr j x hx
                    rw [holed_other hil hin hc1 hh2 e] at hE
                    exact Own_step hnop (fun q r' hq hl => keepc j q r' hq hl) hE)
              have hok : okLeaf v = true := by cases v <;> first | rfl | cases hmv
              have h1 := VR_oneCell h hok hY
              have hus : (a.eval y).cells.toList = [a.eval y] := by
                cases hv : a.eval y <;> first | rfl | (rw [hv] at h1; simp [Value.oneCell'] at h1)
              have hr := run_storeAt (P := P) (off := i * width rt.t + off) hus (by rw [hc2]; rfl) hpos hcu (by rw [List.length_singleton] at hfit ⊢; omega) (fun u hu => by rw [List.mem_singleton] at hu; rw [hu]; exact h1)
              exact does_unit hdst (by rw [upds_app]; rfl) ⟨c', h'.mono Le.un⟩ (run (by rw [hp]; exact hr)) hk
          · cases hk
        · rename_i vs ev
          obtain ⟨hc, hk1⟩ := cond_some' hk
          clear hk
          simp only [Bool.and_eq_true] at hc
          have hc1 := Nat.eq_of_beq_eq_true hc.1
          have hc2 := Nat.eq_of_beq_eq_true hc.2
          subst hc1
          rw [ev] at hY
          obtain ⟨us, hval, hall⟩ := hY
          split at hk1
          · rename_i z ez
            have hrd := packs_ok h hall ez
            have hul := Rd_len hrd
            cases hfl : flat rt.t with
            | true =>
              rw [hfl, cond_true] at hk1
              obtain ⟨hh, hk2⟩ := cond_some' hk1
              have hh : rt.hole = none := by simpa using hh
              obtain ⟨cur, T', hcu, hfit, c', h'⟩ := h.setElem er hh hfl hhd hin (off := 0) (us := us) (by omega) (y := z) (fun cs hcs => by
                have : splice cs 0 us = us := by
                  unfold splice
                  rw [List.take_zero, List.nil_append, List.drop_of_length_le (by rw [Rd_len hcs]; omega), List.append_nil]
                rw [this]; exact hrd)
              have hr := run_storeAt (P := P) (off := i * width rt.t) (v := a.eval y) (us := us) (by rw [hval]; simp [Value.cells]) (by omega) hpos hcu (by omega) (fun u hu => Rd_one hrd u hu)
              exact does_unit hdst (by rfl) ⟨c', h'.mono Le.un⟩ (run (by rw [hp, Nat.add_zero]; exact hr)) hk2
            | false =>
              rw [hfl, cond_false] at hk1
              obtain ⟨hcc, hk2⟩ := cond_some' hk1
              simp only [Bool.and_eq_true] at hcc
              obtain ⟨⟨⟨hdp, hhf⟩, hmv⟩, hnd⟩ := hcc
              have hnd := nodupN_cons hnd
              have hh : rt.hole = none := by simpa using hhf
              obtain ⟨cur, T', hcu, hfit, c', h'⟩ := h.setRow er hhd (p := i * width rt.t + 0) (us := us) (by omega) (xs' := rt.xs.set i z) (by rw [List.length_set]) (rt.gen + 1) none (.inr (Nat.lt_succ_self _)) (fun _ e => by cases e) (ownKeys vs) (layElem κ i rt.t 0 vs) hnd.1 (fun q hq => layElem_id hq)
                (fun inner w' χ' hil helr hw' hχ' j x hx => by
                  have hjl : j < rt.xs.length := by have := (List.getElem?_eq_some_iff.1 hx).1; rwa [List.length_set] at this
                  show El w' χ' rt.deep rt.t [κ + 1, j] x (((splice inner (i * width rt.t + 0) us).drop (j * width rt.t)).take (width rt.t))
                  rw [hh] at helr
                  rw [hdp] at helr ⊢
                  by_cases e : j = i
                  · subst e
                    rw [List.getElem?_set, if_pos rfl, if_pos hjl] at hx
                    injection hx with hx; subst hx
                    rw [chunk_same hil hin (by omega)]
                    have hcl : ((inner.drop (j * width rt.t)).take (width rt.t)).length = width rt.t := by rw [List.length_take, List.length_drop]; omega
                    have : splice ((inner.drop (j * width rt.t)).take (width rt.t)) 0 us = us := by
                      unfold splice
                      rw [List.take_zero, List.nil_append, List.drop_of_length_le (by omega), List.append_nil]
                    rw [this]
                    refine leaves_into h hnop hall hmv (fun o' κ0 ho' k' q hk' hl => ?_) ez
                    have hm : κ0 ∈ ownKeys vs := ownKeys_mem.2 (List.mem_of_getElem? ho')
                    refine ⟨?_, hw' k' hl (by
                      rw [hk']
                      intro e2
                      injection e2 with e2 _
                      have : κ0 = κ := by omega
                      exact hnd.1 (by rw [← this]; exact hm))⟩
                    rw [hχ' k' hl, hk']
                    have hpo := posOwn_get (j := 0) hnd.2 ho'
                    rw [Nat.zero_add] at hpo
                    simp only [layElem, hpo]
                  · rw [List.getElem?_set, if_neg (fun e' => e e'.symm)] at hx
                    rw [chunk_other hil hin (by omega) e]
                    refine Own_step hnop (fun q r' hq hl => ?_) (helr j x hx)
                    refine ⟨?_, hw' q hl (by rw [hq]; simp)⟩
                    rw [hχ' q hl, hq]
                    exact layElem_id (fun κ0 r e hm => by
                      simp only [List.cons_append, List.cons.injEq] at e
                      have : κ0 = κ := by omega
                      exact hnd.1 (by rw [← this]; exact hm)))
              have hr := run_storeAt (P := P) (off := i * width rt.t) (v := a.eval y) (us := us) (by rw [hval]; simp [Value.cells]) (by omega) hpos hcu (by omega) (fun u hu => Rd_one hrd u hu)
              exact does_unit hdst (by rw [upds_app]; rfl) ⟨c', h'.mono Le.un⟩ (run (by rw [hp, Nat.add_zero]; exact hr)) hk2
          · cases hk1
        · cases hk
      · cases hk
    · rename_i κ g i oo j e
      rw [e] at hX
      split at hk
      · rename_i rt er
        split at hk
        · rename_i hh
          obtain ⟨hg, hk⟩ := cond_some' hk
          simp only [Bool.and_eq_true] at hg
          have hc2 := Nat.eq_of_beq_eq_true hg.2
          split at hk
          · rename_i e' t' xs v el ev
            obtain ⟨hs, hk⟩ := cond_some' hk
            rw [ev] at hY
            have hY : VR w c v (a.eval y) := hY
            split at hk
            · rename_i y' ey'
              split at hk
              · rename_i hj
                split at hk
                · rename_i z ez
                  obtain ⟨b, n, cp, b', n', cp', h1, h2, h3, h4, h5, h6, hi, _⟩ := rptr_ok h er hh (by simp only [Bool.and_eq_true]; exact hg.1) hX el
                  have hrd := packV_ok h hY ey'
                  obtain ⟨cur, T', hcu, hfit, h'⟩ := h.setInner er hh hg.1.2 el hs h1 h2 h3 h4 hj hrd ez
                  have h1c := Rd_one hrd (a.eval y) (List.mem_singleton_self _)
                  have hus : (a.eval y).cells.toList = [a.eval y] := by
                    cases hv : a.eval y <;> first | rfl | (rw [hv] at h1c; simp [Value.oneCell'] at h1c)
                  have hr := run_storeAt (P := P) (off := j) hus (by rw [hc2]; rfl) hpos hcu (by rw [List.length_singleton]; omega) (fun u hu => by rw [List.mem_singleton] at hu; rw [hu]; exact h1c)
                  exact does_unit hdst (by rfl) ⟨c, h'.mono Le.un⟩ (run (by rw [h6]; exact hr)) hk
                · cases hk
              · cases hk
            · cases hk
          · cases hk
        · cases hk
      · cases hk
    · cases hk
end
end Go.Proofs.Ytoioaijpdiglfaa.V
