/- A function: how it is entered. -/
import Derived.Test.YtoioaijpdiglfaaVExec
set_option linter.unusedVariables false
set_option linter.unusedSimpArgs false
namespace Go.Proofs.Ytoioaijpdiglfaa.V
open Go Go.RowKit
theorem parSlots_mem : ∀ (l : List (Bool × List V)) (i : Nat) {p : Nat × Val}, p ∈ parSlots l i → ∃ j q, l[j]? = some q ∧ p = (sl (i + j), .s (mkS q.1 q.2))
  | q :: l, i, p, h => by
    obtain ⟨ag, vs⟩ := q
    simp only [parSlots] at h
    rcases List.mem_cons.1 h with e | e
    · exact ⟨0, _, rfl, e⟩
    · obtain ⟨j, q, h1, h2⟩ := parSlots_mem l (i + 1) e
      exact ⟨j + 1, q, by simpa using h1, by rw [h2, show i + 1 + j = i + (j + 1) by omega]⟩
section
variable {P : Program} {H : Hints} {M : Nat → Prop} {N : Nat} {w0 w : World} {keep : Kp} {f : Nat → Val} {c : Ctx} {a : Act}
theorem one_leaf {w : World} {ok : Nat → Prop} {t : Ty} {x : den t} {cs : List Value} (hg : goodTy t = true) (h : Rd w ok t x cs) : ∃ d, cs = [d] := by
  have hl := Rd_len h
  have : width t = 1 := by cases t <;> first | rfl | cases hg
  rw [this] at hl
  cases cs with
  | nil => cases hl
  | cons d r => cases r with
    | nil => exact ⟨d, rfl⟩
    | cons _ _ => simp at hl
/-- The leaves as a function is entered. -/
theorem argM_each {w : World} {χ : Nat → List Nat} {io : Nat → Bool} : ∀ {ts : List Ty} {i : Nat} {x : den (tupTy ts)} {cs : List Value}, ArgM w χ io ts i x cs →
    ∃ L : List Lf, ts = L.map (·.t) ∧ cs = L.map (·.d) ∧ (∀ (p : Nat) (l : Lf), L[p]? = some l → LeafA w χ (io (i + p)) l.t (i + p) l.x l.d) ∧
      inLeaves io ts i x = ((L.zipIdx i).map (fun q => (inLeaf (io q.2) q.2 q.1.t q.1.x).1), ((L.zipIdx i).map (fun q => (inLeaf (io q.2) q.2 q.1.t q.1.x).2)).flatten)
  | [], i, x, cs, h => ⟨[], rfl, by rw [show cs = _ from h]; rfl, fun p l hl => by simp at hl, rfl⟩
  | [t], i, x, cs, ⟨d, e, h⟩ => by
    refine ⟨[⟨t, x, d⟩], rfl, e, fun p l hl => ?_, by simp [inLeaves]⟩
    cases p with
    | zero =>
      have hl : (⟨t, x, d⟩ : Lf) = l := by simpa using hl
      subst hl; exact h
    | succ p => simp at hl
  | t :: u :: ts, i, x, cs, ⟨d, r, e, h, hr⟩ => by
    obtain ⟨L, h1, h2, h3, h4⟩ := argM_each hr
    refine ⟨⟨t, (x : den t × den (tupTy (u :: ts))).1, d⟩ :: L, by rw [List.map_cons, ← h1], by rw [List.map_cons, ← h2, e], fun p l hl => ?_, ?_⟩
    · cases p with
      | zero =>
        have hl : (⟨t, (x : den t × den (tupTy (u :: ts))).1, d⟩ : Lf) = l := by simpa using hl
        subst hl; exact h
      | succ p =>
        have := h3 p l (by simpa using hl)
        rw [show i + 1 + p = i + (p + 1) by omega] at this; exact this
    · have h4 : inLeaves io (u :: ts) (i + 1) (x : den t × den (tupTy (u :: ts))).2 = _ := h4
      simp only [inLeaves, List.zipIdx_cons, List.map_cons, List.flatten_cons]
      rw [h4]
theorem ofList_of_mem : ∀ {L : List (Nat × Val)} {l : Nat} {x : Val}, (l, x) ∈ L → (l, ofList L l) ∈ L
  | (m, y) :: L, l, x, h => by
    simp only [ofList]
    cases e : Nat.beq l m with
    | true =>
      have := Nat.eq_of_beq_eq_true e
      subst this
      exact List.mem_cons_self
    | false =>
      rcases List.mem_cons.1 h with e' | e'
      · injection e' with e' _
        subst e'
        simp at e
      · exact List.mem_cons_of_mem _ (ofList_of_mem e')
  | [], _, _, h => by cases h
/-- What a function's frame knows of what it was handed. -/
def ctx0 (χ : Nat → List Nat) (io : Nat → Bool) (L : List Lf) : Ctx where
  χ := χ
  hdr := fun j => match L[j]? with | some l => (match l.d with | .slice A n cp => .slice A n cp | _ => .slice none 0 0) | none => .slice none 0 0
  wid := fun j => match L[j]? with | some l => (match l.t with | .sl _ s => width s | _ => 0) | none => 0
  blk := fun j => match L[j]? with | some l => (match l.d with | .pointer (some ad) => ad.block | _ => 0) | none => 0
  gens := fun j => match L[j]?, io j with | some l, true => (match l.t with | .sl _ _ => some 0 | _ => none) | _, _ => none
theorem inLeaf_ok {χ : Nat → List Nat} {io : Nat → Bool} {L : List Lf} {i : Nat} {l : Lf} (hl : L[i]? = some l) (hg : goodTy l.t = true) (hM : io i = true → M i) (h : LeafA w χ (io i) l.t i l.x l.d) :
    LeafOk w (ctx0 χ io L) M (inLeaf (io i) i l.t l.x) l.d ∧ ∀ q ∈ (inLeaf (io i) i l.t l.x).2, io i = true := by
  obtain ⟨t, x, d⟩ := l
  cases hb : io i with
  | false =>
    rw [hb] at h
    have h : Rd w (fun k => χ k = []) t x [d] := h
    refine ⟨?_, fun q hq => ?_⟩
    · cases t with
      | sl e s => exact leafOk_none (c' := ctx0 χ io L) (v := .dat e s x) h trivial
      | ptr T s => exact leafOk_none (v := .undef) trivial trivial
      | int kk => exact leafOk_none (c' := ctx0 χ io L) (v := .int kk x) (by injection (show [d] = _ from h)) trivial
      | bool => exact leafOk_none (c' := ctx0 χ io L) (v := .bool x) (by injection (show [d] = _ from h)) trivial
      | str => exact leafOk_none (c' := ctx0 χ io L) (v := .str x) (by injection (show [d] = _ from h)) trivial
      | pair _ _ => cases hg
      | unit => cases hg
    · cases t <;> cases hq
  | true =>
    rw [hb] at h
    have h : Own w χ t [i + 1] x [d] := h
    have hM := hM hb
    refine ⟨?_, fun _ _ => rfl⟩
    cases t with
    | sl e s =>
      obtain ⟨v, inner, e1, e2, e3, e4⟩ := h
      have hdv : d = v := by simpa using e1
      subst hdv
      obtain ⟨A, cp, hs, _⟩ := ownsRow_slice e2
      simp only [goodTy, Bool.and_eq_true, Nat.blt_eq] at hg
      have hh : (ctx0 χ io L).hdr i = d := by simp only [ctx0, hl]; rw [hs]
      exact leafOk_root ⟨by simp only [ctx0, hl], hg.1, hg.2, .inr (by simp only [ctx0, hl, hb]), fun _ e => (by cases e), d, inner, hh, e2, e3, e4⟩ hM hh.symm hM
    | ptr T s =>
      obtain ⟨b, z, inner, n, h1, h2, h3, h4, h5⟩ := h
      have hn : n = i := by injection h1 with h1 _; omega
      subst hn
      have hd : d = .pointer (some ⟨b, 0, none⟩) := by simpa using h2
      subst hd
      have hbk : (ctx0 χ io L).blk n = b := by simp only [ctx0, hl]
      exact leafOk_box ⟨inner, z, by rw [hbk]; exact h3, by rw [hbk]; exact h4, boxLeaves_ok (c := ctx0 χ io L) h5, Rd_one h5⟩ hM (boxLeaves_b _) (by show _ = _; rw [hbk]) hM
    | int kk => exact leafOk_none (c' := ctx0 χ io L) (v := .int kk x) (by injection (show [d] = _ from h)) trivial
    | bool => exact leafOk_none (c' := ctx0 χ io L) (v := .bool x) (by injection (show [d] = _ from h)) trivial
    | str => exact leafOk_none (c' := ctx0 χ io L) (v := .str x) (by injection (show [d] = _ from h)) trivial
    | pair _ _ => cases hg
    | unit => cases hg
/-- The frame as a function is entered. -/
theorem entry {io : Nat → Bool} {Ts : List Nat} {χ : Nat → List Nat} {L : List Lf} {ls : List V} {W : Wr} (hls : ls = (L.zipIdx 0).map (fun q => (inLeaf (io q.2) q.2 q.1.t q.1.x).1)) (hW : W = ((L.zipIdx 0).map (fun q => (inLeaf (io q.2) q.2 q.1.t q.1.x).2)).flatten)
    (hio : ∀ i, io i = true → i < 64) (hg : ∀ l ∈ L, goodTy l.t = true) (hL : ∀ (p : Nat) (l : Lf), L[p]? = some l → LeafA w0 χ (io p) l.t p l.x l.d) (ots : List Nat) (n : Nat) :
    Rel (Bel 1) ((grp P Ts (L.map (·.d))).toArray.size + n) w0 ⟨χ, fun t => if t ∈ ots then some (((grp P Ts (L.map (·.d))).toArray ++ Array.replicate n undef).getD t undef) else none⟩ (ofList (parSlots (cutLeaves P Ts ls) 0 ++ W)) (ctx0 χ io L) { tmps := (grp P Ts (L.map (·.d))).toArray ++ Array.replicate n undef, defers := [] } w0 := by
  have leaf : ∀ p l, L[p]? = some l → LeafOk w0 (ctx0 χ io L) (Bel 1) (inLeaf (io p) p l.t l.x) l.d := fun p l hl => (inLeaf_ok hl (hg l (List.mem_of_getElem? hl)) (fun hb => by show p < 64 * 1; have := hio p hb; omega) (hL p l hl)).1
  have hmemW : ∀ q, q ∈ W ↔ ∃ i l, L[i]? = some l ∧ q ∈ (inLeaf (io i) i l.t l.x).2 := fun q => by
    rw [hW, List.mem_flatten]
    constructor
    · rintro ⟨u, hu, hp⟩
      obtain ⟨⟨l, i⟩, hq, rfl⟩ := List.mem_map.1 hu
      exact ⟨i, l, by simpa using List.mem_zipIdx_iff_getElem?.1 hq, hp⟩
    · rintro ⟨i, l, hl, hp⟩
      exact ⟨_, List.mem_map.2 ⟨(l, i), List.mem_zipIdx_iff_getElem?.2 (by simpa using hl), rfl⟩, hp⟩
  have hall : All2 (VR w0 (ctx0 χ io L)) ls (L.map (·.d)) := by
    rw [hls]
    refine All2.mk (by simp) fun i v d hv hd' => ?_
    rw [List.getElem?_map] at hv hd'
    cases hl : L[i]? with
    | none => rw [hl] at hd'; cases hd'
    | some l =>
      rw [hl] at hd'
      rw [List.getElem?_zipIdx, hl] at hv
      have hv : (inLeaf (io (0 + i)) (0 + i) l.t l.x).1 = v := by simpa using hv
      have hd' : l.d = d := by simpa using hd'
      rw [Nat.zero_add] at hv
      rw [← hv, ← hd']
      exact (leaf i l hl).vr
  have hb : ∀ v ∈ ls, vB (Bel 1) v := fun v hv => by
    rw [hls] at hv
    obtain ⟨⟨l, i⟩, hq, rfl⟩ := List.mem_map.1 hv
    exact (leaf i l (by simpa using List.mem_zipIdx_iff_getElem?.1 hq)).vb
  have split : ∀ {l : Nat} {x : Val}, ofList (parSlots (cutLeaves P Ts ls) 0 ++ W) l = x → x = .none ∨ (∃ j q, (cutLeaves P Ts ls)[j]? = some q ∧ l = sl j ∧ x = .s (mkS q.1 q.2)) ∨ (l, x) ∈ W := fun {l x} hx => by
    rcases ofList_mem _ hx with e | e
    · exact .inl e
    · rcases List.mem_append.1 e with e | e
      · obtain ⟨j, q, hj, e⟩ := parSlots_mem _ 0 e
        injection e with e1 e2
        exact .inr (.inl ⟨j, q, hj, by rw [e1, Nat.zero_add], e2⟩)
      · exact .inr (.inr e)
  exact {
    size := by simp
    defers := rfl
    os := rfl
    tape := rfl
    output := rfl
    hsize := Nat.le_refl _
    kept := fun k _ _ => ⟨rfl, rfl⟩
    pars := fun t v hv => by
      have hv : (if t ∈ ots then some _ else none) = some v := hv
      split at hv
      · injection hv
      · cases hv
    slots := fun t x hx => by
      rcases split hx with e | ⟨j, q, hj, e1, e2⟩ | e
      · cases e
      · have : j = t := by simp only [sl] at e1; omega
        subst this
        injection e2 with e2
        subst e2
        obtain ⟨y, hy, ls', h1, h2, h3⟩ := (cut_ok (P := P) Ts hall).get hj
        have hlt : j < (grp P Ts (L.map (·.d))).length := (List.getElem?_eq_some_iff.1 hy).1
        have hget : ((grp P Ts (L.map (·.d))).toArray ++ Array.replicate n undef).getD j undef = y := by
          rw [Array.getD_eq_getD_getElem?, Array.getElem?_append_left (by simpa using hlt)]
          simp [hy]
        show SR w0 (ctx0 χ io L) _ (((grp P Ts (L.map (·.d))).toArray ++ Array.replicate n undef).getD j undef)
        rw [hget]
        obtain ⟨ag, vs⟩ := q
        cases ag with
        | true => exact ⟨ls', h2 rfl, h1⟩
        | false =>
          show SR w0 (ctx0 χ io L) (mkS false vs) y
          cases vs with
          | nil => trivial
          | cons v vs => cases vs with
            | cons _ _ => trivial
            | nil => cases ls' with
              | nil => exact h1.elim
              | cons u us => cases us with
                | cons _ _ => exact h1.2.elim
                | nil =>
                  have := h3 rfl u rfl
                  subst this
                  exact h1.1
      · obtain ⟨i, l, hl, hp⟩ := (hmemW _).1 e
        have := (leaf i l hl).sl _ hp
        simp only [sl] at this; omega
    boxes := fun β b hb' => by
      rcases split hb' with e | ⟨j, q, hj, e1, e2⟩ | e
      · cases e
      · cases e2
      · obtain ⟨i, l, hl, hp⟩ := (hmemW _).1 e
        obtain ⟨b', e', g1, g2, _⟩ := (leaf i l hl).bx β _ hp
        injection e' with e'
        subst e'
        exact ⟨g1, g2⟩
    roots := fun κ r hr => by
      rcases split hr with e | ⟨j, q, hj, e1, e2⟩ | e
      · cases e
      · cases e2
      · obtain ⟨i, l, hl, hp⟩ := (hmemW _).1 e
        obtain ⟨r', e', g1, g2⟩ := (leaf i l hl).rt κ _ hp
        injection e' with e'
        subst e'
        exact ⟨g1, g2⟩
    froz := fun κ x hx => by
      rcases split hx with e | ⟨j, q, hj, e1, e2⟩ | e
      · cases e
      · simp only [rl, sl] at e1; omega
      · obtain ⟨i, l, hl, hp⟩ := (hmemW _).1 e
        obtain ⟨r', e', _⟩ := (leaf i l hl).rt κ _ hp
        cases e'
    live := fun κ g hg' => by
      have hg' : (match L[κ]?, io κ with | some l, true => (match l.t with | .sl _ _ => some 0 | _ => none) | _, _ => none) = some g := hg'
      cases hl : L[κ]? with
      | none => rw [hl] at hg'; cases hg'
      | some l =>
        rw [hl] at hg'
        cases hbk : io κ with
        | false => rw [hbk] at hg'; cases hg'
        | true =>
          rw [hbk] at hg'
          obtain ⟨t, x, d⟩ := l
          cases t <;> first | (cases hg'; done) | skip
          rename_i e s
          have hm : (rl κ, Val.root ⟨e, s, x, true, 0, none⟩) ∈ W := (hmemW _).2 ⟨κ, _, hl, by rw [hbk]; exact List.mem_singleton_self _⟩
          have hm2 := ofList_of_mem (L := parSlots (cutLeaves P Ts ls) 0 ++ W) (List.mem_append_right _ hm)
          rcases List.mem_append.1 hm2 with h1 | h1
          · obtain ⟨j, q, hj, e1⟩ := parSlots_mem _ 0 h1
            injection e1 with e1 _
            simp only [rl, sl] at e1; omega
          · obtain ⟨i, l, hl', hp⟩ := (hmemW _).1 h1
            obtain ⟨r', e', _⟩ := (leaf i l hl').rt κ _ hp
            exact ⟨r', e'⟩
    fresh := fun l => by
      have key : ∀ x, ofList (parSlots (cutLeaves P Ts ls) 0 ++ W) l = x → xB (Bel 1) x := fun x hx => by
        rcases split hx with e | ⟨j, q, hj, e1, e2⟩ | e
        · rw [e]; trivial
        · rw [e2]
          exact mkS_b fun v hv => hb v (cut_mem (ls := ls) Ts q (List.mem_of_getElem? hj) v hv)
        · obtain ⟨i, lf, hl, hp⟩ := (hmemW _).1 e
          have h3 := (leaf i lf hl).sl _ hp
          have h3 : l % 3 ≠ 0 := h3
          by_cases e1 : l % 3 = 1
          · have hl' : l = bl (l / 3) := by simp only [bl]; omega
            rw [hl'] at hp
            obtain ⟨b', e', _, _, g⟩ := (leaf i lf hl).bx _ _ hp
            rw [e']; exact g
          · have hl' : l = rl (l / 3) := by simp only [rl]; omega
            rw [hl'] at hp
            obtain ⟨r', e', _⟩ := (leaf i lf hl).rt _ _ hp
            rw [e']; trivial
      exact key _ rfl
    hdrs := fun κ => by
      simp only [ctx0]
      split
      · split
        · exact ⟨_, _, _, rfl⟩
        · exact ⟨_, _, _, rfl⟩
      · exact ⟨_, _, _, rfl⟩ }
end
end Go.Proofs.Ytoioaijpdiglfaa.V
