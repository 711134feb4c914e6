/- Regions, branches, loops: the machine goes where the interpreter goes. -/
import Derived.Test.YtoioaijpdiglfaaVDraw
import Derived.Tactics
set_option linter.unusedVariables false
set_option linter.unusedSimpArgs false
namespace Go.Proofs.Ytoioaijpdiglfaa.V
open Go Go.RowKit
section
variable {P : Program} {H : Hints} {o : Oper} {N : Nat} {w0 : World} {keep : Kp} {R : Type} {r : R}
theorem ops_ok (call : CallR H) (hn : NiceG P H w0 keep) (hcall : ∀ fn x y, call fn x = some y → Meets P H fn x y) (ops : Array Oper) {K : St → Option R} {Q : Exit → Act → World → Prop} {nx : Nat} :
    ∀ (rest : List Oper) (key : Nat) {f : Nat → Val} {c : Ctx} {a : Act} {w : World}, DstOk N keep rest → Rel (Bel key) N w0 keep f c a w → opsC P H call ops.toList rest key ⟨f, nx⟩ K = some r →
      (∀ f' c' a' w', K ⟨f', nx⟩ = some r → Rel (Bel (key + rest.length)) N w0 keep f' c' a' w' → Q .normal a' w') → wpList P ops Q rest a w
  | [], key, f, c, a, w, _, h, hk, hq => hq f c a w hk (by simpa using h)
  | o :: rest, key, f, c, a, w, hd, h, hk, hq => by
    have hdo : DstP N keep o.dst := hd o List.mem_cons_self
    have hdr : DstOk N keep rest := fun o' ho' => hd o' (List.mem_cons_of_mem _ ho')
    have hlen : key + (o :: rest).length = key + 1 + rest.length := by simp only [List.length_cons]; omega
    have go : ∀ (K' : Wr → Option R), opC P H call o ⟨f, nx⟩ (64 * key) K' = some r → (∀ u, K' u = opsC P H call ops.toList rest (key + 1) ⟨upds f u, nx⟩ K) → o.wp P a w (wpList P ops Q rest) Q := fun K' hop hK' => by
      refine op_ok call hn hcall h (bel_fr key) hdo nx hop _ Q fun u c' a' w' hu h' => ?_
      rw [hK'] at hu
      exact ops_ok call hn hcall ops rest (key + 1) hdr (h'.mono (bel_un key)) hu (fun f' c' a' w' h1 h2 => hq f' c' a' w' h1 (by rw [hlen]; exact h2))
    have skip : opsC P H call ops.toList rest (key + 1) ⟨upds f (putV o.dst .no), nx⟩ K = some r → wpList P ops Q rest (a.put o.dst undef) w := fun hs =>
      ops_ok call hn hcall ops rest (key + 1) hdr (h.put (bel_le (Nat.le_succ key)) hdo (x := .one .no) rfl trivial) hs (fun f' c' a' w' h1 h2 => hq f' c' a' w' h1 (by rw [hlen]; exact h2))
    unfold wpList
    simp only [opsC] at hk
    cases hg : o.guard with
    | none =>
      rw [hg] at hk
      have hw : Region.wanted o (yielded ops a.tmps) = true := by simp [Region.wanted, hg]
      rw [if_pos hw]
      exact .inl (go _ hk (fun u => rfl))
    | some jw =>
      obtain ⟨j, want⟩ := jw
      rw [hg] at hk
      simp only at hk
      split at hk
      · cases hk
      · rename_i d hjd
        split at hk
        · rename_i b hb
          have hbv : a.tmps.getD d undef = .bool b := h.slots d _ hb
          have hy := yielded_of hjd hbv
          have hw : Region.wanted o (yielded ops a.tmps) = (some b == some want) := by simp [Region.wanted, hg, hy]
          split at hk
          · rename_i hbt
            subst hbt
            have hself : upds f [(sl d, .s (.one (.bool true)))] = f := upd1_self hb
            simp only [St.wr, hself] at hk
            cases want with
            | true =>
              rw [hw, if_pos (by rfl)]
              exact .inl (go _ hk (fun u => rfl))
            | false =>
              rw [hw, if_neg (by decide)]
              exact skip hk
          · rename_i hbt
            have hbt : b = false := by cases b <;> simp_all
            subst hbt
            have hself : upds f [(sl d, .s (.one (.bool false)))] = f := upd1_self hb
            simp only [St.wr, hself] at hk
            cases want with
            | false =>
              rw [hw, if_pos (by rfl)]
              exact .inl (go _ hk (fun u => rfl))
            | true =>
              rw [hw, if_neg (by decide)]
              exact skip hk
        · rename_i hb
          have hbv : a.tmps.getD d undef = undef := h.slots d _ hb
          have hy := yielded_no hjd hbv
          have hw : Region.wanted o (yielded ops a.tmps) = ((none : Option Bool) == some want) := by simp [Region.wanted, hg, hy]
          rw [hw, if_neg (by simp)]
          exact skip hk
        · cases hk
end

/-! ### a state told anew -/
theorem dedup_spec : ∀ (l acc : List Nat), acc.Nodup → (dedup l acc).Nodup ∧ ∀ x, x ∈ l ∨ x ∈ acc → x ∈ dedup l acc
  | [], acc, h => ⟨(List.pairwise_reverse).2 (h.imp Ne.symm), fun x hx => by simpa [dedup] using hx⟩
  | y :: l, acc, h => by
    simp only [dedup]
    cases e : acc.any (fun z => Nat.beq z y) with
    | true =>
      obtain ⟨h1, h2⟩ := dedup_spec l acc h
      rw [cond_true]
      have hy : y ∈ acc := by
        obtain ⟨z, hz, he⟩ := List.any_eq_true.1 e
        rw [← Nat.eq_of_beq_eq_true he]; exact hz
      refine ⟨h1, fun x hx => h2 x ?_⟩
      rcases hx with hx | hx
      · rcases List.mem_cons.1 hx with e | e
        · right; rw [e]; exact hy
        · exact .inl e
      · exact .inr hx
    | false =>
      have hy : y ∉ acc := fun hy => by
        have : acc.any (fun z => Nat.beq z y) = true := List.any_eq_true.2 ⟨y, hy, by simp⟩
        rw [this] at e; cases e
      obtain ⟨h1, h2⟩ := dedup_spec l (y :: acc) (List.nodup_cons.2 ⟨hy, h⟩)
      rw [cond_false]
      refine ⟨h1, fun x hx => h2 x ?_⟩
      rcases hx with hx | hx
      · rcases List.mem_cons.1 hx with e | e
        · right; rw [e]; exact List.mem_cons_self
        · exact .inl e
      · exact .inr (List.mem_cons_of_mem _ hx)
theorem place_get : ∀ (xs : List Nat) (x i : Nat), x ∈ xs → ∃ j, xs[j]? = some x ∧ placeOf x xs i = i + j
  | y :: xs, x, i, h => by
    simp only [placeOf]
    cases e : Nat.beq y x with
    | true =>
      have := Nat.eq_of_beq_eq_true e
      subst this
      exact ⟨0, rfl, rfl⟩
    | false =>
      rcases List.mem_cons.1 h with e' | e'
      · subst e'; simp at e
      · obtain ⟨j, h1, h2⟩ := place_get xs x (i + 1) e'
        exact ⟨j + 1, by simpa using h1, by rw [cond_false, h2]; omega⟩
theorem nodup_get {xs : List Nat} (h : xs.Nodup) {i j x : Nat} (hi : xs[i]? = some x) (hj : xs[j]? = some x) : i = j := by
  obtain ⟨h1, e1⟩ := List.getElem?_eq_some_iff.1 hi
  obtain ⟨h2, e2⟩ := List.getElem?_eq_some_iff.1 hj
  exact (List.getElem_inj h).1 (e1.trans e2.symm)
theorem place_of_get' {xs : List Nat} (h : xs.Nodup) {i x : Nat} (hi : xs[i]? = some x) (d : Nat) : placeOf x xs d = d + i := by
  obtain ⟨j, h1, h2⟩ := place_get xs x d (List.mem_of_getElem? hi)
  rw [h2, nodup_get h h1 hi]
theorem place_of_get {xs : List Nat} (h : xs.Nodup) {i x : Nat} (hi : xs[i]? = some x) : placeOf x xs 0 = i := by
  rw [place_of_get' h hi, Nat.zero_add]
theorem ofList_mem : ∀ (L : List (Nat × Val)) {l : Nat} {x : Val}, ofList L l = x → x = .none ∨ (l, x) ∈ L
  | [], l, x, h => .inl h.symm
  | (m, y) :: L, l, x, h => by
    simp only [ofList] at h
    cases e : Nat.beq l m with
    | true =>
      rw [e, cond_true] at h
      have := Nat.eq_of_beq_eq_true e
      subst this h
      exact .inr List.mem_cons_self
    | false =>
      rw [e, cond_false] at h
      exact (ofList_mem L h).imp id (List.mem_cons_of_mem _)
theorem numbered_mem {α : Type} {g : Nat → α} : ∀ (xs : List Nat) (i : Nat) {p : Nat × α}, p ∈ numbered g xs i → ∃ j x, xs[j]? = some x ∧ p = (i + j, g x)
  | x :: xs, i, p, h => by
    simp only [numbered] at h
    rcases List.mem_cons.1 h with e | e
    · exact ⟨0, x, rfl, e⟩
    · obtain ⟨j, y, h1, h2⟩ := numbered_mem xs (i + 1) e
      exact ⟨j + 1, y, by simpa using h1, by rw [h2]; congr 1; omega⟩
section
variable {P : Program} {M : Nat → Prop} {N : Nat} {w0 w : World} {keep : Kp} {f : Nat → Val} {c : Ctx} {a : Act}
/-- The names' new colours. -/
def recolour (bs ks : List Nat) : List Nat → List Nat
  | [] => []
  | [0] => [0]
  | 0 :: β :: q => if β ∈ bs then 0 :: placeOf β bs 0 :: q else []
  | (κ + 1) :: q => if κ ∈ ks then (placeOf κ ks bs.length + 1) :: q else []
def canonF (live bs ks : List Nat) (f : Nat → Val) : Nat → Val :=
  ofList ((live.map fun t => (sl t, renX bs ks (f (sl t)))) ++ (numbered (fun β => renX bs ks (f (bl β))) bs 0).map (fun p => (bl p.1, p.2)) ++ (numbered (fun κ => rootX (f (rl κ))) ks bs.length).map (fun p => (rl p.1, p.2)))
theorem canonF_slot {live bs ks : List Nat} {t : Nat} {x : Val} (h : canonF live bs ks f (sl t) = x) : x = .none ∨ (t ∈ live ∧ x = renX bs ks (f (sl t))) := by
  rcases ofList_mem _ h with e | e
  · exact .inl e
  · rw [List.mem_append, List.mem_append] at e
    rcases e with (e | e) | e
    · simp only [List.mem_map] at e
      obtain ⟨t', h1, h2⟩ := e
      injection h2 with h2 h3
      have : t' = t := by simp only [sl] at h2; omega
      subst this
      exact .inr ⟨h1, h3.symm⟩
    · simp only [List.mem_map] at e
      obtain ⟨p, _, h2⟩ := e
      injection h2 with h2 _
      simp only [sl, bl] at h2; omega
    · simp only [List.mem_map] at e
      obtain ⟨p, _, h2⟩ := e
      injection h2 with h2 _
      simp only [sl, rl] at h2; omega
theorem canonF_box {live bs ks : List Nat} {i : Nat} {x : Val} (h : canonF live bs ks f (bl i) = x) : x = .none ∨ ∃ β, bs[i]? = some β ∧ x = renX bs ks (f (bl β)) := by
  rcases ofList_mem _ h with e | e
  · exact .inl e
  · rw [List.mem_append, List.mem_append] at e
    rcases e with (e | e) | e
    · simp only [List.mem_map] at e
      obtain ⟨t', h1, h2⟩ := e
      injection h2 with h2 h3
      simp only [sl, bl] at h2; omega
    · simp only [List.mem_map] at e
      obtain ⟨p, hp, h2⟩ := e
      obtain ⟨j, β, hj, rfl⟩ := numbered_mem bs 0 hp
      injection h2 with h2 h3
      have : j = i := by simp only [bl] at h2; omega
      subst this
      exact .inr ⟨β, hj, h3.symm⟩
    · simp only [List.mem_map] at e
      obtain ⟨p, _, h2⟩ := e
      injection h2 with h2 _
      simp only [bl, rl] at h2; omega
theorem canonF_root {live bs ks : List Nat} {i : Nat} {x : Val} (h : canonF live bs ks f (rl i) = x) : x = .none ∨ ∃ j κ, ks[j]? = some κ ∧ i = bs.length + j ∧ x = rootX (f (rl κ)) := by
  rcases ofList_mem _ h with e | e
  · exact .inl e
  · rw [List.mem_append, List.mem_append] at e
    rcases e with (e | e) | e
    · simp only [List.mem_map] at e
      obtain ⟨t', h1, h2⟩ := e
      injection h2 with h2 h3
      simp only [sl, rl] at h2; omega
    · simp only [List.mem_map] at e
      obtain ⟨p, _, h2⟩ := e
      injection h2 with h2 _
      simp only [bl, rl] at h2; omega
    · simp only [List.mem_map] at e
      obtain ⟨p, hp, h2⟩ := e
      obtain ⟨j, κ, hj, rfl⟩ := numbered_mem ks bs.length hp
      injection h2 with h2 h3
      have : i = bs.length + j := by simp only [rl] at h2; omega
      exact .inr ⟨j, κ, hj, this, h3.symm⟩
theorem any_mem {xs : List Nat} {x : Nat} (h : (xs.any fun y => Nat.beq y x) = true) : x ∈ xs := by
  obtain ⟨z, hz, he⟩ := List.any_eq_true.1 h
  rw [← Nat.eq_of_beq_eq_true he]; exact hz
theorem ren_ok {bs ks : List Nat} {c c' : Ctx} (hχ : ∀ k, c.χ k = [] → c'.χ k = []) (hh : ∀ i κ, ks[i]? = some κ → placeOf κ ks bs.length = bs.length + i → c'.hdr (bs.length + i) = c.hdr κ ∧ c'.wid (bs.length + i) = c.wid κ) (hb : ∀ i β, bs[i]? = some β → placeOf β bs 0 = i → c'.blk i = c.blk β) {v : V} {x : Value} (hx : VR w c v x) : VR w c' (renV bs ks v) x ∧ ∀ L : Nat → Prop, (∀ i, i < ks.length + bs.length → L i) → vB L (renV bs ks v) := by
  cases v with
  | undef => exact ⟨trivial, fun _ _ => trivial⟩
  | no => exact ⟨trivial, fun _ _ => trivial⟩
  | int k n => exact ⟨hx, fun _ _ => trivial⟩
  | bool b => exact ⟨hx, fun _ _ => trivial⟩
  | str s => exact ⟨hx, fun _ _ => trivial⟩
  | nil => exact ⟨hx, fun _ _ => trivial⟩
  | dat e t xs => exact ⟨Rd_step (fun k hk _ => ⟨hχ k hk, rfl⟩) hx, fun _ _ => trivial⟩
  | own κ =>
    show VR w c' (cond _ _ _) x ∧ ∀ L : Nat → Prop, (∀ i, i < ks.length + bs.length → L i) → vB L (cond _ _ _)
    cases e : ks.any (fun y => Nat.beq y κ) with
    | false => exact ⟨trivial, fun _ _ => trivial⟩
    | true =>
      obtain ⟨j, h1, h2⟩ := place_get ks κ bs.length (any_mem e)
      refine ⟨?_, fun L hL => ?_⟩
      · show x = c'.hdr (placeOf κ ks bs.length)
        rw [h2, (hh j κ h1 h2).1]; exact hx
      · show L (placeOf κ ks bs.length)
        rw [h2]
        have := (List.getElem?_eq_some_iff.1 h1).1
        exact hL _ (by omega)
  | cut κ lo hi =>
    show VR w c' (cond _ _ _) x ∧ ∀ L : Nat → Prop, (∀ i, i < ks.length + bs.length → L i) → vB L (cond _ _ _)
    cases e : ks.any (fun y => Nat.beq y κ) with
    | false => exact ⟨trivial, fun _ _ => trivial⟩
    | true =>
      obtain ⟨j, h1, h2⟩ := place_get ks κ bs.length (any_mem e)
      refine ⟨?_, fun L hL => ?_⟩
      · obtain ⟨A, n, cp, A', g1, g2, g3, g4, g5, g6⟩ := hx
        show VR w c' (.cut (placeOf κ ks bs.length) lo hi) x
        rw [h2]
        exact ⟨A, n, cp, A', by rw [(hh j κ h1 h2).1]; exact g1, g2, g3, g4, g5, by rw [(hh j κ h1 h2).2]; exact g6⟩
      · show L (placeOf κ ks bs.length)
        rw [h2]
        have := (List.getElem?_eq_some_iff.1 h1).1
        exact hL _ (by omega)
  | bptr β off =>
    show VR w c' (cond _ _ _) x ∧ ∀ L : Nat → Prop, (∀ i, i < ks.length + bs.length → L i) → vB L (cond _ _ _)
    cases e : bs.any (fun y => Nat.beq y β) with
    | false => exact ⟨trivial, fun _ _ => trivial⟩
    | true =>
      obtain ⟨j, h1, h2⟩ := place_get bs β 0 (any_mem e)
      rw [Nat.zero_add] at h2
      refine ⟨?_, fun L hL => ?_⟩
      · show x = .pointer (some ⟨c'.blk (placeOf β bs 0), off, none⟩)
        rw [h2, hb j β h1 h2]; exact hx
      · show L (placeOf β bs 0)
        rw [h2]
        have := (List.getElem?_eq_some_iff.1 h1).1
        exact hL _ (by omega)
  | row _ _ _ _ => exact ⟨trivial, fun _ _ => trivial⟩
  | aptr _ _ => exact ⟨trivial, fun _ _ => trivial⟩
  | eptr _ _ _ => exact ⟨trivial, fun _ _ => trivial⟩
  | dptr _ _ _ => exact ⟨trivial, fun _ _ => trivial⟩
  | rptr _ _ _ _ _ => exact ⟨trivial, fun _ _ => trivial⟩
theorem All2.mapl {α β γ : Type} {R : α → β → Prop} {R' : γ → β → Prop} {g : α → γ} (hg : ∀ a b, R a b → R' (g a) b) : ∀ {as : List α} {bs : List β}, All2 R as bs → All2 R' (as.map g) bs
  | [], [], _ => trivial
  | _ :: _, _ :: _, h => ⟨hg _ _ h.1, All2.mapl hg h.2⟩
  | [], _ :: _, h => h.elim
  | _ :: _, [], h => h.elim
theorem canonF_ok (h : Rel M N w0 keep f c a w) {live bs ks : List Nat} (hbs : bs.Nodup) (hks : ks.Nodup) :
    ∃ c', Rel (Bel (ks.length + bs.length)) N w0 keep (canonF live bs ks f) c' a w := by
  let c' : Ctx := { χ := fun k => recolour bs ks (c.χ k)
                    hdr := fun i => (match ks[i - bs.length]? with | some κ => c.hdr κ | none => .slice none 0 0)
                    wid := fun i => (match ks[i - bs.length]? with | some κ => c.wid κ | none => 0)
                    blk := fun i => (match bs[i]? with | some β => c.blk β | none => 0)
                    gens := fun i => (match canonF live bs ks f (rl i), ks[i - bs.length]? with | .root _, some _ => some 0 | _, _ => none) }
  have hχ : ∀ k, c.χ k = [] → c'.χ k = [] := fun k hk => by show recolour bs ks (c.χ k) = []; rw [hk]; rfl
  have hhd : ∀ i κ, ks[i]? = some κ → c'.hdr (bs.length + i) = c.hdr κ ∧ c'.wid (bs.length + i) = c.wid κ := fun i κ hi => by
    constructor
    · show (match ks[bs.length + i - bs.length]? with | some κ => c.hdr κ | none => .slice none 0 0) = _; rw [Nat.add_sub_cancel_left, hi]
    · show (match ks[bs.length + i - bs.length]? with | some κ => c.wid κ | none => 0) = _; rw [Nat.add_sub_cancel_left, hi]
  have hbk : ∀ i β, bs[i]? = some β → c'.blk i = c.blk β := fun i β hi => by
    show (match bs[i]? with | some β => c.blk β | none => 0) = _; rw [hi]
  have ren : ∀ {v : V} {x : Value}, VR w c v x → VR w c' (renV bs ks v) x ∧ ∀ L : Nat → Prop, (∀ i, i < ks.length + bs.length → L i) → vB L (renV bs ks v) := fun hx => ren_ok hχ (fun i κ hi _ => hhd i κ hi) (fun i β hi _ => hbk i β hi) hx
  have hbound : ∀ v : V, ∀ L : Nat → Prop, (∀ i, i < ks.length + bs.length → L i) → vB L (renV bs ks v) := fun v => by
    cases v with
    | own κ =>
      intro L hL
      show vB L (cond _ _ _)
      cases e : ks.any (fun y => Nat.beq y κ) with
      | false => trivial
      | true =>
        obtain ⟨j, h1, h2⟩ := place_get ks κ bs.length (any_mem e)
        have := (List.getElem?_eq_some_iff.1 h1).1
        exact hL _ (by omega)
    | cut κ _ _ =>
      intro L hL
      show vB L (cond _ _ _)
      cases e : ks.any (fun y => Nat.beq y κ) with
      | false => trivial
      | true =>
        obtain ⟨j, h1, h2⟩ := place_get ks κ bs.length (any_mem e)
        have := (List.getElem?_eq_some_iff.1 h1).1
        exact hL _ (by omega)
    | bptr β _ =>
      intro L hL
      show vB L (cond _ _ _)
      cases e : bs.any (fun y => Nat.beq y β) with
      | false => trivial
      | true =>
        obtain ⟨j, h1, h2⟩ := place_get bs β 0 (any_mem e)
        have := (List.getElem?_eq_some_iff.1 h1).1
        exact hL _ (by omega)
    | _ => intro _ _; trivial
  have hsm : ∀ i, i < ks.length + bs.length → Bel (ks.length + bs.length) i := fun i hi => by show i < 64 * _; omega
  have hboundS : ∀ x : S, sB (Bel (ks.length + bs.length)) (renS bs ks x) := fun x => by
    cases x with
    | one v => exact hbound v _ hsm
    | agg vs =>
      intro v hv
      simp only [List.mem_map] at hv
      obtain ⟨u, _, rfl⟩ := hv
      exact hbound u _ hsm
    | arr t xs => trivial
    | tup cs => trivial
  refine ⟨c', ⟨h.size, h.defers, h.os, h.tape, h.output, h.hsize, fun k hk hl => ⟨by
      show recolour bs ks (c.χ k) = _
      rw [(h.kept k hk hl).1]
      rcases hk with e | e <;> · rw [e]; rfl, (h.kept k hk hl).2⟩, h.pars, fun t x hx => ?_, fun i b hb => ?_, fun i r hr => ?_, fun i g hg => ?_, fun l => ?_, fun i => ?_, fun i x hx => ?_⟩⟩
  · rcases canonF_slot hx with e | ⟨_, e⟩
    · cases e
    · cases hs : f (sl t) with
      | s y =>
        rw [hs] at e
        injection e with e
        subst e
        have hy := h.slots t y hs
        cases y with
        | one v => exact (ren hy).1
        | agg vs =>
          obtain ⟨cs, hcs, hall⟩ := hy
          exact ⟨cs, hcs, hall.mapl (g := renV bs ks) fun v u hv => (ren hv).1⟩
        | arr t xs => exact hy
        | tup cs => trivial
      | box b => rw [hs] at e; cases b <;> cases e
      | root r => rw [hs] at e; cases e
      | none => rw [hs] at e; cases e
  · rcases canonF_box hb with e | ⟨β, hi, e⟩
    · cases e
    · have hp := place_of_get hbs hi
      have hβ : β ∈ bs := List.mem_of_getElem? hi
      have hib := (List.getElem?_eq_some_iff.1 hi).1
      cases hs : f (bl β) with
      | box b' =>
        rw [hs] at e
        obtain ⟨hB, _⟩ := h.boxes β b' hs
        have hcol : ∀ k, c.χ k = [0, β] → c'.χ k = [0, i] := fun k hk => by
          show recolour bs ks (c.χ k) = _
          rw [hk]; simp only [recolour, if_pos hβ, hp]
        cases b' with
        | flds vs =>
          injection e with e; subst e
          obtain ⟨cs, T, h1, h2, h3, h4⟩ := hB
          exact ⟨⟨cs, T, by rw [hbk i β hi]; exact h1, by rw [hbk i β hi]; exact hcol _ h2, h3.mapl (g := renV bs ks) fun v u hv => (ren hv).1, h4⟩, hsm _ (by omega)⟩
        | arr t xs =>
          injection e with e; subst e
          obtain ⟨T, h1, h2, h3⟩ := hB
          exact ⟨⟨T, by rw [hbk i β hi]; exact h1, by rw [hbk i β hi]; exact hcol _ h2, h3⟩, hsm _ (by omega)⟩
      | s x => rw [hs] at e; cases e
      | root r => rw [hs] at e; cases e
      | none => rw [hs] at e; cases e
  · rcases canonF_root hr with e | ⟨i', κ, hi, hii, e⟩
    · cases e
    · subst hii
      have hp := place_of_get' hks hi bs.length
      have hκ : κ ∈ ks := List.mem_of_getElem? hi
      have hib := (List.getElem?_eq_some_iff.1 hi).1
      obtain ⟨r0, er, e0⟩ : ∃ r0, f (rl κ) = .root r0 ∧ r = { r0 with gen := 0 } := by
        cases hs : f (rl κ) with
        | root r0 =>
          rw [hs] at e
          injection e with e
          exact ⟨r0, rfl, e⟩
        | s x => rw [hs] at e; cases e
        | box b => rw [hs] at e; cases e
        | none => rw [hs] at e; cases e
      subst e0
      obtain ⟨⟨h1, h2, h3, h4, h5, v, inner, hv, ho, hc, hel⟩, _⟩ := h.roots κ r0 er
      have hcol : ∀ k q, c.χ k = (κ + 1) :: q → c'.χ k = (bs.length + i' + 1) :: q := fun k q hq => by
        show recolour bs ks (c.χ k) = _
        rw [hq]; simp only [recolour, if_pos hκ, hp]
      refine ⟨⟨by rw [(hhd i' κ hi).2]; exact h1, h2, h3, .inr ?_, h5, v, inner, by rw [(hhd i' κ hi).1]; exact hv, ho, fun k hk => hcol k [] (hc k hk), fun j x hx => ?_⟩, hsm _ (by omega)⟩
      · show (match canonF live bs ks f (rl (bs.length + i')), ks[bs.length + i' - bs.length]? with | .root _, some _ => some 0 | _, _ => none) = _
        rw [hr, Nat.add_sub_cancel_left, hi]
      · exact El_step h3 (fun k q hq _ => ⟨hcol k (j :: q) hq, rfl⟩) (fun k hk _ => ⟨hχ k hk, rfl⟩) (hel j x hx)
  · have hg : (match canonF live bs ks f (rl i), ks[i - bs.length]? with | .root _, some _ => some 0 | _, _ => none) = some g := hg
    split at hg
    · rename_i r κ e1 e2; exact ⟨r, e1⟩
    · cases hg
  · have key : ∀ x, canonF live bs ks f l = x → xB (Bel (ks.length + bs.length)) x := fun x hx => by
      rcases ofList_mem _ hx with e | e
      · rw [e]; trivial
      · rw [List.mem_append, List.mem_append] at e
        have hX : ∀ y : Val, xB (Bel (ks.length + bs.length)) (renX bs ks y) := fun y => by
          cases y with
          | none => trivial
          | s x => exact hboundS x
          | root r => trivial
          | box b => cases b with
            | arr t xs => trivial
            | flds vs =>
              intro v hv
              simp only [List.mem_map] at hv
              obtain ⟨u, _, rfl⟩ := hv
              exact hbound u _ hsm
        rcases e with (e | e) | e
        · simp only [List.mem_map] at e
          obtain ⟨t', h1, h2⟩ := e
          injection h2 with _ h2
          rw [← h2]; exact hX _
        · simp only [List.mem_map] at e
          obtain ⟨p, hp, h2⟩ := e
          obtain ⟨j, β, hj, rfl⟩ := numbered_mem bs 0 hp
          injection h2 with _ h2
          rw [← h2]; exact hX _
        · simp only [List.mem_map] at e
          obtain ⟨p, hp, h2⟩ := e
          obtain ⟨j, κ, hj, rfl⟩ := numbered_mem ks bs.length hp
          injection h2 with _ h2
          rw [← h2]
          cases hs : f (rl κ) with
          | none => trivial
          | root r => trivial
          | box b => trivial
          | s x => trivial
    exact key _ rfl
  · show ∃ A n cp, (match ks[i - bs.length]? with | some κ => c.hdr κ | none => .slice none 0 0) = .slice A n cp
    split
    · exact h.hdrs _
    · exact ⟨none, 0, 0, rfl⟩
  · rcases canonF_root hx with e | ⟨_, κ, _, _, e⟩
    · cases e
    · cases hs : f (rl κ) <;> · rw [hs] at e; cases e
theorem canon0_ok {nx : Nat} (h : Rel M N w0 keep f c a w) (live : List Nat) : ∃ c', Rel (Bel (canon0 live ⟨f, nx⟩).nx) N w0 keep (canon0 live ⟨f, nx⟩).f c' a w := by
  unfold canon0
  exact canonF_ok h (dedup_spec _ [] List.nodup_nil).1 (dedup_spec _ [] List.nodup_nil).1
theorem canon_ok {nx : Nat} (h : Rel M N w0 keep f c a w) (live : List Nat) : ∃ c', Rel (Bel (canon live ⟨f, nx⟩).nx) N w0 keep (canon live ⟨f, nx⟩).f c' a w := canon0_ok (nx := nx) h.rsv live
end
theorem Rel.drawn {M : Nat → Prop} {N : Nat} {w0 w : World} {keep : Kp} {f : Nat → Val} {c : Ctx} {a : Act} (h : Rel M N w0 keep f c a w) : Rel M N w0 keep f c a { w with drawn := w.drawn + 1 } :=
  h.reroot (c' := c) Le.rfl' (fun _ => False) (Nat.le_refl _) rfl rfl rfl (fun _ _ _ => ⟨rfl, rfl⟩) (fun _ _ => ⟨rfl, rfl⟩) rfl (fun _ _ hx => hx.elim) (fun _ _ _ => rfl) (fun _ _ => rfl) (fun κ r hr => .inl ⟨hr, fun h => h⟩) h.live (fun _ => .inl rfl) (fun _ => .inl rfl)
def exOf : Ex → Exit
  | .normal => .normal
  | .exit i => .exit i
  | .ret => .ret
theorem least_of {p : Nat → Prop} (h : ∃ n, p n) : ∃ n, p n ∧ ∀ m, p m → n ≤ m := by
  obtain ⟨n, hn⟩ := h
  induction n using Nat.strongRecOn with
  | _ n ih =>
    by_cases h : ∃ m, m < n ∧ p m
    · obtain ⟨m, h1, h2⟩ := h; exact ih m h1 h2
    · exact ⟨n, hn, fun m hm => by
        rcases Nat.lt_or_ge m n with h' | h'
        · exact absurd ⟨m, h', hm⟩ h
        · exact h'⟩
open Classical in
noncomputable def leastOf (p : Nat → Prop) : Nat := if h : ∃ n, p n then (least_of h).choose else 0
theorem leastOf_spec {p : Nat → Prop} (h : ∃ n, p n) : p (leastOf p) ∧ ∀ m, p m → leastOf p ≤ m := by
  unfold leastOf
  rw [dif_pos h]; exact (least_of h).choose_spec
/-- A loop whose rounds are numbered downwards. -/
theorem loop_down {P : Program} {Q : Exit → Act → World → Prop} {cd : Code} (I : Nat → Act → World → Prop) (h0 : ∀ a w, ¬ I 0 a w) (round : ∀ m a w, I (m + 1) a w → cd.wp P (Exit.then (I m) Q) a w) {m : Nat} {a : Act} {w : World} (h : I m a w) : (Code.loop cd).wp P Q a w := by
  refine wp_loop (fun a w => ∃ m, I m a w) (fun a w => leastOf fun m => I m a w) ⟨m, h⟩ fun a w hI => ?_
  obtain ⟨h1, h2⟩ := leastOf_spec hI
  cases e : leastOf (fun m => I m a w) with
  | zero => rw [e] at h1; exact absurd h1 (h0 a w)
  | succ n =>
    rw [e] at h1
    refine wp_mono (round n a w h1) fun e' a' w' hq => ?_
    cases e' with
    | normal =>
      refine ⟨⟨n, hq⟩, ?_⟩
      have := (leastOf_spec (p := fun m => I m a' w') ⟨n, hq⟩).2 n hq
      show leastOf (fun m => I m a' w') < _
      omega
    | _ => exact hq
section
variable {P : Program} {H : Hints} {N : Nat} {w0 : World} {keep : Kp} {R : Type} {r : R}
def After' (N : Nat) (w0 : World) (keep : Kp) (K : Ex → St → Option R) (r : R) (Q : Exit → Act → World → Prop) : Prop :=
  ∀ e f nx c a w, K e ⟨f, nx⟩ = some r → Rel (Bel nx) N w0 keep f c a w → Q (exOf e) a w
theorem exec_ok (call : CallR H) (hn : NiceG P H w0 keep) (hcall : ∀ fn x y, call fn x = some y → Meets P H fn x y) (lf : Nat) (hints : List (Nat × List Nat)) (ts : List Nat) (hts : ∀ t v, keep.par t = some v → t ∈ ts) : ∀ (cd : Code) {K : Ex → St → Option R} {Q : Exit → Act → World → Prop} {f : Nat → Val} {nx : Nat} {c : Ctx} {a : Act} {w : World}, dsts N ts cd = true → Rel (Bel nx) N w0 keep f c a w → execC P H call lf hints cd ⟨f, nx⟩ K = some r → After' N w0 keep K r Q → cd.wp P Q a w := by
  have hdok : ∀ {ops : Array Oper} {id : Nat} {draw : Bool}, dsts N ts (.region id ops draw) = true → DstOk N keep ops.toList := fun {ops id draw} hd o ho d e => by
    have := List.all_eq_true.1 hd o ho
    rw [e] at this
    simp only [Bool.and_eq_true, Nat.blt_eq, Bool.not_eq_true'] at this
    refine ⟨this.1, ?_⟩
    cases hp : keep.par d with
    | none => rfl
    | some v => rw [memN_mem.2 (hts d v hp)] at this; exact absurd this.2 (by simp)
  intro cd
  induction cd with
  | skip => intro K Q f nx c a w _ h hk hq; exact wp_skip (hq .normal f nx c a w hk h)
  | region id ops draw =>
    intro K Q f nx c a w hd h hk hq
    cases draw with
    | true =>
      simp only [execC, cond_true] at hk
      obtain ⟨hmix, hk⟩ := cond_some hk
      have hds : DstOk N keep ops.toList := hdok hd
      obtain ⟨us, lg, f', htr, hk⟩ := opsD_trace call ops.toList ops.toList nx hk
      obtain ⟨hok, hk⟩ := cond_some hk
      rw [List.nil_append] at hok
      obtain ⟨hlen, hf', hat⟩ := trace_at call ops.toList htr
      refine wp_region_any hmix ?_
      have h1 : Rel (Bel nx) N w0 keep f c a { w with drawn := w.drawn + 1 } := h.drawn
      have hnone : ∀ i, (Array.replicate ops.size false).getD i false = false := fun i => by
        rw [Array.getD_eq_getD_getElem?]
        rcases Nat.lt_or_ge i ops.size with hi | hi
        · simp [hi]
        · rw [Array.getElem?_eq_none (by simpa using hi)]; rfl
      have hstart : some' us 0 (fun i => (Array.replicate ops.size false).getD i false) f = f := by
        funext l
        exact some_skip fun j u _ hs => by rw [hnone] at hs; cases hs
      refine any_ok call hn hcall hds hlen (drawOk_spec hok) h.fresh hat (fun c a w hR => hq .normal f' _ c a w hk (by rw [hf']; exact hR)) ops.size (Array.replicate ops.size false) (c := c) (by simp) (fun i p hi => by rw [hnone] at hi; cases hi) ?_ ?_
      · exact Nat.le_trans (List.length_filter_le _ _) (by simp)
      · rw [hstart]
        exact h1.mono fun m hm => .inl hm
    | false =>
      simp only [execC, cond_false] at hk
      exact wp_region_list (ops_ok call hn hcall ops ops.toList nx (hdok hd) h hk fun f' c' a' w' h1 h2 => hq .normal f' _ c' a' w' h1 (by rw [← Array.length_toList]; exact h2))
  | seq x y ihx ihy =>
    intro K Q f nx c a w hd h hk hq
    simp only [dsts, Bool.and_eq_true] at hd
    simp only [execC] at hk
    refine wp_seq (ihx hd.1 h hk fun e f nx c a w h1 h2 => ?_)
    cases e with
    | normal => exact ihy hd.2 h2 h1 hq
    | exit i => exact hq _ _ _ _ _ _ h1 h2
    | ret => exact hq _ _ _ _ _ _ h1 h2
  | cond x y z ihy ihz =>
    intro K Q f nx c a w hd h hk hq
    simp only [dsts, Bool.and_eq_true] at hd
    simp only [execC] at hk
    split at hk
    · rename_i b e
      have hv := h.evv nx x
      rw [e] at hv
      have hv : a.eval x = .bool b := hv
      split at hk
      · rename_i hb; subst hb; exact wp_cond_true hv (ihy hd.1 h hk hq)
      · rename_i hb
        have hb : b = false := by cases b <;> simp_all
        subst hb; exact wp_cond_false hv (ihz hd.2 h hk hq)
    · cases hk
  | block id b ih =>
    intro K Q f nx c a w hd h hk hq
    simp only [execC] at hk
    refine wp_block (ih hd h hk fun e f nx c a w h1 h2 => ?_)
    cases e with
    | normal => exact hq .normal _ _ _ _ _ h1 h2
    | ret => exact hq .ret _ _ _ _ _ h1 h2
    | exit j =>
      show if j = id then _ else _
      cases e : Nat.beq j id with
      | true =>
        have e' := Nat.eq_of_beq_eq_true e
        simp only [e, cond_true] at h1
        rw [if_pos e']
        exact hq .normal _ _ _ _ _ h1 h2
      | false =>
        simp only [e, cond_false] at h1
        rw [if_neg (by intro e'; rw [e'] at e; simp at e)]
        exact hq (.exit j) _ _ _ _ _ h1 h2
  | loop b ih =>
    intro K Q f nx c a w hd h hk hq
    simp only [execC] at hk
    split at hk
    · rename_i i hi
      obtain ⟨c', h'⟩ := canon_ok (nx := nx) h (lookL hints i)
      refine loop_down (fun m a w => ∃ st c, Rel (Bel st.nx) N w0 keep st.f c a w ∧ loopI (fun s k => execC P H call lf hints b s k) (lookL hints i) m st K = some r) ?_ ?_ (m := lf) ⟨_, c', h', hk⟩
      · rintro a w ⟨st, c, _, h2⟩; cases h2
      · rintro m a w ⟨st, c, h1, h2⟩
        simp only [loopI] at h2
        refine ih hd (f := st.f) (nx := st.nx) h1 h2 fun e f nx c a w h3 h4 => ?_
        cases e with
        | normal =>
          obtain ⟨c', h'⟩ := canon_ok (nx := nx) h4 (lookL hints i)
          exact ⟨_, c', h', h3⟩
        | exit j => exact hq _ _ _ _ _ _ h3 h4
        | ret => exact hq _ _ _ _ _ _ h3 h4
    · cases hk
  | exit i => intro K Q f nx c a w _ h hk hq; exact wp_exit (hq (.exit i) f nx c a w hk h)
  | ret => intro K Q f nx c a w _ h hk hq; exact wp_ret (hq .ret f nx c a w hk h)
  | _ => intro K Q f nx c a w hd; cases hd
end
end Go.Proofs.Ytoioaijpdiglfaa.V
