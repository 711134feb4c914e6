/- Functions of the library, met by their contracts. -/
import Derived.Test.YtoioaijpdiglfaaGreatDoorVFun
set_option linter.unusedVariables false
set_option linter.unusedSimpArgs false
namespace Go.Proofs.YtoioaijpdiglfaaGreatDoor.V
open Go Go.RowKit
section
variable {P : Program} {H : Hints} {fn T : Nat} {F : Func} {c : Code}
def MeetsT (P : Program) (G : World → (Nat → List Nat) → Prop) (fn : Nat) (io : Nat → Bool) (rm : List RM) (out : List Nat) (n : Nat) (ts us : List Ty) (x : den (tupTy ts)) (y : den (tupTy us)) : Prop :=
  ∃ F c, P.funcs[fn]? = some F ∧ F.body = some c ∧ ∀ (w : World) (cs : List Value) (χ : Nat → List Nat), G w χ → ArgM w χ io ts 0 x cs →
    Calls P fn (grp P F.params.toList cs).toArray w fun e w' => ∃ ds χ', e = .returned (retV P F.resultTypes.toList (ds.take n)) ∧ OwnM w' χ' rm us y 0 ds ∧ ds.drop n = out.map (fun i => cs.getD i undef) ∧ After w w' χ χ'
/-- What is told of a function that hands back a string. -/
structure LibTy (P : Program) (H : Hints) (fn : Nat) (F : Func) (c : Code) (T : Nat) : Prop where
  isF : P.funcs[fn]? = some F
  isB : F.body = some c
  resT : F.resultTypes.toList = [T]
  ty : tysOf P 6 T = some [.str]
  ag : aggT P T = false
  out : H.out fn = []
  dats : H.dats fn = []
theorem lib_meets (h : LibTy P H fn F c T) {ts : List Ty} (hts : H.par fn = ts) (hus : H.res fn = [.str]) {l : LibF}
    (main : ∀ (x : den (tupTy ts)) (s : ByteArray), libRun l ts [.str] x = some s → ∀ w cs χ, Glob P H w χ → ArgM w χ (fun _ => false) ts 0 x cs → Calls P fn (grp P F.params.toList cs).toArray w fun e w' => e = .returned (.string s) ∧ Below w.heap.size w w') :
    ∀ x y, libRun l (H.par fn) (H.res fn) x = some y → Meets P H fn x y := by
  intro x y hxy
  show MeetsT P (Glob P H) fn (ioB H fn) (rmsOf H fn) (H.out fn) (nres H fn) (H.par fn) (H.res fn) x y
  have hio : ioB H fn = fun _ => false := by funext i; simp [ioB, h.out, memN]
  have hn : nres H fn = 1 := by unfold nres; rw [hus, h.out]; rfl
  have hrm : rmsOf H fn = [.own] := by unfold rmsOf; rw [hn, h.out, h.dats]; rfl
  rw [hio, hn, hrm, h.out]
  revert x y
  show ∀ (x : den (tupTy (H.par fn))) (y : den (tupTy (H.res fn))), libRun l (H.par fn) (H.res fn) x = some y → MeetsT P (Glob P H) fn (fun _ => false) [.own] [] 1 (H.par fn) (H.res fn) x y
  generalize H.par fn = ts' at hts
  generalize H.res fn = us at hus
  subst hts hus
  intro x s hx
  refine ⟨F, c, h.isF, h.isB, fun w cs χ hG ha => (main x s hx w cs χ hG ha).mono fun e w' ⟨he, hb⟩ => ⟨[.string s], χ, ?_, ⟨.string s, rfl, rfl⟩, rfl, ⟨hb.size, fun k _ hk => ⟨rfl, hb.block k hk⟩, hb.os, hb.tape, hb.output⟩⟩⟩
  rw [he, h.resT]
  simp [retV, grp, h.ty, h.ag]
theorem lib_itoa (h : LibTy P H fn F c T) {T1 : Nat} (hp : F.params.toList = [T1]) (h1 : tysOf P 6 T1 = some [.int .i64]) (a1 : aggT P T1 = false) (hts : H.par fn = [.int .i64]) (hus : H.res fn = [.str]) {nm : String} {kd : IntKind} {zs : List Int} (htab : H.tab = some (nm, kd, zs))
    (hc : ∀ (n : Int) (w : World), -9223372036854775808 ≤ n → n ≤ 9223372036854775807 → w.var? P nm = some (zs.map fun z => Value.int kd z).toArray → Calls P fn #[.int .i64 n] w fun e w' => e = .returned (.string (itoaB n)) ∧ Below w.heap.size w w') :
    ∀ x y, libRun .itoa (H.par fn) (H.res fn) x = some y → Meets P H fn x y := by
  refine lib_meets h hts hus fun n s hx w cs χ hG ha => ?_
  obtain ⟨d, rfl, hd⟩ := ha
  have hd : [d] = [Value.int .i64 n] := hd
  injection hd with hd _
  subst hd
  have hx : itoaC n = some s := hx
  unfold itoaC at hx
  split at hx
  · split at hx
    · injection hx with hx
      subst hx
      rename_i g1 g2
      have := hc n w g1 g2 (hG nm kd zs htab).1
      rw [hp]
      simpa [grp, h1, a1] using this
    · cases hx
  · cases hx
theorem lib_join (h : LibTy P H fn F c T) {T1 T2 e : Nat} (hp : F.params.toList = [T1, T2]) (h1 : tysOf P 6 T1 = some [.sl e .str]) (a1 : aggT P T1 = false) (h2 : tysOf P 6 T2 = some [.str]) (a2 : aggT P T2 = false) (hts : H.par fn = [.sl e .str, .str]) (hus : H.res fn = [.str])
    (hc0 : ∀ (a : Option Addr) (cp : Nat) (sep : ByteArray) (w : World), Calls P fn #[.slice a 0 cp, .string sep] w fun e w' => e = .returned (.string ⟨#[]⟩) ∧ w' = w)
    (hc : ∀ (bk o cp : Nat) (xs : List ByteArray) (sep : ByteArray) (w : World), (∀ (j : Nat) x, xs[j]? = some x → w.cell? ⟨bk, o + j, none⟩ = some (.string x)) → bk < w.heap.size → xs.length ≤ 140737488355328 → xs.length ≤ cp → (joinB xs sep).size ≤ 140737488355328 → Calls P fn #[.slice (some ⟨bk, o, none⟩) xs.length cp, .string sep] w fun e w' => e = .returned (.string (joinB xs sep)) ∧ Below w.heap.size w w') :
    ∀ x y, libRun .join (H.par fn) (H.res fn) x = some y → Meets P H fn x y := by
  refine lib_meets h hts hus fun x s hx w cs χ hG ha => ?_
  obtain ⟨xs, sep⟩ := x
  obtain ⟨d, r, rfl, hd, d2, rfl, hd2⟩ := ha
  have hd2 : [d2] = [Value.string sep] := hd2
  injection hd2 with hd2 _
  subst hd2
  have hx : joinC xs sep = some s := hx
  unfold joinC at hx
  split at hx
  · split at hx
    · injection hx with hx
      subst hx
      rename_i g1 g2
      obtain ⟨A, cp, inner, hv, hcp, _, hil, hcell, hel⟩ := (hd : Rd w (fun k => χ k = []) (.sl e .str) xs [d])
      injection hv with hv _
      subst hv
      have hil : inner.length = (xs : List ByteArray).length := by simpa [width] using hil
      have hinner : ∀ (j : Nat) x, (xs : List ByteArray)[j]? = some x → inner[j]? = some (Value.string x) := fun j x hj => by
        have h3 := hel j x hj
        have h3 : (inner.drop (j * 1)).take 1 = [Value.string x] := h3
        have hjl : j < inner.length := by have := (List.getElem?_eq_some_iff.1 hj).1; omega
        rw [Nat.mul_one, List.drop_eq_getElem_cons hjl] at h3
        injection h3 with h3 _
        rw [List.getElem?_eq_getElem hjl, h3]
      rw [hp]
      have hgrp : grp P [T1, T2] [Value.slice A (xs : List ByteArray).length cp, Value.string sep] = [Value.slice A (xs : List ByteArray).length cp, Value.string sep] := by simp [grp, h1, a1, h2, a2]
      rw [hgrp]
      cases hxs : (xs : List ByteArray) with
      | nil =>
        exact (hc0 A cp sep w).mono fun e w' ⟨he, hw⟩ => ⟨by rw [he]; rfl, by rw [hw]; exact Below.refl _ _⟩
      | cons y ys =>
        obtain ⟨ad, hA, _, hc1⟩ := hcell 0 _ (hinner 0 y (by rw [hxs]; rfl))
        have hc1 : w.cell? ad = some (Value.string y) := hc1
        obtain ⟨bk, o, sp⟩ := ad
        have hsp : sp = none := by
          unfold World.cell? at hc1
          split at hc1
          · cases sp with
            | none => rfl
            | some _ => cases hc1
          · cases hc1
        subst hsp
        have hbk : bk < w.heap.size := by
          unfold World.cell? at hc1
          split at hc1
          · rename_i ho; exact (Array.getElem?_eq_some_iff.1 ho).1
          · cases hc1
        subst hA
        rw [← hxs]
        refine hc bk o cp xs sep w (fun j x hj => ?_) hbk g2 hcp g1
        obtain ⟨ad, hA, _, hc2⟩ := hcell j _ (hinner j x hj)
        injection hA with hA
        subst hA
        have : (⟨bk, o, none⟩ : Addr).add j = ⟨bk, o + j, none⟩ := by
          unfold Addr.add
          by_cases e0 : j = 0
          · rw [if_pos e0, e0]; rfl
          · rw [if_neg e0]
        rw [← this]; exact hc2
    · cases hx
  · cases hx
theorem lib_rep (h : LibTy P H fn F c T) {T1 T2 : Nat} (hp : F.params.toList = [T1, T2]) (h1 : tysOf P 6 T1 = some [.str]) (a1 : aggT P T1 = false) (h2 : tysOf P 6 T2 = some [.int .i64]) (a2 : aggT P T2 = false) (hts : H.par fn = [.str, .int .i64]) (hus : H.res fn = [.str])
    (hc : ∀ (s : ByteArray) (n : Nat) (w : World), n ≤ 9223372036854775807 → s.size * n ≤ 140737488355328 → Calls P fn #[.string s, .int .i64 n] w fun e w' => e = .returned (.string (repB s n)) ∧ Below w.heap.size w w') :
    ∀ x y, libRun .rep (H.par fn) (H.res fn) x = some y → Meets P H fn x y := by
  refine lib_meets h hts hus fun x s hx w cs χ hG ha => ?_
  obtain ⟨t, n⟩ := x
  obtain ⟨d, r, rfl, hd, d2, rfl, hd2⟩ := ha
  have hd : [d] = [Value.string t] := hd
  injection hd with hd _
  subst hd
  have hd2 : [d2] = [Value.int .i64 n] := hd2
  injection hd2 with hd2 _
  subst hd2
  have hx : repC t n = some s := hx
  unfold repC at hx
  split at hx
  · split at hx
    · split at hx
      · injection hx with hx
        subst hx
        rename_i g0 g1 g2
        obtain ⟨m, hm⟩ : ∃ m : Nat, (n : Int) = (m : Int) := ⟨Int.toNat n, (Int.toNat_of_nonneg g0).symm⟩
        have hm2 : Int.toNat n = m := by rw [hm]; rfl
        have := hc t m w (by omega) (by rw [← hm2]; exact g2)
        rw [hp, hm2, hm]
        simpa [grp, h1, a1, h2, a2] using this
      · cases hx
    · cases hx
  · cases hx
theorem lookA_mem {α : Type} {d : α} {look : List (Nat × α) → Nat → α} (h0 : ∀ i, look [] i = d) (h1 : ∀ p r i, look (p :: r) i = cond (Nat.beq p.1 i) p.2 (look r i)) : ∀ {L : List (Nat × α)} {i : Nat}, look L i = d ∨ (i, look L i) ∈ L
  | [], i => .inl (h0 i)
  | p :: r, i => by
    rw [h1]
    cases e : Nat.beq p.1 i with
    | true =>
      right
      have := Nat.eq_of_beq_eq_true e
      rw [cond_true, ← this]; exact List.mem_cons_self
    | false =>
      rw [cond_false]
      rcases lookA_mem h0 h1 (L := r) (i := i) with h | h
      · exact .inl h
      · exact .inr (List.mem_cons_of_mem _ h)
end
end Go.Proofs.YtoioaijpdiglfaaGreatDoor.V
