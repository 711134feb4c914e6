/- What an operation writes: its slot, names of its own, names that its operands lead to. -/
import Derived.Test.YtoioaijpdiglfaaVBind
import Derived.Test.YtoioaijpdiglfaaVCallC
set_option linter.unusedVariables false
set_option linter.unusedSimpArgs false
namespace Go.Proofs.Ytoioaijpdiglfaa.V
open Go
/-- Boxes of B lead to names of A. -/
def Shut (B A : Nat → Prop) (f : Nat → Val) : Prop := ∀ n, B n → xB A (f (bl n))
def WrOk (A : Nat → Prop) (key : Nat) (dst : Option Nat) (u : Wr) : Prop := ∀ p ∈ u, (∃ d, dst = some d ∧ p.1 = sl d ∧ xB (Un A key) p.2) ∨ ∃ n, Un A key n ∧ (p.1 = bl n ∨ p.1 = rl n) ∧ xB (Un A key) p.2
section
variable {A B : Nat → Prop} {f g : Nat → Val} {R : Type} {P : Program} {H : Hints} {key : Nat} {dst : Option Nat}
theorem cond_some {α : Type} {b : Bool} {x : Option α} {y : α} (h : cond b x none = some y) : b = true ∧ x = some y := by
  cases b with
  | true => exact ⟨rfl, h⟩
  | false => cases h
theorem ite_some {α : Type} {p : Prop} [Decidable p] {x : Option α} {y : α} (h : (if p then x else none) = some y) : p ∧ x = some y := by
  split at h
  · exact ⟨‹_›, h⟩
  · cases h
theorem put_wr {x : S} (hx : sB (Un A key) x) : WrOk A key dst (putS dst x) := by
  intro p hp
  cases dst with
  | none => cases hp
  | some d => rw [show putS (some d) x = [(sl d, .s x)] from rfl, List.mem_singleton] at hp; rw [hp]; exact .inl ⟨d, rfl, rfl, hx⟩
theorem app_wr {u v : Wr} (hu : WrOk A key dst u) (hv : WrOk A key dst v) : WrOk A key dst (u ++ v) := fun p hp => (List.mem_append.1 hp).elim (hu p) (hv p)
theorem one_wr {l : Nat} {x : Val} {n : Nat} (hn : Un A key n) (hl : l = bl n ∨ l = rl n) (hx : xB (Un A key) x) : WrOk A key dst [(l, x)] := fun p hp => by
  rw [List.mem_singleton] at hp; rw [hp]; exact .inr ⟨n, hn, hl, hx⟩
theorem two_wr {l l' : Nat} {x x' : Val} {n n' : Nat} (hn : Un A key n) (hl : l = bl n ∨ l = rl n) (hx : xB (Un A key) x) (hn' : Un A key n') (hl' : l' = bl n' ∨ l' = rl n') (hx' : xB (Un A key) x') : WrOk A key dst [(l, x), (l', x')] := app_wr (one_wr hn hl hx) (one_wr hn' hl' hx')
theorem loadC_wr (hs : Shut B A f) {T : Nat} {p : V} (hB : vB B p) (hp : vB A p) {x : S} (h : loadC P f T p some = some x) : sB (Un A key) x := by
  unfold loadC at h
  cases hok : ldOk P T with
  | false => rw [hok] at h; cases h
  | true =>
    rw [hok, cond_true] at h
    split at h
    · rename_i β off
      split at h
      · rename_i vs eb
        cases hc : Nat.ble (off + sizeT P T) vs.length with
        | false => rw [hc] at h; cases h
        | true =>
          rw [hc, cond_true] at h
          injection h with h; subst h
          have := hs β hB
          rw [eb] at this
          exact mkS_b fun v hv => vB_mono Le.un (this v (List.mem_of_mem_drop (List.mem_of_mem_take hv)))
      · cases h
    · split at h
      · rename_i t xs eb
        cases hag : aggT P T with
        | true => rw [hag] at h; cases h
        | false =>
          rw [hag, cond_false] at h
          split at h
          · injection h with h; subst h; exact leafV_b _ _ _ _
          · cases h
      · cases h
    · rename_i t x' off
      cases hc : Nat.ble (off + sizeT P T) (width t) with
      | false => rw [hc] at h; cases h
      | true =>
        rw [hc, cond_true] at h
        injection h with h; subst h
        exact mkS_b fun v hv => by
          obtain ⟨j, _, rfl⟩ := List.mem_map.1 hv
          exact leafV_b _ _ _ _
    · rename_i κ i off
      split at h
      · rename_i r er
        split at h
        · cases hc : Nat.ble (off + sizeT P T) (width r.t) with
          | false => rw [hc] at h; cases h
          | true =>
            rw [hc, cond_true] at h
            injection h with h; subst h
            exact mkS_b fun v hv => by
              obtain ⟨j, _, rfl⟩ := List.mem_map.1 hv
              unfold rootLeaf
              cases r.deep with
              | false => exact leafV_b _ _ _ _
              | true =>
                rw [cond_true]
                cases leafV r.t (r.xs.getD i (dflt r.t)) (off + j) <;> first | trivial | exact .inl hp
        · cases h
      · cases h
    · split at h
      · split at h
        · obtain ⟨_, h⟩ := cond_some h
          split at h
          · obtain ⟨_, h⟩ := cond_some h
            obtain ⟨_, h⟩ := ite_some h
            injection h with h; subst h
            exact leafV_b _ _ _ _
          · cases h
        · cases h
      · cases h
    · cases h
theorem drop_wr {vs : List V} (hv : ∀ v ∈ vs, vB A v) : WrOk A key dst (dropKeys (ownKeys vs)) := fun p hp => by
  obtain ⟨κ, hκ, rfl⟩ := List.mem_map.1 hp
  exact .inr ⟨κ, .inl (hv _ (ownKeys_mem.1 hκ)), .inr rfl, trivial⟩
theorem storeC_wr (hs : Shut B A f) {T : Nat} {p : V} {x : S} (hB : vB B p) (hp : vB A p) (hx : sB A x) {u : Wr} (h : storeC P f T p x some = some u) : WrOk A key dst u := by
  unfold storeC at h
  cases hpos : Nat.blt 0 (sizeT P T) with
  | false => rw [hpos] at h; cases h
  | true =>
    rw [hpos, cond_true] at h
    split at h
    · rename_i β off
      split at h
      · rename_i vs eb
        cases hc : (Nat.ble (off + sizeT P T) vs.length && (Nat.beq (leavesS x).length (sizeT P T) && (leavesS x).all okLeaf)) with
        | false => rw [hc] at h; cases h
        | true =>
          rw [hc, cond_true] at h
          injection h with h; subst h
          refine one_wr (.inl hp) (.inl rfl) fun v hv => vB_mono Le.un ?_
          have := hs β hB
          rw [eb] at this
          rw [List.mem_append, List.mem_append] at hv
          rcases hv with (hv | hv) | hv
          · exact this v (List.mem_of_mem_take hv)
          · exact leaves_in hx v hv
          · exact this v (List.mem_of_mem_drop hv)
      · rename_i t xs eb
        split at h
        · rename_i t' ys
          cases hc : Nat.beq off 0 with
          | false => rw [hc] at h; cases h
          | true =>
            rw [hc, cond_true] at h
            split at h
            · split at h
              · injection h with h; subst h; exact one_wr (.inl hp) (.inl rfl) trivial
              · cases h
            · cases h
        · cases h
      · cases h
    · split at h
      · rename_i t xs eb
        cases hc : Nat.beq (sizeT P T) 1 with
        | false => rw [hc] at h; cases h
        | true =>
          rw [hc, cond_true] at h
          split at h
          · split at h
            · injection h with h; subst h; exact one_wr (.inl hp) (.inl rfl) trivial
            · cases h
          · cases h
      · cases h
    · split at h
      · rename_i r er
        split at h
        · rename_i v
          obtain ⟨_, h⟩ := cond_some h
          split at h
          · cases hfl : flat r.t with
            | true =>
              rw [hfl, cond_true] at h
              obtain ⟨_, h⟩ := cond_some h
              injection h with h; subst h; exact one_wr (.inl hp) (.inr rfl) trivial
            | false =>
              rw [hfl, cond_false] at h
              obtain ⟨_, h⟩ := cond_some h
              injection h with h; subst h
              exact app_wr (drop_wr (fun u hu => by rw [List.mem_singleton.1 hu]; exact hx)) (one_wr (.inl hp) (.inr rfl) trivial)
          · cases h
        · rename_i vs
          obtain ⟨_, h⟩ := cond_some h
          split at h
          · cases hfl : flat r.t with
            | true =>
              rw [hfl, cond_true] at h
              obtain ⟨_, h⟩ := cond_some h
              injection h with h; subst h; exact one_wr (.inl hp) (.inr rfl) trivial
            | false =>
              rw [hfl, cond_false] at h
              obtain ⟨_, h⟩ := cond_some h
              injection h with h; subst h
              exact app_wr (drop_wr hx) (one_wr (.inl hp) (.inr rfl) trivial)
          · cases h
        · cases h
      · cases h
    · split at h
      · split at h
        · obtain ⟨_, h⟩ := cond_some h
          split at h
          · obtain ⟨_, h⟩ := cond_some h
            split at h
            · obtain ⟨_, h⟩ := ite_some h
              split at h
              · injection h with h; subst h; exact one_wr (.inl hp) (.inr rfl) trivial
              · cases h
            · cases h
          · cases h
        · cases h
      · cases h
    · cases h
theorem indexC_wr {T : Nat} {p : V} (hp : vB A p) {i : Int} {v : V} (h : indexC P f T p i some = some v) : vB A v := by
  unfold indexC at h
  split at h
  · split at h
    · split at h
      · obtain ⟨_, h⟩ := cond_some h
        obtain ⟨_, h⟩ := ite_some h
        obtain ⟨_, h⟩ := ite_some h
        injection h with h; subst h; exact hp
      · cases h
    · cases h
  · split at h
    · obtain ⟨_, h⟩ := cond_some h
      obtain ⟨_, h⟩ := ite_some h
      obtain ⟨_, h⟩ := ite_some h
      injection h with h; subst h; trivial
    · split at h
      · obtain ⟨_, h⟩ := cond_some h
        obtain ⟨_, h⟩ := ite_some h
        obtain ⟨_, h⟩ := ite_some h
        injection h with h; subst h; exact hp
      · cases h
    · split at h
      · obtain ⟨_, h⟩ := cond_some h
        obtain ⟨_, h⟩ := ite_some h
        obtain ⟨_, h⟩ := ite_some h
        injection h with h; subst h; exact hp
      · cases h
    · split at h
      · split at h
        · obtain ⟨_, h⟩ := cond_some h
          split at h
          · obtain ⟨_, h⟩ := cond_some h
            obtain ⟨_, h⟩ := ite_some h
            obtain ⟨_, h⟩ := ite_some h
            injection h with h; subst h; exact hp
          · cases h
        · cases h
      · cases h
    · cases h
  · cases h
theorem ends_some {α : Type} {n : Nat} {lo hi : Option Int} {k : Nat → Nat → Option α} {y : α} (h : ends n lo hi k = some y) : ∃ i j, k i j = some y := by
  unfold ends at h
  split at h
  · exact ⟨_, _, h⟩
  · exact ⟨_, _, (bound_some h).2.2⟩
  · exact ⟨_, _, (bound_some h).2.2⟩
  · exact ⟨_, _, (bound_some (bound_some h).2.2).2.2⟩
theorem sliceC_wr {T : Nat} {p : V} (hp : vB A p) {lo hi : Option Int} {v : V} (h : sliceC P f T p lo hi some = some v) : vB A v := by
  unfold sliceC at h
  split at h
  · split at h
    · obtain ⟨i, j, h⟩ := ends_some h
      injection h with h; subst h; trivial
    · cases h
  · split at h
    · obtain ⟨_, h⟩ := cond_some h
      obtain ⟨i, j, h⟩ := ends_some h
      injection h with h; subst h; trivial
    · split at h
      · obtain ⟨_, h⟩ := cond_some h
        obtain ⟨i, j, h⟩ := ends_some h
        injection h with h; subst h; exact hp
      · cases h
    · split at h
      · obtain ⟨_, h⟩ := cond_some h
        obtain ⟨i, j, h⟩ := ends_some h
        injection h with h; subst h; exact hp
      · cases h
    · cases h
  · cases h
theorem putV_wr {v : V} (hv : vB (Un A key) v) : WrOk A key dst (putV dst v) := put_wr (x := .one v) hv
theorem takeS_in {v : V} {ks : List Nat} {d : Bool} (hv : vB A v) (h : takeS f v = some (ks, d)) : ∀ κ ∈ ks, A κ := by
  cases v with
  | nil => injection h with h; injection h with h _; subst h; intro κ hκ; cases hκ
  | own κ' =>
    simp only [takeS] at h
    split at h
    · obtain ⟨_, h⟩ := cond_some h
      injection h with h; injection h with h _; subst h
      intro κ hκ; rw [List.mem_singleton.1 hκ]; exact hv
    · cases h
  | cut κ' lo hi =>
    cases lo with
    | succ _ => cases h
    | zero =>
      simp only [takeS] at h
      split at h
      · obtain ⟨_, h⟩ := cond_some h
        injection h with h; injection h with h _; subst h
        intro κ hκ; rw [List.mem_singleton.1 hκ]; exact hv
      · cases h
  | _ => cases h
theorem takeX_in {v : V} {ks : List Nat} {d : Bool} (hv : vB A v) (h : takeX f v = some (ks, d)) : ∀ κ ∈ ks, A κ := by
  cases v with
  | nil => injection h with h; injection h with h _; subst h; intro κ hκ; cases hκ
  | dat _ _ _ => injection h with h; injection h with h _; subst h; intro κ hκ; cases hκ
  | own κ' =>
    simp only [takeX] at h
    split at h
    · obtain ⟨_, h⟩ := cond_some h
      injection h with h; injection h with h _; subst h
      intro κ hκ; rw [List.mem_singleton.1 hκ]; exact hv
    · cases h
  | _ => cases h
theorem appendC_wr {e : Nat} {t : Ty} {b : Nat} {s x : V} (hp : vB A s) (hx : vB A x) {u : Wr} (h : appendC f (64 * key) e t b s x dst some = some u) : WrOk A key dst u := by
  unfold appendC at h
  split at h
  · obtain ⟨_, h⟩ := ite_some h
    cases hfl : flat t with
    | true =>
      rw [hfl, cond_true] at h
      split at h
      · injection h with h; subst h
        exact app_wr (one_wr (un_self key) (.inr rfl) trivial) (putV_wr (un_self key))
      · injection h with h; subst h
        exact app_wr (two_wr (.inl hp) (.inr rfl) trivial (un_self key) (.inr rfl) trivial) (putV_wr (un_self key))
      · injection h with h; subst h
        exact app_wr (two_wr (.inl hp) (.inr rfl) trivial (un_self key) (.inr rfl) trivial) (putV_wr (un_self key))
      · split at h
        · split at h
          · injection h with h; subst h
            exact app_wr (two_wr (.inl hp) (.inr rfl) trivial (un_self key) (.inr rfl) trivial) (putV_wr (un_self key))
          · cases h
        · cases h
      · cases h
    | false =>
      rw [hfl, cond_false] at h
      split at h
      · rename_i ks sd kx xd e1 e2
        obtain ⟨_, h⟩ := cond_some h
        injection h with h; subst h
        refine app_wr (app_wr (fun p hp' => ?_) (one_wr (un_self key) (.inr rfl) trivial)) (putV_wr (un_self key))
        obtain ⟨κ, hκ, rfl⟩ := List.mem_map.1 hp'
        refine .inr ⟨κ, .inl ?_, .inr rfl, trivial⟩
        rcases List.mem_append.1 hκ with h' | h'
        · exact takeS_in hp e1 κ h'
        · exact takeX_in hx e2 κ h'
      · cases h
  · cases h
theorem copyC_wr {e : Nat} {s x : V} (hp : vB A s) {u : Wr} (h : copyC f e s x dst some = some u) : WrOk A key dst u := by
  unfold copyC at h
  split at h
  · split at h
    · obtain ⟨_, h⟩ := cond_some h
      split at h
      · injection h with h; subst h; exact app_wr (one_wr (.inl hp) (.inr rfl) trivial) (putV_wr trivial)
      · cases h
    · cases h
  · split at h
    · obtain ⟨_, h⟩ := cond_some h
      split at h
      · injection h with h; subst h; exact app_wr (one_wr (.inl hp) (.inr rfl) trivial) (putV_wr trivial)
      · cases h
    · cases h
  · cases h
theorem binC_wr {b : BinOp} {x y : V} {w : V → Wr} {u : Wr} (h : binC b x y (fun v => some (w v)) = some u) : ∃ v, u = w v ∧ ∀ B : Nat → Prop, vB B v := by
  cases x <;> try cases h
  all_goals cases y <;> try cases h
  · cases b
    case shl =>
      simp only [binC] at h
      split at h
      · cases h
      · injection h with h; exact ⟨_, h.symm, fun _ => trivial⟩
    case shr =>
      simp only [binC] at h
      split at h
      · cases h
      · injection h with h; exact ⟨_, h.symm, fun _ => trivial⟩
    all_goals simp only [binC, intOpC] at h
    all_goals obtain ⟨_, h⟩ := cond_some h
    all_goals first
      | (injection h with h; exact ⟨_, h.symm, fun _ => trivial⟩)
      | (cases h; done)
      | (split at h
         · cases h
         · injection h with h; exact ⟨_, h.symm, fun _ => trivial⟩)
  · cases b <;> simp only [binC] at h <;> first
      | (injection h with h; exact ⟨_, h.symm, fun _ => trivial⟩)
      | (obtain ⟨_, h⟩ := ite_some h; injection h with h; exact ⟨_, h.symm, fun _ => trivial⟩)
      | cases h
theorem minmaxC_wr {mx : Bool} {x y : V} {v : V} (h : minmaxC mx x y some = some v) (B : Nat → Prop) : vB B v := by
  unfold minmaxC at h
  split at h
  · obtain ⟨_, h⟩ := cond_some h
    cases mx <;> (injection h with h; subst h; trivial)
  · cases h
theorem of_bind {α : Type} {x : Option α} {w : α → Wr} {u : Wr} (h : x.bind (fun v => some (w v)) = some u) : ∃ v, x = some v ∧ u = w v := by
  cases x with
  | none => cases h
  | some v => injection h with h; exact ⟨v, rfl, h.symm⟩
theorem builtinC_wr {b : Builtin} {args : List S} (h' : ∀ x ∈ args, sB A x) {ats : List Nat} {u : Wr} (h : builtinC P f b args ats (64 * key) dst some = some u) : WrOk A key dst u := by
  unfold builtinC at h
  split at h
  · split at h
    · split at h
      · injection h with h; subst h; exact putV_wr trivial
      · cases h
    · split at h
      · injection h with h; subst h; exact putV_wr trivial
      · cases h
    · cases h
  · rename_i s x T T'
    split at h
    · split at h
      · obtain ⟨_, h⟩ := cond_some h
        exact appendC_wr (h' (.one s) List.mem_cons_self) (h' (.one x) (List.mem_cons_of_mem _ List.mem_cons_self)) h
      · cases h
    · cases h
  · rename_i s x T T'
    split at h
    · obtain ⟨_, h⟩ := cond_some h
      split at h
      · obtain ⟨_, h⟩ := cond_some h
        exact copyC_wr (h' (.one s) List.mem_cons_self) h
      · cases h
    · cases h
  · rename_i x y
    rw [minmaxC_bind true x y (fun v => some (putV dst v))] at h
    obtain ⟨v, h1, rfl⟩ := of_bind h
    exact putV_wr (minmaxC_wr h1 _)
  · rename_i x y
    rw [minmaxC_bind false x y (fun v => some (putV dst v))] at h
    obtain ⟨v, h1, rfl⟩ := of_bind h
    exact putV_wr (minmaxC_wr h1 _)
  · cases h
theorem nil_wr : WrOk A key dst [] := fun p hp => absurd hp List.not_mem_nil
theorem boxB (B : Nat → Prop) {t : Ty} {x : den t} : xB B (.box (.flds (boxLeaves t x))) := boxLeaves_b B
theorem outLeaf_wr {m : OM} {t : Ty} {x : den t} {n : Nat} (hm : omB A m) (hn : Un A key n) : WrOk A key dst (outLeaf f m t x n).2 ∧ vB (Un A key) (outLeaf f m t x n).1 := by
  cases m with
  | new =>
    cases t with
    | sl e t => exact ⟨one_wr hn (.inr rfl) trivial, hn⟩
    | ptr T t => exact ⟨one_wr hn (.inl rfl) (boxB _), hn⟩
    | _ => exact ⟨nil_wr, leafV_b _ _ _ _⟩
  | dat =>
    cases t with
    | sl e t => exact ⟨nil_wr, trivial⟩
    | ptr T t => exact ⟨one_wr hn (.inl rfl) (boxB _), hn⟩
    | _ => exact ⟨nil_wr, leafV_b _ _ _ _⟩
  | back v =>
    cases t with
    | sl e t =>
      cases v with
      | own κ => exact ⟨one_wr (.inl hm) (.inr rfl) trivial, trivial⟩
      | row κ g i o =>
        simp only [outLeaf]
        split
        · split
          · exact ⟨one_wr (.inl hm) (.inr rfl) trivial, trivial⟩
          · exact ⟨nil_wr, trivial⟩
        · exact ⟨nil_wr, trivial⟩
      | _ => exact ⟨nil_wr, trivial⟩
    | ptr T t =>
      cases v with
      | bptr β off => exact ⟨one_wr (.inl hm) (.inl rfl) (boxB _), trivial⟩
      | _ => exact ⟨nil_wr, trivial⟩
    | _ => cases v <;> exact ⟨nil_wr, trivial⟩
theorem outLeaves_wr : ∀ {ms : List OM} {ts : List Ty} {x : den (tupTy ts)} {n : Nat}, (∀ m ∈ ms, omB A m) → (∀ i, i < ts.length → Un A key (n + i)) → WrOk A key dst (outLeaves f ms ts x n).2 ∧ ∀ v ∈ (outLeaves f ms ts x n).1, vB (Un A key) v
  | ms, [], x, n, _, _ => by
    have e : outLeaves f ms [] x n = ([], []) := by cases ms <;> rfl
    rw [e]
    exact ⟨nil_wr, fun v hv => absurd hv List.not_mem_nil⟩
  | ms, [t], x, n, hm, h => by
    have hm0 : omB A (ms.headD .new) := by cases ms with
      | nil => trivial
      | cons m _ => exact hm m List.mem_cons_self
    obtain ⟨h1, h2⟩ := outLeaf_wr (f := f) (dst := dst) (t := t) (x := x) hm0 (h 0 (by simp))
    have e : outLeaves f ms [t] x n = ([(outLeaf f (ms.headD .new) t x n).1], (outLeaf f (ms.headD .new) t x n).2) := by cases ms <;> rfl
    rw [e]
    exact ⟨h1, fun v hv => by
      have hv : v = (outLeaf f (ms.headD .new) t x n).1 := List.mem_singleton.1 hv
      rw [hv]; exact h2⟩
  | ms, t :: u :: ts, x, n, hm, h => by
    have hm0 : omB A (ms.headD .new) := by cases ms with
      | nil => trivial
      | cons m _ => exact hm m List.mem_cons_self
    obtain ⟨h1, h2⟩ := outLeaf_wr (f := f) (dst := dst) (t := t) (x := (x : den t × den (tupTy (u :: ts))).1) hm0 (h 0 (by simp))
    obtain ⟨g1, g2⟩ := outLeaves_wr (ms := ms.tail) (ts := u :: ts) (x := (x : den t × den (tupTy (u :: ts))).2) (n := n + 1) (fun m hm' => hm m (List.mem_of_mem_tail hm')) (fun i hi => by
      rw [show n + 1 + i = n + (i + 1) by omega]
      exact h (i + 1) (by simp only [List.length_cons] at hi ⊢; omega))
    have e : outLeaves f ms (t :: u :: ts) x n = ((outLeaf f (ms.headD .new) t (x : den t × den (tupTy (u :: ts))).1 n).1 :: (outLeaves f ms.tail (u :: ts) (x : den t × den (tupTy (u :: ts))).2 (n + 1)).1, (outLeaf f (ms.headD .new) t (x : den t × den (tupTy (u :: ts))).1 n).2 ++ (outLeaves f ms.tail (u :: ts) (x : den t × den (tupTy (u :: ts))).2 (n + 1)).2) := by cases ms <;> rfl
    rw [e]
    refine ⟨app_wr h1 g1, fun v hv => ?_⟩
    rcases List.mem_cons.1 hv with e | e
    · rw [e]; exact h2
    · exact g2 v e
theorem callC_wr {call : CallR H} {fn : Nat} {args : List S} (hargs : ∀ x ∈ args, sB A x) {u : Wr} (h : callC P H call fn args f (64 * key) dst some = some u) : WrOk A key dst u := by
  unfold callC at h
  split at h
  · cases h
  · rename_i F _
    split at h
    · cases h
    · rename_i vs hvs
      have hv := argLeaves_in hargs hvs
      split at h
      · cases h
      · rename_i x hx
        obtain ⟨hc, h⟩ := cond_some h
        simp only [Bool.and_eq_true] at hc
        have hc1 := Nat.le_of_ble_eq_true hc.1
        cases hy : call fn x with
        | none => rw [hy] at h; cases h
        | some y =>
          rw [hy] at h
          have h : some ((outLeaves f (modesOf H fn vs) (H.res fn) y (64 * key)).2 ++ putS dst (outS P F.resultTypes.toList ((outLeaves f (modesOf H fn vs) (H.res fn) y (64 * key)).1.take (nres H fn)))) = some u := h
          injection h with h; subst h
          obtain ⟨g1, g2⟩ := outLeaves_wr (A := A) (key := key) (dst := dst) (f := f) (ms := modesOf H fn vs) (ts := H.res fn) (x := y) (n := 64 * key) (modes_in hv) (fun i hi => .inr (kn_self key i (by omega)))
          exact app_wr g1 (put_wr (outS_b (fun v hv => g2 v (List.mem_of_mem_take hv))))
theorem callZ_wr {call : CallR H} {fn : Nat} {args : List S} (hargs : ∀ x ∈ args, sB A x) {u : Wr} (h : callZ P H call fn args f (64 * key) dst some = some u) : WrOk A key dst u := by
  unfold callZ at h
  have h : callC P H call fn (args.map (fzS f (fzKeys H fn f args))) (upds f (fzW f (fzKeys H fn f args))) (64 * key) dst (fun u => some (fzW f (fzKeys H fn f args) ++ u)) = some u := h
  rw [callC_bind call fn _ (64 * key) dst (fun u => some (fzW f (fzKeys H fn f args) ++ u))] at h
  obtain ⟨u', h1, h2⟩ := of_bind h
  subst h2
  refine app_wr (fun p hp => ?_) (callC_wr (fun x hx => ?_) h1)
  · obtain ⟨κ, hκ, rfl⟩ := List.mem_map.1 hp
    exact .inr ⟨κ, .inl (fzKeys_in hargs hκ), .inr rfl, by show xB _ (fzX _); cases f (rl κ) <;> trivial⟩
  · obtain ⟨y, hy, rfl⟩ := List.mem_map.1 hx
    exact fzS_in (hargs y hy)
theorem fillC_in {pl : List (Nat × Nat)} : ∀ {ps : List (Nat × List V)} {vs us : List V}, (∀ v ∈ vs, vB A v) → (∀ p ∈ ps, ∀ v ∈ p.2, vB A v) → fillC pl vs ps = some us → ∀ v ∈ us, vB A v
  | [], vs, us, h, _, e => by injection e with e; subst e; exact h
  | p :: ps, vs, us, h, hp, e => by
    simp only [fillC] at e
    split at e
    · obtain ⟨_, e⟩ := cond_some e
      refine fillC_in (fun v hv => ?_) (fun q hq => hp q (List.mem_cons_of_mem _ hq)) e
      rw [List.mem_append, List.mem_append] at hv
      rcases hv with (hv | hv) | hv
      · exact h v (List.mem_of_mem_take hv)
      · exact hp p List.mem_cons_self v hv
      · exact h v (List.mem_of_mem_drop hv)
    · cases e
theorem opC_wr (call : CallR H) (o : Oper) (hs : Shut B A f) (nx : Nat) (hBs : ∀ x ∈ o.op.operands, sB B (evS ⟨f, nx⟩ x)) (hA : ∀ x ∈ o.op.operands, sB A (evS ⟨f, nx⟩ x)) {u : Wr} (h : opC P H call o ⟨f, nx⟩ (64 * key) some = some u) : WrOk A key o.dst u := by
  have hAV : ∀ x ∈ o.op.operands, vB A (evV ⟨f, nx⟩ x) := fun x hx => by
    have := hA x hx
    unfold evV
    cases e : evS ⟨f, nx⟩ x with
    | one v => rw [e] at this; exact this
    | _ => trivial
  have hBV : ∀ x ∈ o.op.operands, vB B (evV ⟨f, nx⟩ x) := fun x hx => by
    have := hBs x hx
    unfold evV
    cases e : evS ⟨f, nx⟩ x with
    | one v => rw [e] at this; exact this
    | _ => trivial
  have hparts : ∀ ps : Array (Nat × Operand), (∀ x ∈ ps.map (·.2), x ∈ o.op.operands) → ∀ p ∈ (ps.toList.map fun p => (p.1, leavesS (evS ⟨f, nx⟩ p.2))), ∀ v ∈ p.2, vB A v := fun ps hp q hq v hv => by
    have hm : ∀ p ∈ ps.toList, p.2 ∈ o.op.operands := fun p hp' => hp _ (Array.mem_map.2 ⟨p, by simpa using hp', rfl⟩)
    obtain ⟨p, hp', rfl⟩ := List.mem_map.1 hq
    exact leaves_in (hA _ (hm p hp')) v hv
  have hzero : ∀ ts : List Ty, ∀ v ∈ ts.map zeroV, vB (Un A key) v := fun ts v hv => by
    obtain ⟨t, _, rfl⟩ := List.mem_map.1 hv
    exact zeroV_b _ t
  obtain ⟨dst, op, ty, pos, aft, gd⟩ := o
  have up : ∀ {x : S}, sB A x → sB (Un A key) x := fun hx => sB_mono Le.un hx
  have upv : ∀ {x : V}, vB A x → vB (Un A key) x := fun hx => vB_mono Le.un hx
  have box : ∀ {b : Box}, xB (Un A key) (.box b) → WrOk A key dst ([(bl (64 * key), .box b)] ++ putV dst (.bptr (64 * key) 0)) := fun hb => app_wr (one_wr (un_self key) (.inl rfl) hb) (putV_wr (un_self key))
  have row : ∀ {r : Root}, WrOk A key dst ([(rl (64 * key), .root r)] ++ putV dst (.own (64 * key))) := app_wr (one_wr (un_self key) (.inr rfl) trivial) (putV_wr (un_self key))
  show WrOk A key dst u
  cases op <;> simp only [Op.operands] at hA hAV hBV hparts <;> unfold opC at h <;> simp only at h
  case move x => injection h with h; subst h; exact put_wr (up (hA x (by simp)))
  case assign x => injection h with h; subst h; exact put_wr (up (hA x (by simp)))
  case pick x y z =>
    split at h
    · split at h
      · injection h with h; subst h; exact put_wr (up (hA y (by simp)))
      · injection h with h; subst h; exact put_wr (up (hA z (by simp)))
    · cases h
  case alloc T =>
    split at h
    · split at h
      · obtain ⟨_, h⟩ := cond_some h
        injection h with h; subst h; exact box trivial
      · cases h
    · split at h
      · obtain ⟨_, h⟩ := cond_some h
        injection h with h; subst h; exact box (hzero _)
      · cases h
  case box T x =>
    obtain ⟨_, h⟩ := cond_some h
    injection h with h; subst h
    exact box fun v hv => upv (leaves_in (hA x (by simp)) v hv)
  case build T ps =>
    split at h
    · split at h
      · obtain ⟨_, h⟩ := cond_some h
        injection h with h; subst h; exact put_wr trivial
      · cases h
    · split at h
      · obtain ⟨_, h⟩ := cond_some h
        split at h
        · rename_i vs hvs
          injection h with h; subst h
          exact put_wr (x := .agg vs) (fillC_in (hzero _) (fun p hp v hv => upv (hparts ps (fun x hx => by simpa using hx) p hp v hv)) hvs)
        · cases h
      · cases h
    · cases h
  case buildSlice T n ps =>
    split at h
    · split at h
      · rename_i ts _
        obtain ⟨_, h⟩ := cond_some h
        split at h
        · rename_i xs _
          have hv : ∀ v ∈ (ps.toList.map fun p => leavesS (evS ⟨f, nx⟩ p.2)).flatten, vB A v := fun v hv => by
            obtain ⟨l, hl, hv⟩ := List.mem_flatten.1 hv
            obtain ⟨p, hp, rfl⟩ := List.mem_map.1 hl
            exact hparts ps (fun x hx => by simpa using hx) (p.1, leavesS (evS ⟨f, nx⟩ p.2)) (List.mem_map.2 ⟨p, hp, rfl⟩) v hv
          cases hfl : flat (tupTy ts) with
          | true =>
            rw [hfl, cond_true] at h
            injection h with h; subst h; exact row
          | false =>
            rw [hfl, cond_false] at h
            obtain ⟨_, h⟩ := cond_some h
            have row' : ∀ {r : Root}, WrOk A key dst (dropKeys (ownKeys (ps.toList.map fun p => leavesS (evS ⟨f, nx⟩ p.2)).flatten) ++ [(rl (64 * key), .root r)] ++ putV dst (.own (64 * key))) := app_wr (app_wr (drop_wr hv) (one_wr (un_self key) (.inr rfl) trivial)) (putV_wr (un_self key))
            cases hmv : (ps.toList.map fun p => leavesS (evS ⟨f, nx⟩ p.2)).flatten.all (moveOk f) with
            | true =>
              rw [hmv, cond_true] at h
              injection h with h; subst h; exact row'
            | false =>
              rw [hmv, cond_false] at h
              obtain ⟨_, h⟩ := cond_some h
              injection h with h; subst h; exact row'
        · cases h
      · cases h
    · cases h
  case load T x =>
    rw [loadC_bind T _ (fun v => some (putS dst v))] at h
    obtain ⟨v, h1, rfl⟩ := of_bind h
    exact put_wr (loadC_wr hs (hBV x (by simp)) (hAV x (by simp)) h1)
  case store T x y =>
    cases dst with
    | none => exact storeC_wr hs (hBV x (by simp)) (hAV x (by simp)) (hA y (by simp)) h
    | some d => cases h
  case binOp b T x y T' =>
    split at h
    · split at h
      · split at h
        · injection h with h; subst h; exact putV_wr trivial
        · injection h with h; subst h; exact putV_wr trivial
        · cases h
      · cases h
    · obtain ⟨v, rfl, hv⟩ := binC_wr h
      exact putV_wr (hv _)
  case unOp b T x =>
    split at h
    · injection h with h; subst h; exact putV_wr trivial
    · injection h with h; subst h; exact putV_wr trivial
    · cases h
  case slice T x lo hi mx =>
    have fin : ∀ l h', (sliceC P f T (evV ⟨f, nx⟩ x) l h' fun v => some (putV dst v)) = some u → WrOk A key dst u := fun l h' h => by
      rw [sliceC_bind T _ l h' (fun v => some (putV dst v))] at h
      obtain ⟨v, h1, rfl⟩ := of_bind h
      exact putV_wr (upv (sliceC_wr (hAV x (by simp)) h1))
    split at h
    · cases h
    · split at h <;> first | cases h; done | exact fin _ _ h
  case fieldAddr T x fd =>
    have hx := upv (hAV x (by simp))
    split at h
    · split at h
      · rename_i e; rw [e] at hx; injection h with h; subst h; exact putV_wr hx
      · rename_i e; rw [e] at hx; injection h with h; subst h; exact putV_wr hx
      · injection h with h; subst h; exact putV_wr trivial
      · cases h
    · cases h
  case nilCheck x =>
    have hx := upv (hAV x (by simp))
    unfold nilC at h
    split at h
    · rename_i e; rw [e] at hx; injection h with h; subst h; exact putV_wr hx
    · rename_i e; rw [e] at hx; injection h with h; subst h; exact putV_wr hx
    · injection h with h; subst h; exact putV_wr trivial
    · cases h
  case convert s d x =>
    split at h
    · unfold strC at h
      split at h
      · cases h
      · split at h
        · split at h
          · injection h with h; subst h; exact putV_wr trivial
          · cases h
        · cases h
    · unfold convC at h
      split at h
      · cases h
      · split at h
        · split at h
          · injection h with h; subst h; exact putV_wr trivial
          · cases h
        · cases h
  case indexAddr T x i =>
    split at h
    · rename_i kd n _
      rw [indexC_bind T _ n (fun v => some (putV dst v))] at h
      obtain ⟨v, h1, rfl⟩ := of_bind h
      exact putV_wr (upv (indexC_wr (hAV x (by simp)) h1))
    · cases h
  case index T x i =>
    obtain ⟨_, h⟩ := cond_some h
    split at h
    · split at h
      · obtain ⟨_, h⟩ := ite_some h
        obtain ⟨_, h⟩ := ite_some h
        injection h with h; subst h; exact putV_wr trivial
      · cases h
    · cases h
  case makeSlice T n m =>
    split at h
    · split at h
      · obtain ⟨_, h⟩ := cond_some h
        obtain ⟨_, h⟩ := ite_some h
        obtain ⟨_, h⟩ := ite_some h
        obtain ⟨_, h⟩ := ite_some h
        injection h with h; subst h; exact row
      · cases h
    · cases h
  case extract x i =>
    have hx := up (hA x (by simp))
    split at h
    · rename_i cs e
      split at h
      · rename_i ag vs ei
        rw [e] at hx
        injection h with h; subst h
        exact put_wr (mkS_b fun v hv => hx _ (List.mem_of_getElem? ei) v hv)
      · cases h
    · cases h
  case call c =>
    have hm : ∀ x ∈ c.args.toList, x ∈ c.operands := fun x hx => by
      unfold Call.operands
      exact Array.mem_append.2 (.inr (by simpa using hx))
    have hin : ∀ s ∈ c.args.toList.map (evS ⟨f, nx⟩), sB A s := by
      intro s hs'
      obtain ⟨x, hx, rfl⟩ := List.mem_map.1 hs'
      exact hA x (hm x hx)
    split at h
    · exact builtinC_wr hin h
    · split at h
      · unfold idxC at h
        split at h
        · injection h with h; subst h; exact putV_wr trivial
        · cases h
      · exact callZ_wr hin h
    · cases h
  all_goals cases h
end
end Go.Proofs.Ytoioaijpdiglfaa.V
