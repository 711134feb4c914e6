/- More rounds, the same answer; and what is answered in the end, without rounds. -/
import Derived.Test.YtoioaijpdiglfaaVRow
set_option linter.unusedVariables false
set_option linter.unusedSimpArgs false
namespace Go.Proofs.Ytoioaijpdiglfaa.V
open Go
/-- What the first answers, the second does. -/
def Ext {α : Type} (x y : Option α) : Prop := ∀ r, x = some r → y = some r
section
variable {α β R : Type} {P : Program} {H : Hints}
theorem Ext.refl (x : Option α) : Ext x x := fun _ h => h
theorem Ext.trans {x y z : Option α} (h : Ext x y) (h' : Ext y z) : Ext x z := fun r hr => h' r (h r hr)
theorem Ext.bind {x y : Option α} {f g : α → Option β} (h : Ext x y) (h' : ∀ a, Ext (f a) (g a)) : Ext (x.bind f) (y.bind g) := fun r hr => by
  cases x with
  | none => cases hr
  | some a => rw [h a rfl]; exact h' a r hr
theorem Ext.cond {b : Bool} {x y z v : Option α} (h : Ext x y) (h' : Ext z v) : Ext (cond b x z) (cond b y v) := by cases b <;> assumption
theorem Ext.ite {p : Prop} [Decidable p] {x y z v : Option α} (h : Ext x y) (h' : Ext z v) : Ext (if p then x else z) (if p then y else v) := by split <;> assumption
def ExtC (call call' : CallR H) : Prop := ∀ f x, Ext (call f x) (call' f x)
theorem opC_ext {call call' : CallR H} (hc : ExtC call call') (o : Oper) (st : St) (key : Nat) {k k' : Wr → Option R} (hk : ∀ u, Ext (k u) (k' u)) : Ext (opC P H call o st key k) (opC P H call' o st key k') := by
  rw [opC_bind call, opC_bind call']
  refine Ext.bind ?_ hk
  obtain ⟨dst, op, ty, pos, aft, gd⟩ := o
  cases op <;> try exact Ext.refl _
  rename_i c
  unfold opC
  simp only
  split
  · exact Ext.refl _
  · split
    · exact Ext.refl _
    · unfold callZ callC
      simp only
      split
      · exact Ext.refl _
      · split
        · exact Ext.refl _
        · split
          · exact Ext.refl _
          · exact Ext.cond (Ext.bind (hc _ _) fun _ => Ext.refl _) (Ext.refl _)
  · exact Ext.refl _
theorem opsC_ext {call call' : CallR H} (hc : ExtC call call') (ops : List Oper) : ∀ (rest : List Oper) (key : Nat) (st : St) {k k' : St → Option R}, (∀ s, Ext (k s) (k' s)) → Ext (opsC P H call ops rest key st k) (opsC P H call' ops rest key st k')
  | [], key, st, k, k', hk => hk st
  | o :: rest, key, st, k, k', hk => by
    have ih := fun st => opsC_ext hc ops rest (key + 1) st hk
    simp only [opsC]
    split
    · exact opC_ext hc o _ _ fun u => ih _
    · split
      · exact Ext.refl _
      · split
        · split
          · split
            · exact opC_ext hc o _ _ fun u => ih _
            · exact ih _
          · split
            · exact opC_ext hc o _ _ fun u => ih _
            · exact ih _
        · exact ih _
        · exact Ext.refl _
theorem opsD_ext {call call' : CallR H} (hc : ExtC call call') (ops : List Oper) : ∀ (rest : List Oper) (key : Nat) (st : St) (acc : List (List Nat × List Nat)) {k k' : List (List Nat × List Nat) → St → Option R}, (∀ a s, Ext (k a s) (k' a s)) → Ext (opsD P H call ops rest key st acc k) (opsD P H call' ops rest key st acc k')
  | [], key, st, acc, k, k', hk => hk acc st
  | o :: rest, key, st, acc, k, k', hk => by
    have ih := fun st acc => opsD_ext hc ops rest (key + 1) st acc hk
    simp only [opsD]
    split
    · exact opC_ext hc o _ _ fun u => ih _ _
    · split
      · exact Ext.refl _
      · split
        · split
          · split
            · exact opC_ext hc o _ _ fun u => ih _ _
            · exact ih _ _
          · split
            · exact opC_ext hc o _ _ fun u => ih _ _
            · exact ih _ _
        · exact ih _ _
        · exact Ext.refl _
theorem loopI_ext {body body' : St → (Ex → St → Option R) → Option R} {live : List Nat} (hb : ∀ st (K K' : Ex → St → Option R), (∀ e s, Ext (K e s) (K' e s)) → Ext (body st K) (body' st K')) : ∀ {m m' : Nat}, m ≤ m' → ∀ (st : St) {K K' : Ex → St → Option R}, (∀ e s, Ext (K e s) (K' e s)) → Ext (loopI body live m st K) (loopI body' live m' st K')
  | 0, m', _, st, K, K', _ => fun r h => by cases h
  | m + 1, 0, h, _, _, _, _ => by omega
  | m + 1, m' + 1, h, st, K, K', hK => by
    simp only [loopI]
    refine hb st _ _ fun e s => ?_
    cases e with
    | normal => exact loopI_ext hb (by omega) _ hK
    | exit i => exact hK _ _
    | ret => exact hK _ _
theorem execC_ext {call call' : CallR H} (hc : ExtC call call') {lf lf' : Nat} (hl : lf ≤ lf') (hints : List (Nat × List Nat)) : ∀ (cd : Code) (st : St) {K K' : Ex → St → Option R}, (∀ e s, Ext (K e s) (K' e s)) → Ext (execC P H call lf hints cd st K) (execC P H call' lf' hints cd st K') := by
  intro cd
  induction cd with
  | skip => intro st K K' hK; exact hK _ _
  | region id ops draw =>
    intro st K K' hK
    simp only [execC]
    exact Ext.cond (Ext.cond (opsD_ext hc _ _ _ _ _ fun a s => Ext.cond (hK _ _) (Ext.refl _)) (Ext.refl _)) (opsC_ext hc _ _ _ _ fun s => hK _ _)
  | seq a b iha ihb =>
    intro st K K' hK
    simp only [execC]
    refine iha st fun e s => ?_
    cases e with
    | normal => exact ihb s hK
    | exit i => exact hK _ _
    | ret => exact hK _ _
  | cond x y z ihy ihz =>
    intro st K K' hK
    simp only [execC]
    split
    · exact Ext.ite (ihy st hK) (ihz st hK)
    · exact Ext.refl _
  | block id b ih =>
    intro st K K' hK
    simp only [execC]
    refine ih st fun e s => ?_
    cases e with
    | normal => exact hK _ _
    | ret => exact hK _ _
    | exit j => exact Ext.cond (hK _ _) (hK _ _)
  | loop b ih =>
    intro st K K' hK
    simp only [execC]
    split
    · exact loopI_ext (fun st K K' h => ih st h) hl _ hK
    · exact Ext.refl _
  | exit i => intro st K K' hK; exact hK _ _
  | ret => intro st K K' hK; exact hK _ _
  | _ => intro st K K' _; exact Ext.refl _
theorem frun_ext : ∀ {n n' : Nat}, n ≤ n' → ExtC (frun P H n) (frun P H n')
  | 0, _, _ => fun f x r h => by cases h
  | n + 1, 0, h => by omega
  | n + 1, n' + 1, h => fun f x => by
    simp only [frun]
    split
    · exact Ext.refl _
    split
    · exact Ext.refl _
    · split
      · exact Ext.refl _
      · exact Ext.cond (execC_ext (frun_ext (by omega)) (by omega) _ _ _ fun _ _ => Ext.refl _) (Ext.refl _)
def pathLe : List Step → List Step → Prop
  | [], [] => True
  | .fst :: p, .fst :: q => pathLe p q
  | .snd :: p, .snd :: q => pathLe p q
  | .thn :: p, .thn :: q => pathLe p q
  | .els :: p, .els :: q => pathLe p q
  | .inl m :: p, .inl m' :: q => m ≤ m' ∧ pathLe p q
  | _, _ => False
theorem execFrom_ext {call call' : CallR H} (hc : ExtC call call') {lf lf' : Nat} (hl : lf ≤ lf') (hints : List (Nat × List Nat)) {m m' : Nat} (hm : m ≤ m') : ∀ (cd : Code) (p q : List Step) (st : St) {K K' : Ex → St → Option R}, pathLe p q → (∀ e s, Ext (K e s) (K' e s)) → Ext (execFrom P H call lf hints m p cd st K) (execFrom P H call' lf' hints m' q cd st K') := by
  intro cd
  induction cd with
  | block id b ih =>
    intro p q st K K' hp hK
    have e1 : execFrom P H call lf hints m p (.block id b) st K = execFrom P H call lf hints m p b st fun e s => match e with
      | .exit j => cond (Nat.beq j id) (K .normal s) (K (.exit j) s)
      | e => K e s := by cases p <;> rfl
    have e2 : execFrom P H call' lf' hints m' q (.block id b) st K' = execFrom P H call' lf' hints m' q b st fun e s => match e with
      | .exit j => cond (Nat.beq j id) (K' .normal s) (K' (.exit j) s)
      | e => K' e s := by cases q <;> rfl
    rw [e1, e2]
    refine ih p q st hp fun e s => ?_
    cases e with
    | normal => exact hK _ _
    | ret => exact hK _ _
    | exit j => exact Ext.cond (hK _ _) (hK _ _)
  | seq a b iha ihb =>
    intro p q st K K' hp hK
    cases p with
    | nil => cases q with
      | nil => exact Ext.refl _
      | cons _ _ => exact hp.elim
    | cons s p => cases q with
      | nil => cases s <;> exact hp.elim
      | cons s' q =>
        cases s <;> cases s' <;> first | exact hp.elim | skip
        · refine iha p q st hp fun e s => ?_
          cases e with
          | normal => exact execC_ext hc hl hints b s hK
          | exit i => exact hK _ _
          | ret => exact hK _ _
        · exact ihb p q st hp hK
        · exact Ext.refl _
        · exact Ext.refl _
        · exact Ext.refl _
  | cond x y z ihy ihz =>
    intro p q st K K' hp hK
    cases p with
    | nil => cases q with
      | nil => exact Ext.refl _
      | cons _ _ => exact hp.elim
    | cons s p => cases q with
      | nil => cases s <;> exact hp.elim
      | cons s' q =>
        cases s <;> cases s' <;> first | exact hp.elim | skip
        · exact Ext.refl _
        · exact Ext.refl _
        · exact ihy p q st hp hK
        · exact ihz p q st hp hK
        · exact Ext.refl _
  | loop b ih =>
    intro p q st K K' hp hK
    cases p with
    | nil => cases q with
      | nil =>
        simp only [execFrom]
        split
        · exact loopI_ext (fun st K K' h => execC_ext hc hl hints b st h) hm _ hK
        · exact Ext.refl _
      | cons _ _ => exact hp.elim
    | cons s p => cases q with
      | nil => cases s <;> exact hp.elim
      | cons s' q =>
        cases s <;> cases s' <;> first | exact hp.elim | skip
        · exact Ext.refl _
        · exact Ext.refl _
        · exact Ext.refl _
        · exact Ext.refl _
        · simp only [execFrom]
          split
          · refine ih p q st hp.2 fun e s => ?_
            cases e with
            | normal => exact loopI_ext (fun st K K' h => execC_ext hc hl hints b st h) hp.1 _ hK
            | exit i => exact hK _ _
            | ret => exact hK _ _
          · exact Ext.refl _
  | _ =>
    intro p q st K K' hp hK
    intro r h
    cases p with
    | nil => cases h
    | cons s p => cases s <;> cases h
theorem frunAt_ext {n n' m m' : Nat} (hn : n ≤ n') (hm : m ≤ m') {p q : List Step} (hp : pathLe p q) (f : Nat) (st : St) : Ext (frunAt P H n f p m st) (frunAt P H n' f q m' st) := by
  simp only [frunAt]
  split
  · exact Ext.refl _
  · split
    · exact Ext.refl _
    · exact execFrom_ext (frun_ext hn) hn _ hm _ _ _ _ hp fun _ _ => Ext.refl _
/-! ### in the end -/
/-- It answers ever more, and in the end v. -/
structure Lim (g : Nat → Option α) (v : Option α) : Prop where
  mono : ∀ n, Ext (g n) (g (n + 1))
  val : ∀ r, v = some r ↔ ∃ n, g n = some r
theorem Lim.le {g : Nat → Option α} {v : Option α} (h : Lim g v) {n m : Nat} (hnm : n ≤ m) : Ext (g n) (g m) := by
  induction hnm with
  | refl => exact Ext.refl _
  | step _ ih => exact ih.trans (h.mono _)
open Classical in
noncomputable def lim (g : Nat → Option α) : Option α := if h : ∃ r n, g n = some r then some h.choose else none
theorem lim_ok {g : Nat → Option α} (hm : ∀ n, Ext (g n) (g (n + 1))) : Lim g (lim g) := by
  have hle : ∀ {n m}, n ≤ m → Ext (g n) (g m) := fun {n m} h => by
    induction h with
    | refl => exact Ext.refl _
    | step _ ih => exact ih.trans (hm _)
  refine ⟨hm, fun r => ?_⟩
  unfold lim
  constructor
  · intro h
    split at h
    · rename_i h'
      injection h with h
      rw [← h]; exact h'.choose_spec
    · cases h
  · rintro ⟨n, hn⟩
    have h' : ∃ r n, g n = some r := ⟨r, n, hn⟩
    rw [dif_pos h']
    obtain ⟨k, hk⟩ := h'.choose_spec
    have h1 := hle (Nat.le_max_left n k) r hn
    have h2 := hle (Nat.le_max_right n k) _ hk
    rw [h1] at h2; exact h2.symm
theorem Lim.uniq {g : Nat → Option α} {v v' : Option α} (h : Lim g v) (h' : Lim g v') : v = v' := by
  cases v with
  | some r => exact ((h'.val r).2 ((h.val r).1 rfl)).symm
  | none => cases v' with
    | none => rfl
    | some r => exact (h.val r).2 ((h'.val r).1 rfl)
theorem Lim.const (v : Option α) : Lim (fun _ => v) v := ⟨fun _ => Ext.refl _, fun r => ⟨fun h => ⟨0, h⟩, fun ⟨_, h⟩ => h⟩⟩
theorem Lim.between {g g' : Nat → Option α} {v : Option α} (h : Lim g v) (h1 : ∀ n, Ext (g n) (g' n)) (h2 : ∀ n, Ext (g' n) (g (n + 1))) : Lim g' v :=
  ⟨fun n => (h2 n).trans (h1 (n + 1)), fun r => (h.val r).trans ⟨fun ⟨n, hn⟩ => ⟨n, h1 n r hn⟩, fun ⟨n, hn⟩ => ⟨n + 1, h2 n r hn⟩⟩⟩
theorem Lim.shift {g : Nat → Option α} {v : Option α} (h : Lim g v) : Lim (fun n => g (n + 1)) v := h.between (fun n => h.mono n) (fun n => Ext.refl _)
theorem Lim.congr {g g' : Nat → Option α} {v : Option α} (h : Lim g v) (e : ∀ n, g n = g' n) : Lim g' v := by
  have : g = g' := funext e
  rw [← this]; exact h
theorem Lim.bind {g : Nat → Option α} {a : Option α} {k : Nat → α → Option β} {b : α → Option β} (hg : Lim g a) (hk : ∀ x, Lim (fun n => k n x) (b x)) : Lim (fun n => (g n).bind (k n)) (a.bind b) := by
  refine ⟨fun n => Ext.bind (hg.mono n) fun x => (hk x).mono n, fun r => ⟨fun h => ?_, fun ⟨n, h⟩ => ?_⟩⟩
  · cases a with
    | none => cases h
    | some x =>
      obtain ⟨n, hn⟩ := (hg.val x).1 rfl
      obtain ⟨m, hm⟩ := ((hk x).val r).1 h
      refine ⟨max n m, ?_⟩
      show (g (max n m)).bind (k (max n m)) = _
      rw [hg.le (Nat.le_max_left n m) x hn]
      exact (hk x).le (Nat.le_max_right n m) r hm
  · cases e : g n with
    | none => simp only [e] at h; cases h
    | some x =>
      simp only [e] at h
      rw [(hg.val x).2 ⟨n, e⟩]
      exact ((hk x).val r).2 ⟨n, h⟩
theorem Lim.ite {p : Prop} [Decidable p] {f g : Nat → Option α} {a b : Option α} (hf : Lim f a) (hg : Lim g b) : Lim (fun n => if p then f n else g n) (if p then a else b) := by
  by_cases h : p
  · simp only [if_pos h]; exact hf
  · simp only [if_neg h]; exact hg
theorem Lim.cond {c : Bool} {f g : Nat → Option α} {a b : Option α} (hf : Lim f a) (hg : Lim g b) : Lim (fun n => bif c then f n else g n) (bif c then a else b) := by
  cases c with
  | true => exact hf
  | false => exact hg
/-- What a function answers in the end; from one of its loops on. -/
noncomputable def run (P : Program) (H : Hints) (f : Nat) (x : den (parTy H f)) : Option (den (resTy H f)) := lim fun n => frun P H n f x
theorem run_lim (f : Nat) (x : den (parTy H f)) : Lim (fun n => frun P H n f x) (run P H f x) := lim_ok fun n => frun_ext (Nat.le_succ n) f x
def setF (k : Nat) : List Step → List Step
  | [] => []
  | .inl _ :: p => .inl k :: setF k p
  | s :: p => s :: setF k p
theorem setF_le {k k' : Nat} (h : k ≤ k') : ∀ p, pathLe (setF k p) (setF k' p)
  | [] => trivial
  | .inl _ :: p => ⟨h, setF_le h p⟩
  | .fst :: p => setF_le h p
  | .snd :: p => setF_le h p
  | .thn :: p => setF_le h p
  | .els :: p => setF_le h p
noncomputable def runAt (P : Program) (H : Hints) (f : Nat) (p : List Step) (st : St) : Option (den (resTy H f)) := lim fun n => frunAt P H n f (setF n p) n st
theorem runAt_lim (f : Nat) (p : List Step) (st : St) : Lim (fun n => frunAt P H n f (setF n p) n st) (runAt P H f p st) := lim_ok fun n => frunAt_ext (Nat.le_succ n) (Nat.le_succ n) (setF_le (Nat.le_succ n) p) f st
theorem runAt_lim1 (f : Nat) (p : List Step) (st : St) : Lim (fun n => frunAt P H n f (setF n p) (n + 1) st) (runAt P H f p st) :=
  (runAt_lim f p st).between (fun n => frunAt_ext (Nat.le_refl n) (Nat.le_succ n) (setF_le (Nat.le_refl n) p) f st) (fun n => frunAt_ext (Nat.le_succ n) (Nat.le_refl _) (setF_le (Nat.le_succ n) p) f st)
theorem run_some {f : Nat} {x : den (parTy H f)} {y : den (resTy H f)} (h : run P H f x = some y) : ∃ n, frun P H n f x = some y := ((run_lim f x).val y).1 h
end
end Go.Proofs.Ytoioaijpdiglfaa.V
