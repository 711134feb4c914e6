/- How a state of the interpreter stands for a frame and a world of the machine. -/
import Derived.Test.YtoioaijpdiglfaaVMem
set_option linter.unusedVariables false
set_option linter.unusedSimpArgs false
namespace Go.Proofs.Ytoioaijpdiglfaa.V
open Go Go.RowKit

/-- The interpreter's names in the world: blocks' colours, the roots' headers and widths, the boxes' blocks, since when a root's inner rows are as they are. -/
structure Ctx where
  χ : Nat → List Nat
  hdr : Nat → Value
  wid : Nat → Nat
  blk : Nat → Nat
  gens : Nat → Option Nat
def VR (w : World) (c : Ctx) : V → Value → Prop
  | .undef, _ => True
  | .no, v => v = undef
  | .int k n, v => v = .int k n
  | .bool b, v => v = .bool b
  | .str s, v => v = .string s
  | .nil, v => v = .slice none 0 0
  | .dat e t xs, v => Rd w (fun k => c.χ k = []) (.sl e t) xs [v]
  | .own κ, v => v = c.hdr κ
  | .cut κ lo hi, v => ∃ A n cp A', c.hdr κ = .slice A n cp ∧ lo ≤ hi ∧ hi ≤ n ∧ v = .slice A' (hi - lo) (cp - lo) ∧ (lo = 0 → A' = A) ∧ (lo < hi → A' = A.map (·.add (lo * c.wid κ)))
  | .row κ g i o, v => ∀ g0, c.gens κ = some g0 → g ≤ g0 ∧ (g = g0 → ∃ b n cp, c.hdr κ = .slice (some ⟨b, 0, none⟩) n cp ∧ i < n ∧ o < c.wid κ ∧ w.cell? ⟨b, i * c.wid κ + o, none⟩ = some v)
  | .bptr β off, v => v = .pointer (some ⟨c.blk β, off, none⟩)
  | .aptr β i, v => v = .pointer (some ⟨c.blk β, i, none⟩)
  | .eptr κ i off, v => ∃ b n cp, c.hdr κ = .slice (some ⟨b, 0, none⟩) n cp ∧ i < n ∧ v = .pointer (some ⟨b, i * c.wid κ + off, none⟩)
  | .dptr t x off, v => ∃ ad cs, v = .pointer (some ad) ∧ Rd w (fun k => c.χ k = []) t x cs ∧ c.χ ad.block = [] ∧ ad.block < w.heap.size ∧ ∀ (j : Nat) (u : Value), (cs.drop off)[j]? = some u → w.cell? (ad.add j) = some u
  | .rptr κ g i o j, v => ∀ g0, c.gens κ = some g0 → g ≤ g0 ∧ (g = g0 → ∃ b n cp b' n' cp', c.hdr κ = .slice (some ⟨b, 0, none⟩) n cp ∧ i < n ∧ o < c.wid κ ∧ w.cell? ⟨b, i * c.wid κ + o, none⟩ = some (.slice (some ⟨b', 0, none⟩) n' cp') ∧ j < n' ∧ v = .pointer (some ⟨b', j, none⟩))
/-- Colours of blocks that stay as they are: those that may be read, and those that lead nowhere. -/
def stable (q : List Nat) : Prop := q = [] ∨ q = [0]
def encF : (t : Ty) → den t → Value
  | .int k, n => .int k n
  | .bool, b => .bool b
  | .str, s => .string s
  | _, _ => undef
def SR (w : World) (c : Ctx) : S → Value → Prop
  | .one v, x => VR w c v x
  | .agg vs, x => ∃ cs : List Value, x = .agg cs.toArray ∧ All2 (VR w c) vs cs
  | .arr t xs, x => scal t = true ∧ x = .agg (xs.map (encF t)).toArray
  | .tup cs, x => ∃ ys : List Value, x = .tuple ys.toArray ∧ All2 (fun (p : Bool × List V) y => ∃ ls : List Value, All2 (VR w c) p.2 ls ∧ (p.1 = true → y = .agg ls.toArray) ∧ (p.1 = false → ∀ u, ls = [u] → y = u)) cs ys
def BoxR (w : World) (c : Ctx) (β : Nat) : Box → Prop
  | .flds vs => ∃ (cs : List Value) (T : Nat), w.heap[c.blk β]? = some (.cells cs.toArray T (0, 0)) ∧ c.χ (c.blk β) = [0, β] ∧ All2 (VR w c) vs cs ∧ ∀ u ∈ cs, u.oneCell' = true
  | .arr t xs => ∃ T : Nat, w.heap[c.blk β]? = some (.cells (xs.map (encF t)).toArray T (0, 0)) ∧ c.χ (c.blk β) = [0, β] ∧ scal t = true
/-- An element of a root: owned with it, or only read. -/
def El (w : World) (χ : Nat → List Nat) (d : Bool) (t : Ty) (p : List Nat) (x : den t) (cs : List Value) : Prop := match d with
  | true => Own w χ t p x cs
  | false => Rd w (fun k => χ k = []) t x cs
/-- A row's cells, but for one that was given away. -/
def holed (inner : List Value) : Option Nat → List Value
  | none => inner
  | some h => splice inner h [.slice none 0 0]
def Body (w : World) (c : Ctx) (κ : Nat) (r : Root) : Prop := ∃ (v : Value) (inner : List Value), c.hdr κ = v ∧ w.ownsRow 0 r.e (width r.t) v r.xs.length inner ∧ (∀ k, v.ownBlock = some k → c.χ k = [κ + 1]) ∧
  ∀ (j : Nat) (x : den r.t), r.xs[j]? = some x → El w c.χ r.deep r.t [κ + 1, j] x (((holed inner r.hole).drop (j * width r.t)).take (width r.t))
structure RootR (w : World) (c : Ctx) (κ : Nat) (r : Root) : Prop where
  wid : c.wid κ = width r.t
  pos : 0 < width r.t
  nop : noP r.t = true
  gen : flat r.t = true ∨ c.gens κ = some r.gen
  hole : ∀ h, r.hole = some h → r.deep = true
  body : Body w c κ r
/-- Names: those of an operation's key, and more than those. -/
def Kn (key n : Nat) : Prop := 64 * key ≤ n ∧ n < 64 * key + 64
def Un (M : Nat → Prop) (key : Nat) : Nat → Prop := fun n => M n ∨ Kn key n
def Le (M M' : Nat → Prop) : Prop := ∀ n, M n → M' n
def Fr (M : Nat → Prop) (key : Nat) : Prop := ∀ n, M n → ¬ Kn key n
theorem Le.rfl' {M : Nat → Prop} : Le M M := fun _ h => h
theorem Le.un {M : Nat → Prop} {key : Nat} : Le M (Un M key) := fun _ h => .inl h
theorem kn_self (key j : Nat) (hj : j < 64) : Kn key (64 * key + j) := ⟨by omega, by omega⟩
theorem un_self {M : Nat → Prop} (key : Nat) : Un M key (64 * key) := .inr ⟨by omega, by omega⟩
theorem Fr.not {M : Nat → Prop} {key : Nat} (h : Fr M key) : ¬ M (64 * key) := fun hm => h _ hm ⟨by omega, by omega⟩
def vB (M : Nat → Prop) : V → Prop
  | .own κ => M κ
  | .cut κ _ _ => M κ
  | .row κ _ _ _ => M κ
  | .bptr β _ => M β
  | .aptr β _ => M β
  | .eptr κ _ _ => M κ
  | .rptr κ _ _ _ _ => M κ
  | _ => True
def sB (M : Nat → Prop) : S → Prop
  | .one v => vB M v
  | .agg vs => ∀ v ∈ vs, vB M v
  | .arr _ _ => True
  | .tup cs => ∀ p ∈ cs, ∀ v ∈ p.2, vB M v
def xB (M : Nat → Prop) : Val → Prop
  | .s x => sB M x
  | .box (.flds vs) => ∀ v ∈ vs, vB M v
  | _ => True
theorem vB_mono {M M' : Nat → Prop} (h : Le M M') : ∀ {v : V}, vB M v → vB M' v := by
  intro v hv
  cases v <;> first | exact hv | exact h _ hv
theorem sB_mono {M M' : Nat → Prop} (h : Le M M') : ∀ {x : S}, sB M x → sB M' x
  | .one _, hx => vB_mono h hx
  | .agg _, hx => fun v hv => vB_mono h (hx v hv)
  | .arr _ _, _ => trivial
  | .tup _, hx => fun p hp v hv => vB_mono h (hx p hp v hv)
theorem xB_mono {M M' : Nat → Prop} (h : Le M M') : ∀ {x : Val}, xB M x → xB M' x
  | .s _, hx => sB_mono h hx
  | .box (.flds _), hx => fun v hv => vB_mono h (hx v hv)
  | .box (.arr _ _), _ => trivial
  | .root _, _ => trivial
  | .none, _ => trivial

/-- What a step of the machine leaves, for the names below M. -/
structure Stays (M : Nat → Prop) (w : World) (c : Ctx) (w' : World) (c' : Ctx) : Prop where
  size : w.heap.size ≤ w'.heap.size
  stab : ∀ k, stable (c.χ k) → k < w.heap.size → c'.χ k = c.χ k ∧ w'.heap[k]? = w.heap[k]?
  hdr : ∀ κ, M κ → c'.hdr κ = c.hdr κ ∧ c'.wid κ = c.wid κ
  blk : ∀ β, M β → c'.blk β = c.blk β
  gens : ∀ κ g', M κ → c'.gens κ = some g' → ∃ g0, c.gens κ = some g0 ∧ g0 ≤ g' ∧ (g0 = g' → ∀ k, (c.hdr κ).ownBlock = some k → k < w.heap.size → w'.heap[k]? = w.heap[k]?)
theorem Stays.emp {M : Nat → Prop} {w w' : World} {c c' : Ctx} (h : Stays M w c w' c') {k : Nat} (hk : c.χ k = []) (hl : k < w.heap.size) : c'.χ k = [] ∧ w'.heap[k]? = w.heap[k]? := by
  have := h.stab k (.inl hk) hl
  exact ⟨this.1.trans hk, this.2⟩
theorem Stays.refl (M : Nat → Prop) (w : World) (c : Ctx) : Stays M w c w c :=
  ⟨Nat.le_refl _, fun k h _ => ⟨rfl, rfl⟩, fun _ _ => ⟨rfl, rfl⟩, fun _ _ => rfl, fun κ g' _ h => ⟨g', h, Nat.le_refl _, fun _ _ _ _ => rfl⟩⟩
theorem VR_stays {M : Nat → Prop} {w w' : World} {c c' : Ctx} (h : Stays M w c w' c') : ∀ {v : V} {x : Value}, vB M v → VR w c v x → VR w' c' v x
  | .undef, _, _, _ => trivial
  | .no, _, _, hx => hx
  | .int _ _, _, _, hx => hx
  | .bool _, _, _, hx => hx
  | .str _, _, _, hx => hx
  | .nil, _, _, hx => hx
  | .dat _ _ _, _, _, hx => Rd_step (fun k hk hl => h.emp hk hl) hx
  | .own κ, _, hb, hx => by show _ = _; rw [(h.hdr κ hb).1]; exact hx
  | .cut κ lo hi, _, hb, hx => by
    obtain ⟨A, n, cp, A', h1, h2⟩ := hx
    refine ⟨A, n, cp, A', by rw [(h.hdr κ hb).1]; exact h1, ?_⟩
    rw [(h.hdr κ hb).2]; exact h2
  | .row κ g i o, _, hb, hx => by
    intro g' hg'
    obtain ⟨g0, h0, hle, hs⟩ := h.gens κ g' hb hg'
    obtain ⟨hx1, hx2⟩ := hx g0 h0
    refine ⟨Nat.le_trans hx1 hle, fun e => ?_⟩
    obtain ⟨b, n, cp, h1, h2, h2', h3⟩ := hx2 (by omega)
    refine ⟨b, n, cp, by rw [(h.hdr κ hb).1]; exact h1, h2, by rw [(h.hdr κ hb).2]; exact h2', ?_⟩
    rw [(h.hdr κ hb).2]
    exact cell_same h3 (fun hl => hs (by omega) b (by rw [h1]; rfl) hl)
  | .bptr β _, _, hb, hx => by show _ = _; rw [h.blk β hb]; exact hx
  | .aptr β _, _, hb, hx => by show _ = _; rw [h.blk β hb]; exact hx
  | .eptr κ _ _, _, hb, hx => by
    obtain ⟨b, n, cp, h1, h2, h3⟩ := hx
    exact ⟨b, n, cp, by rw [(h.hdr κ hb).1]; exact h1, h2, by rw [(h.hdr κ hb).2]; exact h3⟩
  | .dptr t x off, _, _, hx => by
    obtain ⟨ad, cs, h1, h2, h3, h4, h5⟩ := hx
    exact ⟨ad, cs, h1, Rd_step (fun k hk hl => h.emp hk hl) h2, (h.emp h3 h4).1, Nat.lt_of_lt_of_le h4 h.size, fun j u hu => cell_same (h5 j u hu) (fun _ => by rw [add_block]; exact (h.emp h3 h4).2)⟩
  | .rptr κ g i o j, _, hb, hx => by
    intro g' hg'
    obtain ⟨g0, h0, hle, hs⟩ := h.gens κ g' hb hg'
    obtain ⟨hx1, hx2⟩ := hx g0 h0
    refine ⟨Nat.le_trans hx1 hle, fun e => ?_⟩
    obtain ⟨b, n, cp, b', n', cp', h1, h2, h2', h3, h4, h5⟩ := hx2 (by omega)
    refine ⟨b, n, cp, b', n', cp', by rw [(h.hdr κ hb).1]; exact h1, h2, by rw [(h.hdr κ hb).2]; exact h2', ?_, h4, h5⟩
    rw [(h.hdr κ hb).2]
    exact cell_same h3 (fun hl => hs (by omega) b (by rw [h1]; rfl) hl)

theorem SR_stays {M : Nat → Prop} {w w' : World} {c c' : Ctx} (h : Stays M w c w' c') : ∀ {x : S} {v : Value}, sB M x → SR w c x v → SR w' c' x v
  | .one _, _, hb, hx => VR_stays h hb hx
  | .agg vs, _, hb, ⟨cs, e, hx⟩ => ⟨cs, e, hx.imp fun a b ha => VR_stays h (hb a ha)⟩
  | .arr _ _, _, _, hx => hx
  | .tup cs, _, hb, ⟨ys, e, hx⟩ => ⟨ys, e, hx.imp fun p y hp ⟨ls, h1, h2⟩ => ⟨ls, h1.imp fun a b ha => VR_stays h (hb p hp a ha), h2⟩⟩
theorem BoxR_stays {M : Nat → Prop} {w w' : World} {c c' : Ctx} (h : Stays M w c w' c') {β : Nat} {b : Box} (hβ : M β) (hb : xB M (.box b))
    (hk : ∀ k, c.χ k = [0, β] → k < w.heap.size → c'.χ k = [0, β] ∧ w'.heap[k]? = w.heap[k]?) (hx : BoxR w c β b) : BoxR w' c' β b := by
  have hlt : ∀ {o : Obj} {k : Nat}, w.heap[k]? = some o → k < w.heap.size := fun ho => (Array.getElem?_eq_some_iff.1 ho).1
  cases b with
  | flds vs =>
    obtain ⟨cs, T, h1, h2, h3, h4⟩ := hx
    have := hk _ h2 (hlt h1)
    refine ⟨cs, T, ?_, ?_, h3.imp fun a b ha => VR_stays h (hb a ha), h4⟩
    · rw [h.blk β hβ, this.2]; exact h1
    · rw [h.blk β hβ]; exact this.1
  | arr t xs =>
    obtain ⟨T, h1, h2, h3⟩ := hx
    have := hk _ h2 (hlt h1)
    refine ⟨T, ?_, ?_, h3⟩
    · rw [h.blk β hβ, this.2]; exact h1
    · rw [h.blk β hβ]; exact this.1
theorem El_step {w w' : World} {χ χ' : Nat → List Nat} {d : Bool} {t : Ty} {p p' : List Nat} {x : den t} {cs : List Value} (hp : noP t = true) (hm : ∀ k r, χ k = p ++ r → k < w.heap.size → χ' k = p' ++ r ∧ w'.heap[k]? = w.heap[k]?) (he : ∀ k, χ k = [] → k < w.heap.size → χ' k = [] ∧ w'.heap[k]? = w.heap[k]?) (h : El w χ d t p x cs) : El w' χ' d t p' x cs := by
  cases d with
  | true => exact Own_step hp hm h
  | false => exact Rd_step he h
theorem El_Rd {w : World} {χ : Nat → List Nat} {d : Bool} {t : Ty} {p : List Nat} {x : den t} {cs : List Value} {ok : Nat → Prop} (hm : ∀ k r, χ k = p ++ r → ok k) (he : ∀ k, χ k = [] → ok k) (h : El w χ d t p x cs) : Rd w ok t x cs := by
  cases d with
  | true => exact Own_Rd hm h
  | false => exact Rd_step (fun k hk _ => ⟨he k hk, rfl⟩) h
theorem RootR_stays {M : Nat → Prop} {w w' : World} {c c' : Ctx} (h : Stays M w c w' c') {κ : Nat} {r : Root} (hκ : M κ)
    (hk : ∀ k q, c.χ k = (κ + 1) :: q → k < w.heap.size → c'.χ k = (κ + 1) :: q ∧ w'.heap[k]? = w.heap[k]?) (hg : c'.gens κ = c.gens κ) (hx : RootR w c κ r) : RootR w' c' κ r := by
  obtain ⟨h1, h2, h3, h4, h5, v, inner, hv, ho, hc, he⟩ := hx
  refine ⟨by rw [(h.hdr κ hκ).2]; exact h1, h2, h3, by rw [hg]; exact h4, h5, v, inner, by rw [(h.hdr κ hκ).1]; exact hv, ownsRow_move ho (fun k hk' hl => (hk k [] (hc k hk') hl).2), fun k hk' => (hk k [] (hc k hk') (ho.lt k hk').2).1, fun j x hj => ?_⟩
  exact El_step h3 (fun k q hq hl => hk k (j :: q) hq hl) (fun k hk hl => h.emp hk hl) (he j x hj)
/-- What a call was handed: which blocks must stay, in which colours; which slots. -/
structure Kp where
  col : Nat → List Nat
  par : Nat → Option Value
/-- The interpreter's state (f, names below M) stands for the frame and the world; w0: the world as the call began; keep: the blocks that stay as they were. -/
structure Rel (M : Nat → Prop) (N : Nat) (w0 : World) (keep : Kp) (f : Nat → Val) (c : Ctx) (a : Act) (w : World) : Prop where
  size : a.tmps.size = N
  defers : a.defers = []
  os : w.os = w0.os
  tape : w.tape = w0.tape
  output : w.output = w0.output
  hsize : w0.heap.size ≤ w.heap.size
  kept : ∀ k, stable (keep.col k) → k < w0.heap.size → c.χ k = keep.col k ∧ w.heap[k]? = w0.heap[k]?
  pars : ∀ t v, keep.par t = some v → a.tmps.getD t undef = v
  slots : ∀ t x, f (sl t) = .s x → SR w c x (a.tmps.getD t undef)
  boxes : ∀ β b, f (bl β) = .box b → BoxR w c β b ∧ M β
  roots : ∀ κ r, f (rl κ) = .root r → RootR w c κ r ∧ M κ
  live : ∀ κ g, c.gens κ = some g → ∃ r, f (rl κ) = .root r
  fresh : ∀ l, xB M (f l)
  hdrs : ∀ κ, ∃ A n cp, c.hdr κ = .slice A n cp
  froz : ∀ κ x, f (rl κ) = .s x → SR w c x (c.hdr κ) ∧ M κ
/-- What may lie in a root's place and tells of nothing else. -/
def xR : Val → Prop
  | .root _ => True
  | .none => True
  | _ => False
theorem xR_xB {L : Nat → Prop} : ∀ {x : Val}, xR x → xB L x
  | .root _, _ => trivial
  | .none, _ => trivial
  | .s _, h => h.elim
  | .box _, h => h.elim
/-- A slot that may be put: it is there, and it is no kept parameter's. -/
def DstP (N : Nat) (keep : Kp) (dst : Option Nat) : Prop := ∀ d, dst = some d → d < N ∧ keep.par d = none
theorem Rel.next {M M' : Nat → Prop} {N : Nat} {w0 w w' : World} {keep : Kp} {f f' : Nat → Val} {c c' : Ctx} {a a' : Act} (h : Rel M N w0 keep f c a w) (hM : Le M M') (st : Stays M w c w' c')
    (hsz : a'.tmps.size = N) (hd : a'.defers = []) (hpa : ∀ t v, keep.par t = some v → a'.tmps.getD t undef = a.tmps.getD t undef) (hos : w'.os = w.os) (htape : w'.tape = w.tape) (hout : w'.output = w.output)
    (hslots : ∀ t x, f' (sl t) = .s x → (f (sl t) = .s x ∧ a'.tmps.getD t undef = a.tmps.getD t undef) ∨ SR w' c' x (a'.tmps.getD t undef))
    (hboxes : ∀ β b, f' (bl β) = .box b → (f (bl β) = .box b ∧ ∀ k, c.χ k = [0, β] → k < w.heap.size → c'.χ k = [0, β] ∧ w'.heap[k]? = w.heap[k]?) ∨ (BoxR w' c' β b ∧ M' β))
    (hroots : ∀ κ r, f' (rl κ) = .root r → (f (rl κ) = .root r ∧ c'.gens κ = c.gens κ ∧ ∀ k q, c.χ k = (κ + 1) :: q → k < w.heap.size → c'.χ k = (κ + 1) :: q ∧ w'.heap[k]? = w.heap[k]?) ∨ (RootR w' c' κ r ∧ M' κ))
    (hlive : ∀ κ g, c'.gens κ = some g → ∃ r, f' (rl κ) = .root r)
    (hfresh : ∀ l, f' l = f l ∨ xB M' (f' l)) (hhdr : ∀ κ, c'.hdr κ = c.hdr κ ∨ ∃ A n cp, c'.hdr κ = .slice A n cp) (hfroz : ∀ κ x, f' (rl κ) = .s x → f (rl κ) = .s x ∨ (SR w' c' x (c'.hdr κ) ∧ M' κ)) : Rel M' N w0 keep f' c' a' w' where
  size := hsz
  defers := hd
  os := hos.trans h.os
  tape := htape.trans h.tape
  output := hout.trans h.output
  hsize := Nat.le_trans h.hsize st.size
  kept := fun k hk hl => by
    obtain ⟨h1, h2⟩ := h.kept k hk hl
    obtain ⟨h3, h4⟩ := st.stab k (by rw [h1]; exact hk) (Nat.lt_of_lt_of_le hl h.hsize)
    exact ⟨h3.trans h1, h4.trans h2⟩
  pars := fun t v hv => (hpa t v hv).trans (h.pars t v hv)
  slots := fun t x hx => by
    rcases hslots t x hx with ⟨h1, h2⟩ | h1
    · rw [h2]
      have := h.fresh (sl t)
      rw [h1] at this
      exact SR_stays st this (h.slots t x h1)
    · exact h1
  boxes := fun β b hx => by
    rcases hboxes β b hx with ⟨h1, h2⟩ | h1
    · have := h.fresh (bl β)
      rw [h1] at this
      exact ⟨BoxR_stays st (h.boxes β b h1).2 this h2 (h.boxes β b h1).1, hM _ (h.boxes β b h1).2⟩
    · exact h1
  roots := fun κ r hx => by
    rcases hroots κ r hx with ⟨h1, h2, h3⟩ | h1
    · exact ⟨RootR_stays st (h.roots κ r h1).2 h3 h2 (h.roots κ r h1).1, hM _ (h.roots κ r h1).2⟩
    · exact h1
  live := hlive
  fresh := fun l => by
    rcases hfresh l with h1 | h1
    · rw [h1]; exact xB_mono hM (h.fresh l)
    · exact h1
  hdrs := fun κ => (hhdr κ).elim (fun e => by rw [e]; exact h.hdrs κ) id
  froz := fun κ x hx => by
    rcases hfroz κ x hx with h1 | h1
    · obtain ⟨h2, h3⟩ := h.froz κ x h1
      have := h.fresh (rl κ)
      rw [h1] at this
      rw [(st.hdr κ h3).1]
      exact ⟨SR_stays st this h2, hM _ h3⟩
    · exact h1
/-- What holds by itself where only certain roots and boxes were touched. -/
theorem Rel.stays {M : Nat → Prop} {N : Nat} {w0 w w' : World} {keep : Kp} {f : Nat → Val} {c c' : Ctx} {a : Act} (h : Rel M N w0 keep f c a w) (X : Nat → Prop) (Y : Nat → Prop) (hle : w.heap.size ≤ w'.heap.size)
    (hχ : ∀ k, k < w.heap.size → stable (c.χ k) → c'.χ k = c.χ k)
    (hb : ∀ k, k < w.heap.size → (∀ κ q, c.χ k = (κ + 1) :: q → ¬ X κ) → (∀ β q, c.χ k = 0 :: β :: q → ¬ Y β) → w'.heap[k]? = w.heap[k]?)
    (hh : ∀ κ, M κ → c'.hdr κ = c.hdr κ ∧ c'.wid κ = c.wid κ) (hk : ∀ β, M β → c'.blk β = c.blk β)
    (hg : ∀ κ, M κ → X κ → ∀ g', c'.gens κ = some g' → ∃ g0, c.gens κ = some g0 ∧ g0 ≤ g' ∧ (g0 = g' → ∀ k, (c.hdr κ).ownBlock = some k → k < w.heap.size → w'.heap[k]? = w.heap[k]?)) (hg2 : ∀ κ, M κ → ¬ X κ → c'.gens κ = c.gens κ) : Stays M w c w' c' where
  size := hle
  stab := fun k hk0 hl => ⟨hχ k hl hk0, hb k hl (fun κ q e => by rw [e] at hk0; rcases hk0 with h | h <;> cases h) (fun β q e => by rw [e] at hk0; rcases hk0 with h | h <;> cases h)⟩
  hdr := hh
  blk := hk
  gens := fun κ g' hκ h1 => by
    by_cases hX : X κ
    · exact hg κ hκ hX g' h1
    · rw [hg2 κ hκ hX] at h1
      refine ⟨g', h1, Nat.le_refl _, fun _ k hk1 hl => ?_⟩
      obtain ⟨r, hr⟩ := h.live κ g' h1
      obtain ⟨v, inner, hv, _, hc, _⟩ := (h.roots κ r hr).1.body
      have hc' : c.χ k = [κ + 1] := hc k (by rw [← hv]; exact hk1)
      refine hb k hl (fun κ' q e => ?_) (fun β q e => ?_)
      · rw [hc'] at e; injection e with e _; have : κ' = κ := by omega
        rw [this]; exact hX
      · rw [hc'] at e; injection e with e _; omega
theorem upd1_eq (f : Nat → Val) (l : Nat) (x : Val) (j : Nat) : upd1 f l x j = if j = l then x else f j := by
  unfold upd1
  by_cases h : j = l
  · subst h; rw [if_pos rfl]; have : Nat.beq j j = true := by simp
    rw [this]; rfl
  · rw [if_neg h]
    have : Nat.beq j l = false := by
      cases e : Nat.beq j l with
      | false => rfl
      | true => exact absurd (Nat.eq_of_beq_eq_true e) h
    rw [this]; rfl
/-- Roots told anew: those of X were touched; f' has other roots there. -/
theorem Rel.reroot {M M' : Nat → Prop} {N : Nat} {w0 w w' : World} {keep : Kp} {f f' : Nat → Val} {c c' : Ctx} {a : Act} (h : Rel M N w0 keep f c a w) (hM : Le M M') (X : Nat → Prop) (hle : w.heap.size ≤ w'.heap.size)
    (hos : w'.os = w.os) (htape : w'.tape = w.tape) (hout : w'.output = w.output)
    (hb : ∀ k, k < w.heap.size → (∀ κ q, c.χ k = (κ + 1) :: q → ¬ X κ) → c'.χ k = c.χ k ∧ w'.heap[k]? = w.heap[k]?)
    (hh : ∀ κ, M κ → c'.hdr κ = c.hdr κ ∧ c'.wid κ = c.wid κ) (hk : c'.blk = c.blk)
    (hg : ∀ κ, M κ → X κ → ∀ g', c'.gens κ = some g' → ∃ g0, c.gens κ = some g0 ∧ g0 ≤ g' ∧ (g0 = g' → ∀ k, (c.hdr κ).ownBlock = some k → k < w.heap.size → w'.heap[k]? = w.heap[k]?)) (hg2 : ∀ κ, M κ → ¬ X κ → c'.gens κ = c.gens κ)
    (hfs : ∀ l, l % 3 ≠ 2 → f' l = f l) (hroots : ∀ κ r, f' (rl κ) = .root r → (f (rl κ) = .root r ∧ ¬ X κ) ∨ (RootR w' c' κ r ∧ M' κ))
    (hlive : ∀ κ g, c'.gens κ = some g → ∃ r, f' (rl κ) = .root r) (hxs : ∀ κ, f' (rl κ) = f (rl κ) ∨ xR (f' (rl κ)) ∨ ∃ x, f' (rl κ) = .s x ∧ sB M' x ∧ SR w' c' x (c'.hdr κ) ∧ M' κ) (hhdr : ∀ κ, c'.hdr κ = c.hdr κ ∨ ∃ A n cp, c'.hdr κ = .slice A n cp) : Rel M' N w0 keep f' c' a w' := by
  have st : Stays M w c w' c' := h.stays X (fun _ => False) hle
    (fun k hl hs => (hb k hl (fun κ q e => by rw [e] at hs; rcases hs with h | h <;> cases h)).1) (fun k hl h1 _ => (hb k hl h1).2) hh (fun β _ => by rw [hk]) hg hg2
  refine h.next hM st h.size h.defers (fun _ _ _ => rfl) hos htape hout (fun t x hx => .inl ⟨?_, rfl⟩) (fun β b hx => .inl ⟨?_, fun k hk' hl => hb k hl (fun κ q e => by rw [hk'] at e; injection e with e _; omega) |>.imp (fun e => e.trans hk') id⟩) (fun κ r hr => ?_) hlive (fun l => ?_) hhdr (fun κ x hx => ?_)
  · rwa [hfs _ (by simp only [sl]; omega)] at hx
  · rwa [hfs _ (by simp only [bl]; omega)] at hx
  · rcases hroots κ r hr with ⟨h1, h2⟩ | h1
    · exact .inl ⟨h1, hg2 κ (h.roots κ r h1).2 h2, fun k q hq hl => (hb k hl (fun κ' q' e => by
        rw [hq] at e; injection e with e _; have : κ' = κ := by omega
        rw [this]; exact h2)).imp (fun e => e.trans hq) id⟩
    · exact .inr h1
  · by_cases e : l % 3 = 2
    · have : l = rl (l / 3) := by simp only [rl]; omega
      rw [this]
      rcases hxs (l / 3) with h1 | h1 | ⟨x, e1, h1, _⟩
      · exact .inl h1
      · exact .inr (xR_xB h1)
      · exact .inr (by rw [e1]; exact h1)
    · exact .inl (hfs l e)
  · rcases hxs κ with h1 | h1 | ⟨y, e1, _, h1⟩
    · exact .inl (by rw [← h1]; exact hx)
    · rw [hx] at h1; exact h1.elim
    · rw [hx] at e1; injection e1 with e1; subst e1; exact .inr h1
end Go.Proofs.Ytoioaijpdiglfaa.V
