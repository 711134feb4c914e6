/- A law's row: what the arguments read, told as data of the interpreter; and the row out of an answer of the interpreter. -/
import Derived.Test.YtoioaijpdiglfaaVFun
import Derived.Deep.Slices
import Derived.ChangeArms
import Derived.WideShapes
import Derived.SizedLaws
import Derived.OpenShut
import Derived.ShutString
import Derived.ChangeOld
set_option linter.unusedVariables false
set_option linter.unusedSimpArgs false
namespace Go.Proofs.Ytoioaijpdiglfaa.V
open Go Go.RowKit Go.ChangeShapes Go.WideShapes Go.Deep
/-- What a reading says of the data: numbers in range, rows no longer than memory. -/
def Fit (P : Program) : (t : Ty) → den t → Prop
  | .int k, n => (Lit.int k n).wf = true
  | .bool, _ => True
  | .str, s => s.size ≤ reachBytes
  | .sl e t, xs => (xs : List (den t)).length * bytesT P e ≤ reachBytes ∧ ∀ x ∈ (xs : List (den t)), Fit P t x
  | .pair a b, x => Fit P a (x : den a × den b).1 ∧ Fit P b (x : den a × den b).2
  | .unit, _ => True
  | .ptr _ _, _ => True
/-- Do the program's types lie as the leaves do? -/
def layF (P : Program) : List Field → Nat → Nat → Bool
  | [], off, tot => Nat.beq off tot
  | f :: fs, off, tot => Nat.beq f.offset off && layF P fs (off + P.cellsOf f.type) tot
def laidT (P : Program) : Nat → Nat → Bool
  | 0, _ => false
  | n + 1, T => match P.underlying T with
    | some (.int _) => true
    | some .bool => true
    | some .string => true
    | some (.slice e) => match tysOf P n e with
      | some ts => Nat.beq (P.cellsOf e) (width (tupTy ts)) && (Nat.blt 0 (width (tupTy ts)) && laidT P n e)
      | none => false
    | some (.struct fs) => layF P fs.toList 0 (P.cellsOf T) && fs.toList.all fun f => laidT P n f.type
    | _ => false
section
variable {P : Program} {w : World} {ok : Nat → Prop}
theorem join_Rd : ∀ (as bs : List Ty) {x : den (tupTy as)} {y : den (tupTy bs)} {c0 c1 : List Value}, Rd w ok (tupTy as) x c0 → Rd w ok (tupTy bs) y c1 → Fit P (tupTy as) x → Fit P (tupTy bs) y → ∃ z : den (tupTy (as ++ bs)), Rd w ok (tupTy (as ++ bs)) z (c0 ++ c1) ∧ Fit P (tupTy (as ++ bs)) z
  | [], bs, x, y, c0, c1, h0, h1, f0, f1 => by
    rw [show c0 = [] from h0]
    exact ⟨y, h1, f1⟩
  | [a], [], x, y, c0, c1, h0, h1, f0, f1 => by
    have h1 : c1 = [] := h1
    subst h1
    exact ⟨x, by show Rd w ok (tupTy [a]) x (c0 ++ []); rw [List.append_nil c0]; exact h0, f0⟩
  | [a], b :: bs, x, y, c0, c1, h0, h1, f0, f1 => ⟨(x, y), ⟨c0, c1, rfl, h0, h1⟩, f0, f1⟩
  | a :: a' :: as, bs, x, y, c0, c1, ⟨d0, d1, e, g0, g1⟩, h1, f0, f1 => by
    obtain ⟨z, hz, fz⟩ := join_Rd (a' :: as) bs g1 h1 f0.2 f1
    exact ⟨((x : den a × den (tupTy (a' :: as))).1, z), ⟨d0, d1 ++ c1, by rw [e, List.append_assoc], g0, hz⟩, f0.1, fz⟩
theorem pick_list {α : Type} {q : Nat → α → Prop} : ∀ (n : Nat), (∀ i, i < n → ∃ y, q i y) → ∃ l : List α, l.length = n ∧ ∀ (i : Nat) (y : α), l[i]? = some y → q i y
  | 0, _ => ⟨[], rfl, fun i y h => by simp at h⟩
  | n + 1, h => by
    obtain ⟨l, hl, hq⟩ := pick_list n (fun i hi => h i (by omega))
    obtain ⟨y, hy⟩ := h n (by omega)
    refine ⟨l ++ [y], by simp [hl], fun i z hz => ?_⟩
    rcases Nat.lt_or_ge i n with hi | hi
    · rw [List.getElem?_append_left (by omega)] at hz; exact hq i z hz
    · have hlt := (List.getElem?_eq_some_iff.1 hz).1
      rw [List.length_append, List.length_singleton] at hlt
      have : i = n := by omega
      subst this
      rw [List.getElem?_append_right (by omega), hl, Nat.sub_self] at hz
      have hz : y = z := by simpa using hz
      subst hz; exact hy
theorem flat_len {α : Type} {wd : Nat} : ∀ {l : List (List α)}, (∀ x ∈ l, x.length = wd) → l.flatten.length = l.length * wd
  | [], _ => by simp
  | x :: l, h => by rw [List.flatten_cons, List.length_append, h x List.mem_cons_self, flat_len (fun y hy => h y (List.mem_cons_of_mem _ hy)), List.length_cons, Nat.succ_mul, Nat.add_comm]
theorem flat_chunk {α : Type} {wd : Nat} : ∀ {l : List (List α)} (i : Nat) {x : List α}, (∀ x ∈ l, x.length = wd) → l[i]? = some x → (l.flatten.drop (i * wd)).take wd = x
  | y :: l, 0, x, h, hx => by
    have hx : y = x := by simpa using hx
    subst hx
    have := h y List.mem_cons_self
    rw [Nat.zero_mul, List.drop_zero, List.flatten_cons, List.take_append_of_le_length (by omega), List.take_of_length_le (by omega)]
  | y :: l, i + 1, x, h, hx => by
    have hy := h y List.mem_cons_self
    rw [Nat.succ_mul, Nat.add_comm, List.flatten_cons, ← List.drop_drop, List.drop_append_of_le_length (by omega), List.drop_of_length_le (show y.length ≤ wd by omega), List.nil_append]
    exact flat_chunk i (fun z hz => h z (List.mem_cons_of_mem _ hz)) (by simpa using hx)
  | [], i, x, h, hx => by simp at hx
variable {H : Type} {enc : TypeId × Value → H} {base : Nat} {spare : Nat → Bool} {held : Bool}
theorem weights_all {e : Nat} {ds : List (DataW H)} {d : DataW H} (hd : d ∈ ds) : ∀ m ∈ d.weights P e, m ∈ DataW.weightsAll P e ds := by
  induction ds with
  | nil => cases hd
  | cons x ds ih =>
    intro m hm
    rw [DataW.weightsAll, List.mem_append]
    rcases List.mem_cons.1 hd with e' | e'
    · subst e'; exact .inl hm
    · exact .inr (ih e' m hm)
theorem trod_read : ∀ (n T : Nat) {ts : List Ty}, tysOf P n T = some ts → laidT P n T = true → ∀ {fuel : Nat} {cs : List Value} {x : DataW H × List MemPlace}, DataW.trod enc P w base spare held fuel T cs = some x → (∀ m ∈ x.1.weights P T, m ≤ reachBytes) →
    ∃ y : den (tupTy ts), Rd w (fun _ => True) (tupTy ts) y cs ∧ Fit P (tupTy ts) y
  | 0, T, ts, ht, _, _, _, _, _, _ => by cases ht
  | n + 1, T, ts, ht, hl, fuel, cs, x, htr, hwt => by
    simp only [tysOf] at ht
    simp only [laidT] at hl
    cases hu : P.underlying T with
    | none => rw [hu] at ht; cases ht
    | some d =>
      rw [hu] at ht hl
      cases d with
      | int k =>
        have ht : [Ty.int k] = ts := by simpa using ht
        subst ht
        cases fuel with
        | zero => cases htr
        | succ fuel =>
          obtain ⟨m, e1, e2⟩ : ∃ m, cs = [.int k m] ∧ (Lit.int k m).wf = true := by
            unfold DataW.trod at htr
            rw [hu] at htr
            split at htr <;> simp_all
          exact ⟨m, e1, e2⟩
      | bool =>
        have ht : [Ty.bool] = ts := by simpa using ht
        subst ht
        cases fuel with
        | zero => cases htr
        | succ fuel =>
          obtain ⟨b, e1⟩ : ∃ b, cs = [.bool b] := by
            unfold DataW.trod at htr
            rw [hu] at htr
            split at htr <;> simp_all
          exact ⟨b, e1, trivial⟩
      | string =>
        have ht : [Ty.str] = ts := by simpa using ht
        subst ht
        cases fuel with
        | zero => cases htr
        | succ fuel =>
          obtain ⟨s, e1, e2⟩ : ∃ s : ByteArray, cs = [.string s] ∧ x.1 = .lit (.string s.data.toList) := by
            unfold DataW.trod at htr
            rw [hu] at htr
            split at htr <;> simp_all
            obtain ⟨_, rfl⟩ := htr
            rfl
          refine ⟨s, e1, ?_⟩
          have := hwt s.data.toList.length (by rw [e2]; simp [DataW.weights])
          rw [Array.length_toList] at this
          exact this
      | slice e =>
        simp only at ht hl
        cases he : tysOf P n e with
        | none => rw [he] at ht; cases ht
        | some us =>
          rw [he] at ht hl
          have ht : [Ty.sl e (tupTy us)] = ts := by simpa using ht
          subst ht
          simp only [Bool.and_eq_true] at hl
          obtain ⟨hl1, hl2, hl3⟩ := hl
          have hl1 := Nat.eq_of_beq_eq_true hl1
          rcases open_slice hu htr with ⟨rfl, rfl⟩ | ⟨a, len, cap, m, fl, D, Pl, rfl, hb, hle, hcm, hm, rfl, hel⟩
          · refine ⟨[], ⟨none, 0, [], rfl, Nat.le_refl _, Nat.zero_le _, by simp, fun j u hu => by simp at hu, fun j x hx => by simp at hx⟩, by simp, fun x hx => by cases hx⟩
          · have hml : len ≤ m := by rw [hm]; split <;> omega
            have hw2 : ∀ i, i < len → ∀ q ∈ (D i).weights P e, q ≤ reachBytes := fun i hi q hq => hwt q (by
              simp only [DataW.weights, hu]
              refine List.mem_cons_of_mem _ (List.mem_append_left _ (weights_all (d := D i) ?_ q hq))
              exact List.mem_map.2 ⟨i, List.mem_range.2 hi, rfl⟩)
            obtain ⟨l, hll, hlq⟩ := pick_list (q := fun i (p : List Value × den (tupTy us)) => w.cells? base (a.add (i * P.cellsOf e)) (P.cellsOf e) = some p.1 ∧ Rd w (fun _ => True) (tupTy us) p.2 p.1 ∧ Fit P (tupTy us) p.2) len (fun i hi => by
              obtain ⟨cs', h1, h2⟩ := hel i (by omega)
              obtain ⟨y, h3, h4⟩ := trod_read n e he hl3 h2 (hw2 i hi)
              exact ⟨(cs', y), h1, h3, h4⟩)
            have hwid : ∀ x ∈ l.map (·.1), x.length = width (tupTy us) := fun x hx => by
              obtain ⟨p, hp, rfl⟩ := List.mem_map.1 hx
              obtain ⟨i, hi⟩ := List.getElem?_of_mem hp
              exact Rd_len (hlq i p hi).2.1
            have hlen : (l.map (·.1)).flatten.length = len * width (tupTy us) := by rw [flat_len hwid, List.length_map, hll]
            refine ⟨l.map (·.2), ⟨some a, cap, (l.map (·.1)).flatten, by rw [List.length_map, hll], by rw [List.length_map, hll]; exact hle, hcm, by rw [hlen, List.length_map, hll], fun j u hj => ?_, fun j x hx => ?_⟩, ?_, fun x hx => ?_⟩
            · refine ⟨a, rfl, trivial, ?_⟩
              have hpos : 0 < width (tupTy us) := by simpa [Nat.blt_eq] using hl2
              have hjl := (List.getElem?_eq_some_iff.1 hj).1
              rw [hlen] at hjl
              have hq : j / width (tupTy us) < len := Nat.div_lt_of_lt_mul (by rw [Nat.mul_comm]; exact hjl)
              have hr := Nat.mod_lt j hpos
              obtain ⟨p, hp⟩ : ∃ p, l[j / width (tupTy us)]? = some p := ⟨_, List.getElem?_eq_getElem (by rw [hll]; exact hq)⟩
              have hch := flat_chunk (j / width (tupTy us)) (x := p.1) hwid (by rw [List.getElem?_map, hp]; rfl)
              obtain ⟨_, hcl, hcell⟩ := World.cells?_some (hlq _ p hp).1
              have hdm : j / width (tupTy us) * width (tupTy us) + j % width (tupTy us) = j := by rw [Nat.mul_comm]; exact Nat.div_add_mod j _
              have := hcell (j % width (tupTy us)) (by rw [hl1]; exact hr)
              rw [add_add, hl1, hdm, ← hch, List.getElem?_take, if_pos hr, List.getElem?_drop, hdm, hj] at this
              exact this
            · rw [List.getElem?_map] at hx
              obtain ⟨p, hp, rfl⟩ := Option.map_eq_some_iff.1 hx
              rw [flat_chunk j (x := p.1) hwid (by rw [List.getElem?_map, hp]; rfl)]
              exact (hlq j p hp).2.1
            · have := hwt _ (by
                simp only [DataW.weights, hu]
                exact List.mem_cons_self)
              rw [List.length_map, List.length_range, List.length_map, List.length_range] at this
              rw [List.length_map, hll]
              have hby : P.bytesOf e = bytesT P e := by unfold Program.bytesOf bytesT; cases P.info? e <;> rfl
              rw [hby] at this
              exact Nat.le_trans (Nat.mul_le_mul_right _ (by omega)) this
            · obtain ⟨p, hp, rfl⟩ := List.mem_map.1 hx
              obtain ⟨i, hi⟩ := List.getElem?_of_mem hp
              exact (hlq i p hi).2.2
      | struct fs =>
        simp only at ht hl
        simp only [Bool.and_eq_true] at hl
        obtain ⟨hl1, hl2⟩ := hl
        obtain ⟨xs, m, rfl, rfl, hcl, hxl, hf⟩ := DataW.trod_struct hu htr
        have hwt' : ∀ (i : Nat) (f : Field) (q : DataW H × List MemPlace), fs[i]? = some f → xs[i]? = some q → ∀ m ∈ q.1.weights P f.type, m ≤ reachBytes := fun i f q hi hq m hm => hwt m (by
          simp only [DataW.weights, hu]
          exact DataW.weights_mem_each (j := i) (t := f.type) (d := q.1) (by rw [List.getElem?_map]; simp [hi]) (by rw [List.getElem?_map, hq]; rfl) m hm)
        -- field by field
        have key : ∀ (fl : List Field) (i off : Nat) {ts : List Ty}, (∀ (j : Nat) (f : Field), fl[j]? = some f → fs[i + j]? = some f) → layF P fl off (P.cellsOf T) = true → off ≤ cs.length → (fl.foldr (fun f acc => match tysOf P n f.type, acc with
              | some a, some b => some (a ++ b)
              | _, _ => none) (some [])) = some ts → ∃ y : den (tupTy ts), Rd w (fun _ => True) (tupTy ts) y (cs.drop off) ∧ Fit P (tupTy ts) y := by
          intro fl
          induction fl with
          | nil =>
            intro i off ts _ hlay hoff hts
            have hts : [] = ts := by simpa using hts
            subst hts
            have := Nat.eq_of_beq_eq_true hlay
            exact ⟨(), by rw [List.drop_of_length_le (by omega)]; rfl, trivial⟩
          | cons f fl ih =>
            intro i off ts hget hlay hoff hts
            simp only [layF, Bool.and_eq_true] at hlay
            have ho := Nat.eq_of_beq_eq_true hlay.1
            simp only [List.foldr_cons] at hts
            split at hts
            · rename_i as bs e1 e2
              have hts : as ++ bs = ts := by simpa using hts
              subst hts
              have hfi := hget 0 f rfl
              rw [Nat.add_zero] at hfi
              have hmem : f ∈ fs.toList := by rw [Array.mem_toList_iff]; exact Array.mem_of_getElem? hfi
              have hlf := List.all_eq_true.1 hl2 f hmem
              have htrf := hf i f hfi
              have hxi : ∃ q, xs[i]? = some q := ⟨_, List.getElem?_eq_getElem (by rw [hxl]; exact (Array.getElem?_eq_some_iff.1 hfi).1)⟩
              obtain ⟨q, hq⟩ := hxi
              rw [hq] at htrf
              obtain ⟨y, hy, fy⟩ := trod_read n f.type e1 hlf htrf (hwt' i f q hfi hq)
              have hyl := Rd_len hy
              have hrest : off + P.cellsOf f.type ≤ P.cellsOf T := by
                have : ∀ (fl : List Field) (o t : Nat), layF P fl o t = true → o ≤ t := by
                  intro fl
                  induction fl with
                  | nil => intro o t h; have := Nat.eq_of_beq_eq_true h; omega
                  | cons g gs ih => intro o t h; simp only [layF, Bool.and_eq_true] at h; have := ih _ _ h.2; omega
                exact this fl _ _ hlay.2
              obtain ⟨z, hz, fz⟩ := ih (i + 1) (off + P.cellsOf f.type) (fun j g hg => by have := hget (j + 1) g (by simpa using hg); rw [show i + 1 + j = i + (j + 1) by omega]; exact this) hlay.2 (by omega) e2
              rw [ho] at hy
              obtain ⟨v, hv, fv⟩ := join_Rd as bs hy hz fy fz
              refine ⟨v, ?_, fv⟩
              have : cs.drop off = (cs.drop off).take (P.cellsOf f.type) ++ cs.drop (off + P.cellsOf f.type) := by rw [← List.drop_drop, List.take_append_drop]
              rw [this]; exact hv
            · cases hts
        have := key fs.toList 0 0 (fun j f hj => by simpa using hj) hl1 (Nat.zero_le _) ht
        simpa using this
      | pointer e => cases hl
      | _ => cases ht
theorem tup_width : ∀ {ts : List Ty}, (∀ t ∈ ts, width t = 1) → width (tupTy ts) = ts.length
  | [], _ => rfl
  | [t], h => h t List.mem_cons_self
  | t :: u :: ts, h => by
    show width t + width (tupTy (u :: ts)) = _
    rw [h t List.mem_cons_self, tup_width (fun t ht => h t (List.mem_cons_of_mem _ ht)), List.length_cons, List.length_cons]; simp only [List.length_cons]; omega
theorem tysOf_leaf : ∀ (n T : Nat) {ts : List Ty}, tysOf P n T = some ts → ∀ t ∈ ts, width t = 1
  | 0, _, _, h => by cases h
  | n + 1, T, ts, h => by
    simp only [tysOf] at h
    split at h
    · injection h with h; rw [← h]; intro t ht; rw [List.mem_singleton.1 ht]; rfl
    · injection h with h; rw [← h]; intro t ht; rw [List.mem_singleton.1 ht]; rfl
    · injection h with h; rw [← h]; intro t ht; rw [List.mem_singleton.1 ht]; rfl
    · split at h
      · injection h with h; rw [← h]; intro t ht; rw [List.mem_singleton.1 ht]; rfl
      · cases h
    · split at h
      · injection h with h; rw [← h]; intro t ht; rw [List.mem_singleton.1 ht]; rfl
      · cases h
    · rename_i fs _
      have key : ∀ (fl : List Field) {ts : List Ty}, (fl.foldr (fun f acc => match tysOf P n f.type, acc with
              | some a, some b => some (a ++ b)
              | _, _ => none) (some [])) = some ts → ∀ t ∈ ts, width t = 1 := by
        intro fl
        induction fl with
        | nil => intro ts h; have h : [] = ts := by simpa using h
                 subst h; intro t ht; cases ht
        | cons f fl ih =>
          intro ts h
          simp only [List.foldr_cons] at h
          split at h
          · rename_i a b e1 e2
            have h : a ++ b = ts := by simpa using h
            subst h
            intro t ht
            rcases List.mem_append.1 ht with ht | ht
            · exact tysOf_leaf n f.type e1 t ht
            · exact ih e2 t ht
          · cases h
      exact key fs.toList h
    · cases h
/-- A law's arguments, as the interpreter takes them. -/
theorem args_read : ∀ (Ts : List Nat) {ts : List Ty} {vs : List Value} {ds : List (DataW H)} {p : List MemPlace}, tysL P Ts = some ts → Ts.all (laidT P 6) = true → DataW.TrodAll enc P w 0 spare held Ts vs ds p → (∀ (j : Nat) t v, Ts[j]? = some t → vs[j]? = some v → ∃ b, Value.okWide P w .any b t v) → (∀ (j : Nat) t d, Ts[j]? = some t → ds[j]? = some d → ∀ m ∈ d.weights P t, m ≤ reachBytes) →
    ∃ (x : den (tupTy ts)) (cs : List Value), Rd w (fun _ => True) (tupTy ts) x cs ∧ Fit P (tupTy ts) x ∧ grp P Ts cs = vs
  | [], ts, vs, ds, p, ht, _, hA, _, _ => by
    have ht : [] = ts := by simpa [tysL] using ht
    subst ht
    cases vs with
    | nil => exact ⟨(), [], rfl, trivial, rfl⟩
    | cons _ _ => cases ds <;> exact hA.elim
  | T :: Ts, ts, vs, ds, p, ht, hl, hA, hok, hwt => by
    simp only [tysL] at ht
    split at ht
    · rename_i us rs e1 e2
      have ht : us ++ rs = ts := by simpa using ht
      subst ht
      rw [List.all_cons, Bool.and_eq_true] at hl
      obtain ⟨v, vs', d, ds', q, q', rfl, rfl, rfl, ⟨fuel, h0⟩, hr⟩ := trodAll_cons hA
      obtain ⟨y, hy, fy⟩ := trod_read 6 T e1 hl.1 h0 (hwt 0 T d rfl rfl)
      obtain ⟨z, cs, hz, fz, hg⟩ := args_read Ts e2 hl.2 hr (fun j t v h1 h2 => hok (j + 1) t v (by simpa using h1) (by simpa using h2)) (fun j t d h1 h2 => hwt (j + 1) t d (by simpa using h1) (by simpa using h2))
      obtain ⟨u, hu, fu⟩ := join_Rd us rs hy hz fy fz
      refine ⟨u, _, hu, fu, ?_⟩
      have hlen : v.cells.toList.length = us.length := by rw [Rd_len hy, tup_width (tysOf_leaf 6 T e1)]
      obtain ⟨b, hval⟩ := hok 0 T v rfl rfl
      simp only [grp, e1]
      have hdrop : (v.cells.toList ++ cs).drop us.length = cs := by rw [← hlen, List.drop_left]
      have htake : (v.cells.toList ++ cs).take us.length = v.cells.toList := by rw [← hlen, List.take_left]
      rw [hdrop, htake, hg]
      congr 1
      have plain : v.cells = #[v] → aggT P T = false → (cond (aggT P T) (Value.agg v.cells.toList.toArray) ((v.cells.toList ++ cs).headD undef)) = v := fun h1 h2 => by rw [h2, h1]; rfl
      have e1' := e1
      simp only [tysOf] at e1
      split at e1
      · rename_i k hu'; obtain ⟨n, rfl⟩ := okWide_int hu' hval; exact plain rfl (by simp [aggT, hu'])
      · rename_i hu'; obtain ⟨n, rfl⟩ := okWide_bool hu' hval; exact plain rfl (by simp [aggT, hu'])
      · rename_i hu'; obtain ⟨n, rfl⟩ := okWide_string hu' hval; exact plain rfl (by simp [aggT, hu'])
      · rename_i e hu'; obtain ⟨a, l, c, rfl⟩ := okWide_slice hu' hval; exact plain rfl (by simp [aggT, hu'])
      · rename_i e hu'
        have := hl.1
        simp [laidT, hu'] at this
      · rename_i fs hu'
        obtain ⟨cs', rfl, _⟩ := okWide_struct hu' hval
        have : aggT P T = true := by simp [aggT, hu']
        rw [this]
        simp [Value.cells]
      · cases e1
    · cases ht
/-- What is read is an argument, where nothing is written. -/
theorem arg_read : ∀ {ts : List Ty} {i : Nat} {x : den (tupTy ts)} {cs : List Value}, ts.all goodTy = true → Rd w (fun _ => True) (tupTy ts) x cs → ArgM w (fun _ => []) (fun _ => false) ts i x cs
  | [], i, x, cs, _, h => h
  | [t], i, x, cs, hg, h => by
    simp only [List.all_cons, List.all_nil, Bool.and_true] at hg
    have h : Rd w (fun _ => True) t x cs := h
    obtain ⟨d, rfl⟩ := one_leaf hg h
    exact ⟨d, rfl, Rd_step (fun _ _ _ => ⟨rfl, rfl⟩) h⟩
  | t :: u :: ts, i, x, cs, hg, ⟨c0, c1, e, h0, h1⟩ => by
    rw [List.all_cons, Bool.and_eq_true] at hg
    obtain ⟨d, rfl⟩ := one_leaf hg.1 h0
    subst e
    exact ⟨d, c1, rfl, Rd_step (fun _ _ _ => ⟨rfl, rfl⟩) h0, arg_read hg.2 h1⟩
/-- What a law answers, as its row wants it. -/
theorem law_callsG {Hi : Hints} {fn T : Nat} {F : Func} {x : den (parTy Hi fn)} {y : den (resTy Hi fn)} (hG : Glob P Hi w fun _ => []) (hm : Meets P Hi fn x y) (hF : P.funcs[fn]? = some F) (hT : F.resultTypes.toList = [T]) (hty : tysOf P 6 T = some [.bool]) (hag : aggT P T = false) (hout : Hi.out fn = []) (hlen : (Hi.res fn).length = 1) (hgood : (Hi.par fn).all goodTy = true)
    (hres : ∀ w' χ ds, OwnM w' χ (rmsOf Hi fn) (Hi.res fn) y 0 ds → ds = [.bool true]) {cs : List Value} (hrd : Rd w (fun _ => True) (parTy Hi fn) x cs) {args : Array Value} (hargs : grp P F.params.toList cs = args.toList) :
    Calls P fn args w fun e W' => e = .returned (.bool true) ∧ Below w.heap.size w W' := by
  obtain ⟨F', c, hF', hb, hc⟩ := hm
  rw [hF] at hF'
  injection hF' with hF'; subst hF'
  have hio : ioB Hi fn = fun _ => false := by funext i; simp [ioB, hout, memN]
  have := hc w cs (fun _ => []) hG (by rw [hio]; exact arg_read hgood hrd)
  rw [hargs, Array.toArray_toList] at this
  refine this.mono fun e w' he => ?_
  obtain ⟨ds, χ, rfl, hown, _, ha⟩ := he
  have hds := hres _ _ _ hown
  subst hds
  have hn : nres Hi fn = 1 := by unfold nres; rw [hlen, hout]; rfl
  refine ⟨?_, ⟨ha.os, ha.tape, ha.output, ha.size, fun k hk => (ha.old k (.inl rfl) hk).2⟩⟩
  rw [hT, hn]
  simp [retV, grp, hty, hag]
theorem law_calls {Hi : Hints} {fn T : Nat} {F : Func} {x : den (parTy Hi fn)} {y : den (resTy Hi fn)} (hm : Meets P Hi fn x y) (hF : P.funcs[fn]? = some F) (hT : F.resultTypes.toList = [T]) (hty : tysOf P 6 T = some [.bool]) (hag : aggT P T = false) (hout : Hi.out fn = []) (hlen : (Hi.res fn).length = 1) (hgood : (Hi.par fn).all goodTy = true)
    (hres : ∀ w' χ ds, OwnM w' χ (rmsOf Hi fn) (Hi.res fn) y 0 ds → ds = [.bool true]) {cs : List Value} (hrd : Rd w (fun _ => True) (parTy Hi fn) x cs) {args : Array Value} (hargs : grp P F.params.toList cs = args.toList) (htab : Hi.tab = none := by rfl) :
    Calls P fn args w fun e W' => e = .returned (.bool true) ∧ Below w.heap.size w W' := law_callsG (Glob.none htab) hm hF hT hty hag hout hlen hgood hres hrd hargs
end
end Go.Proofs.Ytoioaijpdiglfaa.V
