/- Plain laws over the shapes. -/
import Derived.Test.YthppocflbgnjlaaDoorP1
import Derived.Test.YthppocflbgnjlaaDoorS1
import Derived.Test.YthppocflbgnjlaaDoorS3
set_option linter.unusedVariables false
set_option linter.unusedSimpArgs false
set_option maxRecDepth 10000
namespace Go.Proofs.YthppocflbgnjlaaDoor.V
open Go
def I64 (n : Int) : Prop := -9223372036854775808 ≤ n ∧ n ≤ 9223372036854775807
def mkB (l : List UInt8) : ByteArray := ⟨l.toArray⟩
theorem mkB_size (l : List UInt8) : (mkB l).size = l.length := by simp [mkB, ByteArray.size]
theorem mkB_app (a b : List UInt8) : mkB a ++ mkB b = mkB (a ++ b) := by
  apply ByteArray.ext
  simp [mkB]
theorem mkB_data (s : ByteArray) : mkB s.data.toList = s := by
  apply ByteArray.ext
  simp [mkB]
theorem mkB_list (l : List UInt8) : (mkB l).data.toList = l := by simp [mkB]
/-- The digits of a number that is not 0; none for 0. -/
def digs (m : Nat) : List UInt8 := if m = 0 then [] else Lib.decDigits m
theorem digs_succ {m : Nat} (h : m ≠ 0) : digs m = digs (m / 10) ++ [UInt8.ofNat (48 + m % 10)] := by
  unfold digs
  rw [if_neg h]
  by_cases c : m < 10
  · rw [if_pos (by omega), Lib.decDigits, dif_pos c, List.nil_append, Nat.mod_eq_of_lt c]
  · rw [if_neg (by omega), Lib.decDigits, dif_neg c]
theorem dec_len : ∀ k m : Nat, m < 10 ^ (k + 1) → (Lib.decDigits m).length ≤ k + 1
  | 0, m, h => by rw [Lib.decDigits, dif_pos (by omega)]; simp
  | k + 1, m, h => by
    rw [Lib.decDigits]
    split
    · simp
    · rw [List.length_append, List.length_singleton]
      have := dec_len k (m / 10) (by rw [Nat.pow_succ] at h; omega)
      omega
theorem itoaB_mk (n : Int) : itoaB n = mkB (Lib.itoa n) := rfl
theorem itoaB_size {n : Int} (h : I64 n) : (itoaB n).size ≤ 20 := by
  obtain ⟨h1, h2⟩ := h
  rw [itoaB_mk, mkB_size]
  unfold Lib.itoa
  split
  · rw [List.length_cons]
    have := dec_len 18 n.natAbs (Nat.lt_of_le_of_lt (by omega : n.natAbs ≤ 9223372036854775808) (by decide))
    omega
  · have := dec_len 18 n.toNat (Nat.lt_of_le_of_lt (by omega : n.toNat ≤ 9223372036854775808) (by decide))
    omega
theorem dec_pos (m : Nat) : 1 ≤ (Lib.decDigits m).length := by
  rw [Lib.decDigits]
  split <;> simp
theorem impl_FormatInt_ok {n : Int} (h : I64 n) : impl_FormatInt n = some (itoaB n) := by
  rw [impl_FormatInt_eq, strconv_Itoa_eq, itoaC, if_pos h.1, if_pos h.2, Option.bind_some]
theorem num_one (d : Nat) (hd : d ≤ 9) : strOfNums [IntKind.u8.wrap (IntKind.i64.wrap (48 + (d : Int)))] = mkB [UInt8.ofNat (48 + d)] := by
  rw [wrap_id (by omega) (by omega), IntKind.wrap_u8]
  have : ((48 + (d : Int)) % 256).toNat = 48 + d := by omega
  simp [strOfNums, mkB, this]
theorem fmt_loop (x0 : Int) : ∀ (k : Nat) (x : Int) (acc : List UInt8), x.natAbs < 10 ^ k → acc.length + k ≤ 1000 → I64 x → spec_FormatInt_L5 x0 (mkB acc) x = spec_FormatInt_L5 x0 (mkB (digs x.natAbs ++ acc)) 0
  | 0, x, acc, h, _, _ => by
    have : x = 0 := by have : x.natAbs < 1 := h; omega
    subst this; rfl
  | k + 1, x, acc, h, hl, hi => by
    obtain ⟨i1, i2⟩ := hi
    by_cases hx : x = 0
    · subst hx; rfl
    have hz : (x.tdiv 10).natAbs = x.natAbs / 10 := Int.natAbs_tdiv x 10
    have hm : (x.tmod 10).natAbs = x.natAbs % 10 := Int.natAbs_tmod x 10
    have h10 : x.natAbs % 10 ≤ 9 := by omega
    have hq : (x.tdiv 10).natAbs < 10 ^ k := by rw [hz]; rw [Nat.pow_succ] at h; omega
    have hw : IntKind.i64.wrap (x.tdiv 10) = x.tdiv 10 := wrap_id (by omega) (by omega)
    have key : spec_FormatInt_L5 x0 (mkB ([UInt8.ofNat (48 + x.natAbs % 10)] ++ acc)) (x.tdiv 10) = spec_FormatInt_L5 x0 (mkB (digs x.natAbs ++ acc)) 0 := by
      rw [fmt_loop x0 k (x.tdiv 10) _ hq (by rw [List.length_append, List.length_singleton]; omega) ⟨by omega, by omega⟩, hz, digs_succ (by omega : x.natAbs ≠ 0), List.append_assoc]
    rw [spec_FormatInt_L5_eq, if_npos hx]
    by_cases hn : x.tmod 10 < 0
    · have e : IntKind.i64.wrap (0 - x.tmod 10) = ((x.natAbs % 10 : Nat) : Int) := by rw [wrap_id (by omega) (by omega)]; omega
      rw [if_dpos hn, e, num_one _ h10, hw, if_pos (by rw [mkB_size, mkB_size, List.length_singleton]; omega), mkB_app]
      exact key
    · have e : x.tmod 10 = ((x.natAbs % 10 : Nat) : Int) := by omega
      rw [if_dneg hn, e, num_one _ h10, hw, if_pos (by rw [mkB_size, mkB_size, List.length_singleton]; omega), mkB_app]
      exact key
theorem spec_FormatInt_ok {n : Int} (h : I64 n) : spec_FormatInt n = some (itoaB n) := by
  rw [spec_FormatInt_eq]
  by_cases h0 : n = 0
  · rw [if_epos h0, h0, itoaB_mk]
    unfold Lib.itoa
    rw [if_neg (by omega), show (0 : Int).toNat = 0 from rfl, Lib.decDigits, dif_pos (by omega)]
    rfl
  · obtain ⟨h1, h2⟩ := h
    have hd := dec_len 18 n.natAbs (Nat.lt_of_le_of_lt (by omega : n.natAbs ≤ 9223372036854775808) (by decide))
    have hl := fmt_loop n 19 n [] (Nat.lt_of_le_of_lt (by omega : n.natAbs ≤ 9223372036854775808) (by decide)) (by decide) ⟨h1, h2⟩
    have hl : spec_FormatInt_L5 n (ByteArray.mk #[]) n = _ := hl
    have hdg : digs n.natAbs = Lib.decDigits n.natAbs := if_neg (by omega)
    rw [if_eneg h0, hl, List.append_nil, hdg, spec_FormatInt_L5_eq, if_nneg rfl, itoaB_mk]
    unfold Lib.itoa
    by_cases hn : n < 0
    · rw [if_dpos hn, if_pos hn, if_pos (by rw [mkB_size]; have : (ByteArray.mk #[45]).size = 1 := rfl; omega)]
      rw [show ByteArray.mk #[45] = mkB [45] from rfl, mkB_app]; rfl
    · rw [if_dneg hn, if_neg hn, show n.natAbs = n.toNat by omega]
theorem joinB_mk (l : List ByteArray) (sep : ByteArray) : joinB l sep = mkB (Lib.join (l.map (·.data.toList)) sep.data.toList) := rfl
theorem join_snoc (l : List (List UInt8)) (x sep : List UInt8) : Lib.join (l ++ [x]) sep = if l = [] then x else Lib.join l sep ++ (sep ++ x) := by
  cases l with
  | nil => rw [List.nil_append, Lib.join_one, if_pos rfl]
  | cons y r => rw [List.cons_append, Lib.join_cons, Lib.join_cons, if_neg (by simp), Lib.joinTail, Lib.joinTail, List.map_append, List.flatten_append, List.append_assoc]; simp
theorem mk_list (a : ByteArray) : a = mkB a.data.toList := (mkB_data a).symm
theorem joinB_snoc (l : List ByteArray) (x sep : ByteArray) : joinB (l ++ [x]) sep = if l = [] then x else joinB l sep ++ sep ++ x := by
  rw [joinB_mk, List.map_append, List.map_singleton, join_snoc]
  by_cases h : l = []
  · rw [if_pos h, if_pos (by rw [h]; rfl), mkB_data]
  · rw [if_neg h, if_neg (by simpa using h), joinB_mk, ← List.append_assoc, ← mkB_app, ← mkB_app, mkB_data, mkB_data]
theorem joinB_nil (sep : ByteArray) : joinB [] sep = ByteArray.mk #[] := rfl
theorem take_snoc {α : Type} {l : List α} {i : Nat} {d : α} (h : i < l.length) : l.take (i + 1) = l.take i ++ [l.getD i d] := take_succ_getD h
theorem joinB_take {l : List ByteArray} {i : Nat} (h : i < l.length) (sep : ByteArray) : joinB (l.take (i + 1)) sep = if i = 0 then l.getD i default else joinB (l.take i) sep ++ sep ++ l.getD i default := by
  rw [take_snoc (d := default) h, joinB_snoc]
  by_cases c : i = 0
  · rw [if_pos c, if_pos (by rw [c]; rfl)]
  · rw [if_neg c, if_neg (by
      intro e
      have := congrArg List.length e
      rw [List.length_take, List.length_nil] at this
      omega)]
theorem joinB_size (k : Nat) (sep : ByteArray) (l : List ByteArray) (h : ∀ x ∈ l, x.size ≤ k) : (joinB l sep).size ≤ l.length * (k + sep.size) := by
  have key : ∀ i, i ≤ l.length → (joinB (l.take i) sep).size ≤ i * (k + sep.size) := by
    intro i
    induction i with
    | zero => intro _; exact Nat.zero_le _
    | succ i ih =>
      intro hi
      have ih := ih (by omega)
      have hx := h _ (getD_mem (d := default) (by omega : i < l.length))
      rw [joinB_take (by omega), Nat.succ_mul]
      split
      · omega
      · rw [ByteArray.size_append, ByteArray.size_append]; omega
  have := key l.length (Nat.le_refl _)
  rw [List.take_length] at this
  exact this
theorem strings_Join_ok {l : List ByteArray} {sep : ByteArray} {k : Nat} (h : ∀ x ∈ l, x.size ≤ k) (hl : l.length * (k + sep.size) ≤ 140737488355328) (hl2 : l.length ≤ 140737488355328) : strings_Join l sep = some (joinB l sep) := by
  rw [strings_Join_eq, joinC, if_pos (Nat.le_trans (joinB_size k sep l h) hl), if_pos hl2]
/-- Numbers, as texts. -/
def numsM (l : List Int) : List ByteArray := l.map itoaB
theorem numsM_get {l : List Int} {i : Nat} (h : i < l.length) : (numsM l).getD i default = itoaB (l.getD i 0) := by
  rw [numsM, List.getD_eq_getElem?_getD, List.getD_eq_getElem?_getD, List.getElem?_map, List.getElem?_eq_getElem h]; rfl
theorem numsM_length (l : List Int) : (numsM l).length = l.length := by simp [numsM]
theorem numsM_small {l : List Int} (h : ∀ x ∈ l, I64 x) : ∀ s ∈ numsM l, s.size ≤ 20 := fun s hs => by
  obtain ⟨x, hx, rfl⟩ := List.mem_map.1 hs
  exact itoaB_size (h x hx)
theorem impl_numbersText_ok {l : List Int} (sep : ByteArray) (h : ∀ x ∈ l, I64 x) (hl : l.length ≤ 1048576) (hs : sep.size ≤ 100) : impl_numbersText l sep = some (joinB (numsM l) sep) := by
  have hn := numsM_length l
  have key : ∀ i, i ≤ l.length → impl_numbersText_L3 sep l (l.length : Int) (i : Int) ((numsM l).take i) = some (joinB (numsM l) sep) := down (by
      rw [impl_numbersText_L3_eq, if_dneg (by omega), List.take_of_length_le (by omega), strings_Join_ok (numsM_small h) (by
        have : (numsM l).length * (20 + sep.size) ≤ 1048576 * 120 := Nat.mul_le_mul (by omega) (by omega)
        omega) (by omega), Option.bind_some]) fun i hi ih => by
    rw [impl_numbersText_L3_eq, if_dpos (by omega), if_pos (by omega), if_pos (by omega), Int.toNat_natCast, impl_FormatInt_ok (h _ (getD_mem hi)), Option.bind_some, if_pos (by rw [List.length_take, List.length_singleton]; omega), wrap_succ hi (by omega), ← numsM_get hi, ← take_snoc (by omega)]
    exact ih
  rw [impl_numbersText_eq]
  exact key 0 (Nat.zero_le _)
end Go.Proofs.YthppocflbgnjlaaDoor.V
