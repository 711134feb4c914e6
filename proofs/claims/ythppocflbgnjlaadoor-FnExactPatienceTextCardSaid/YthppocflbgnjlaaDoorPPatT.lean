/- Plain laws over the shapes. -/
import Derived.Test.YthppocflbgnjlaaDoorPHand
import Derived.Test.YthppocflbgnjlaaDoorPPat
import Derived.Test.YthppocflbgnjlaaDoorFIsPatience
import Derived.Test.YthppocflbgnjlaaDoorFPatienceText
import Derived.Test.YthppocflbgnjlaaDoorS1
import Derived.Test.YthppocflbgnjlaaDoorS2
import Derived.Test.YthppocflbgnjlaaDoorS3
set_option linter.unusedVariables false
set_option linter.unusedSimpArgs false
set_option maxRecDepth 10000
namespace Go.Proofs.YthppocflbgnjlaaDoor.V
open Go
theorem repB_zero (s : ByteArray) : repB s 0 = ByteArray.mk #[] := rfl
theorem repB_succ (s : ByteArray) (n : Nat) : repB s (n + 1) = repB s n ++ s := by
  show mkB (Lib.repeatL s.data.toList (n + 1)) = mkB (Lib.repeatL s.data.toList n) ++ s
  rw [Lib.repeatL_add, Lib.repeatL_one, ← mkB_app, mkB_data]
theorem repB_size (s : ByteArray) (n : Nat) : (repB s n).size = n * s.size := by
  show (mkB (Lib.repeatL s.data.toList n)).size = _
  rw [mkB_size, Lib.repeatL_length, Array.length_toList]; rfl
theorem nil_app (s : ByteArray) : ByteArray.mk #[] ++ s = s := by rw [mk_list s]; exact mkB_app [] _
/-- A pile as text. -/
def pileB (x : List Int × Int) : ByteArray := repB (ByteArray.mk #[35]) x.2.toNat ++ handB (x.1.drop x.2.toNat)
def pilesB (ps : List (List Int × Int)) : List ByteArray := ps.map pileB
theorem pilesB_get {ps : List (List Int × Int)} {i : Nat} (h : i < ps.length) : (pilesB ps).getD i default = pileB (ps.getD i ([], 0)) := by
  rw [pilesB, List.getD_eq_getElem?_getD, List.getD_eq_getElem?_getD, List.getElem?_map, List.getElem?_eq_getElem h]; rfl
theorem pilesB_length (ps : List (List Int × Int)) : (pilesB ps).length = ps.length := by simp [pilesB]
/-- What is known of a pile of a game. -/
def PileIs (x : List Int × Int) : Prop := x.1.length ≤ 2097152 ∧ 0 ≤ x.2 ∧ x.2 ≤ (x.1.length : Int)
theorem pileB_size {x : List Int × Int} (h : PileIs x) : (pileB x).size ≤ 8388608 := by
  obtain ⟨h1, h2, h3⟩ := h
  have := handB_size (x.1.drop x.2.toNat)
  rw [List.length_drop] at this
  have z : (ByteArray.mk #[35]).size = 1 := rfl
  unfold pileB
  rw [ByteArray.size_append, repB_size, z]
  omega
def patienceB (ps : List (List Int × Int)) (b st wa : List Int) : ByteArray := if patM ps b st wa = true then joinB (pilesB ps) (ByteArray.mk #[32]) ++ ByteArray.mk #[32, 91] ++ joinB (numsM b) (ByteArray.mk #[44]) ++ ByteArray.mk #[93, 32] ++ itoaB (st.length : Int) ++ ByteArray.mk #[43] ++ itoaB (wa.length : Int) else ByteArray.mk #[]
theorem pat_facts (ps : List (List Int × Int)) (b st wa : List Int) (hh : G3 ps) (hb : b.length ≤ 2097152) (h9 : st.length ≤ 2097152) (h10 : wa.length ≤ 2097152) (h : patM ps b st wa = true) : (ps.length ≤ 7) ∧ (∀ x ∈ ps, PileIs x) ∧ b.length = 4 ∧ ∀ x ∈ b, I64 x := by
  rw [patM, Bool.and_eq_true, Bool.and_eq_true, Bool.and_eq_true] at h
  obtain ⟨h1, h2, h3, _⟩ := h
  have h1 : 1 ≤ (ps.length : Int) ∧ (ps.length : Int) ≤ 7 := by simpa [inR] using h1
  refine ⟨by omega, fun x hx => ?_, baseM_len h2, fun x hx => ?_⟩
  · have := List.all_eq_true.1 h3 x hx
    rw [okP, Bool.and_eq_true, pileM, Bool.and_eq_true, Bool.and_eq_true] at this
    have hr : 0 ≤ x.2 ∧ x.2 ≤ (x.1.length : Int) := by simpa [inR] using this.1.2.1
    exact ⟨Nat.le_trans (hh.row x hx) (by omega), hr.1, hr.2⟩
  · rw [baseM, Bool.and_eq_true, List.all_eq_true] at h2
    have : 0 ≤ x ∧ x ≤ 13 := by simpa [inR] using h2.1 x hx
    exact ⟨by omega, by omega⟩
theorem impl_PatienceText_ok (ps : List (List Int × Int)) (b st wa : List Int) (hh : G3 ps) (hb : b.length ≤ 2097152) (h9 : st.length ≤ 2097152) (h10 : wa.length ≤ 2097152) : impl_PatienceText ps b st wa = some (patienceB ps b st wa) := by
  rw [impl_PatienceText_eq, impl_IsPatience_ok ps b st wa hh hb h9 h10, Option.bind_some, patienceB]
  cases h : patM ps b st wa with
  | false => rw [if_pos (by decide), if_neg (by decide)]
  | true =>
    obtain ⟨f1, f2, f3, f4⟩ := pat_facts ps b st wa hh hb h9 h10 h
    have hst : I64 (st.length : Int) := ⟨by omega, by omega⟩
    have hwa : I64 (wa.length : Int) := ⟨by omega, by omega⟩
    have s1 := itoaB_size hst
    have s2 := itoaB_size hwa
    have hn := pilesB_length ps
    have hb2 := numsM_length b
    have hsm : ∀ x ∈ pilesB ps, x.size ≤ 8388608 := fun x hx => by
      obtain ⟨y, hy, rfl⟩ := List.mem_map.1 hx
      exact pileB_size (f2 y hy)
    have z0 : (ByteArray.mk #[32]).size = 1 := rfl
    have z1 : (ByteArray.mk #[32, 91]).size = 2 := rfl
    have z2 : (ByteArray.mk #[93, 32]).size = 2 := rfl
    have z3 : (ByteArray.mk #[43]).size = 1 := rfl
    have z4 : (ByteArray.mk #[44]).size = 1 := rfl
    have z5 : (ByteArray.mk #[35]).size = 1 := rfl
    have j1 := joinB_size 8388608 (ByteArray.mk #[32]) (pilesB ps) hsm
    have j2 := joinB_size 20 (ByteArray.mk #[44]) (numsM b) (numsM_small f4)
    have j1' : (joinB (pilesB ps) (ByteArray.mk #[32])).size ≤ 7 * 8388609 := Nat.le_trans j1 (Nat.mul_le_mul (by omega) (by omega))
    have j2' : (joinB (numsM b) (ByteArray.mk #[44])).size ≤ 4 * 21 := Nat.le_trans j2 (Nat.mul_le_mul (by omega) (by omega))
    rw [if_neg (by decide), if_pos rfl]
    have key : ∀ i, i ≤ ps.length → impl_PatienceText_L5 ps (ps.length : Int) (i : Int) ps b st wa ((pilesB ps).take i) = some (joinB (pilesB ps) (ByteArray.mk #[32]) ++ ByteArray.mk #[32, 91] ++ joinB (numsM b) (ByteArray.mk #[44]) ++ ByteArray.mk #[93, 32] ++ itoaB (st.length : Int) ++ ByteArray.mk #[43] ++ itoaB (wa.length : Int)) := down (by
        rw [impl_PatienceText_L5_eq, if_dneg (by omega), List.take_of_length_le (by omega), strings_Join_ok hsm (Nat.le_trans (Nat.mul_le_mul (by omega : (pilesB ps).length ≤ 7) (by omega : 8388608 + (ByteArray.mk #[32]).size ≤ 8388609)) (by omega)) (by omega), Option.bind_some, if_pos (by omega), impl_numbersText_ok _ f4 (by omega) (by decide), Option.bind_some, if_pos (by rw [ByteArray.size_append]; omega), if_pos (by rw [ByteArray.size_append, ByteArray.size_append]; omega), impl_FormatInt_ok hst, Option.bind_some, if_pos (by rw [ByteArray.size_append, ByteArray.size_append, ByteArray.size_append]; omega), if_pos (by rw [ByteArray.size_append, ByteArray.size_append, ByteArray.size_append, ByteArray.size_append]; omega), impl_FormatInt_ok hwa, Option.bind_some, if_pos (by rw [ByteArray.size_append, ByteArray.size_append, ByteArray.size_append, ByteArray.size_append, ByteArray.size_append]; omega)]) fun i hi ih => by
      obtain ⟨g1, g2, g3⟩ := f2 _ (getD_mem (d := ([], 0)) hi)
      have hsz := pileB_size ⟨g1, g2, g3⟩
      rw [take_snoc (d := default) (by omega), pilesB_get hi, pileB] at ih
      rw [pileB, ByteArray.size_append] at hsz
      rw [impl_PatienceText_L5_eq, if_dpos (by omega), if_pos (by omega), if_pos (by omega), Int.toNat_natCast, strings_Repeat_eq, repC, if_pos g2, if_pos (by omega), if_pos (by rw [z5]; omega), Option.bind_some, if_pos g2, if_pos (by omega), List.take_length, impl_HandText_ok _ (by rw [List.length_drop]; omega), Option.bind_some, if_pos (by omega), if_pos (by rw [List.length_take, List.length_singleton]; omega), wrap_succ hi (by omega)]
      exact ih
    exact key 0 (Nat.zero_le _)
theorem spec_PatienceText_ok (ps : List (List Int × Int)) (b st wa : List Int) (hh : G3 ps) (hb : b.length ≤ 2097152) (h9 : st.length ≤ 2097152) (h10 : wa.length ≤ 2097152) : spec_PatienceText ps b st wa = some (patienceB ps b st wa) := by
  rw [spec_PatienceText_eq, spec_IsPatience_ok ps b st wa hh hb h9 h10, Option.bind_some, patienceB]
  cases h : patM ps b st wa with
  | false => rw [if_pos (by decide), if_neg (by decide)]
  | true =>
    obtain ⟨f1, f2, f3, f4⟩ := pat_facts ps b st wa hh hb h9 h10 h
    have hst : I64 (st.length : Int) := ⟨by omega, by omega⟩
    have hwa : I64 (wa.length : Int) := ⟨by omega, by omega⟩
    have s1 := itoaB_size hst
    have s2 := itoaB_size hwa
    have hn := pilesB_length ps
    have hb2 := numsM_length b
    have hsm : ∀ x ∈ pilesB ps, x.size ≤ 8388608 := fun x hx => by
      obtain ⟨y, hy, rfl⟩ := List.mem_map.1 hx
      exact pileB_size (f2 y hy)
    have z0 : (ByteArray.mk #[32]).size = 1 := rfl
    have z1 : (ByteArray.mk #[32, 91]).size = 2 := rfl
    have z2 : (ByteArray.mk #[93, 32]).size = 2 := rfl
    have z3 : (ByteArray.mk #[43]).size = 1 := rfl
    have z4 : (ByteArray.mk #[44]).size = 1 := rfl
    have z5 : (ByteArray.mk #[35]).size = 1 := rfl
    rw [if_neg (by decide), if_pos rfl]
    generalize hJ : joinB (pilesB ps) (ByteArray.mk #[32]) ++ ByteArray.mk #[32, 91] = J
    have j1 := joinB_size 8388608 (ByteArray.mk #[32]) (pilesB ps) hsm
    have j1' : (joinB (pilesB ps) (ByteArray.mk #[32])).size ≤ 7 * 8388609 := Nat.le_trans j1 (Nat.mul_le_mul (by omega) (by omega))
    have hJs : J.size ≤ 7 * 8388609 + 2 := by rw [← hJ, ByteArray.size_append]; omega
    -- the base
    have tail : ∀ i, i ≤ b.length → spec_PatienceText_L17 (J ++ joinB ((numsM b).take i) (ByteArray.mk #[44])) (i : Int) ps b st wa = some (J ++ joinB (numsM b) (ByteArray.mk #[44]) ++ ByteArray.mk #[93, 32] ++ itoaB (st.length : Int) ++ ByteArray.mk #[43] ++ itoaB (wa.length : Int)) := down (by
        have j2 := joinB_size 20 (ByteArray.mk #[44]) (numsM b) (numsM_small f4)
        have j2' : (joinB (numsM b) (ByteArray.mk #[44])).size ≤ 4 * 21 := Nat.le_trans j2 (Nat.mul_le_mul (by omega) (by omega))
        rw [spec_PatienceText_L17_eq, if_dneg (by omega), List.take_of_length_le (by omega), if_pos (by rw [ByteArray.size_append]; omega), spec_FormatInt_ok hst, Option.bind_some, if_pos (by rw [ByteArray.size_append, ByteArray.size_append]; omega), if_pos (by rw [ByteArray.size_append, ByteArray.size_append, ByteArray.size_append]; omega), spec_FormatInt_ok hwa, Option.bind_some, if_pos (by rw [ByteArray.size_append, ByteArray.size_append, ByteArray.size_append, ByteArray.size_append]; omega)]) fun i hi ih => by
      have hsz := joinB_size 20 (ByteArray.mk #[44]) ((numsM b).take i) fun x hx => numsM_small f4 x (List.mem_of_mem_take hx)
      rw [List.length_take, z4] at hsz
      have hi64 := f4 _ (getD_mem (d := 0) hi)
      have hit := itoaB_size hi64
      rw [joinB_take (by omega), numsM_get hi] at ih
      rw [spec_PatienceText_L17_eq, if_dpos (by omega), Int.toNat_natCast, wrap_succ hi (by omega)]
      by_cases ci : i = 0
      · rw [if_pos ci] at ih
        have hnil : J ++ joinB ((numsM b).take i) (ByteArray.mk #[44]) = J := by
          rw [ci, mk_list J, show joinB ((numsM b).take 0) (ByteArray.mk #[44]) = mkB [] from rfl, mkB_app, List.append_nil]
        rw [hnil, if_dneg (by omega), if_pos (by omega), if_pos (by omega), spec_FormatInt_ok hi64, Option.bind_some, if_pos (by omega)]
        exact ih
      · rw [if_neg ci] at ih
        rw [if_dpos (by omega), if_pos (by rw [ByteArray.size_append]; omega), if_pos (by omega), if_pos (by omega), spec_FormatInt_ok hi64, Option.bind_some, if_pos (by rw [ByteArray.size_append, ByteArray.size_append]; omega), app_assoc, app_assoc, ← app_assoc (joinB _ _)]
        exact ih
    have tail0 := tail 0 (Nat.zero_le _)
    have hJ0 : J ++ joinB ((numsM b).take 0) (ByteArray.mk #[44]) = J := by
      rw [mk_list J, show joinB ((numsM b).take 0) (ByteArray.mk #[44]) = mkB [] from rfl, mkB_app, List.append_nil]
    rw [hJ0] at tail0
    -- the piles
    have key : ∀ i, i ≤ ps.length → spec_PatienceText_L5 (joinB ((pilesB ps).take i) (ByteArray.mk #[32])) (i : Int) ps b st wa = some (J ++ joinB (numsM b) (ByteArray.mk #[44]) ++ ByteArray.mk #[93, 32] ++ itoaB (st.length : Int) ++ ByteArray.mk #[43] ++ itoaB (wa.length : Int)) := down (by
        rw [spec_PatienceText_L5_eq, if_dneg (by omega), List.take_of_length_le (by omega), if_pos (by omega), hJ]
        exact tail0) fun i hi ih => by
      have hsz := joinB_size 8388608 (ByteArray.mk #[32]) ((pilesB ps).take i) fun x hx => hsm x (List.mem_of_mem_take hx)
      rw [List.length_take, z0] at hsz
      have hsz : (joinB ((pilesB ps).take i) (ByteArray.mk #[32])).size ≤ 7 * 8388609 := Nat.le_trans hsz (Nat.mul_le_mul (by omega) (by omega))
      obtain ⟨g1, g2, g3⟩ := f2 _ (getD_mem (d := ([], 0)) hi)
      have hps := pileB_size ⟨g1, g2, g3⟩
      rw [pileB, ByteArray.size_append, repB_size, z5] at hps
      rw [joinB_take (by omega), pilesB_get hi, pileB] at ih
      rw [spec_PatienceText_L5_eq, if_dpos (by omega), if_pos (by omega), if_pos (by omega), Int.toNat_natCast]
      generalize ps.getD i ([], 0) = x at g1 g2 g3 hps ih ⊢
      have inner : ∀ s0 : ByteArray, s0.size ≤ 7 * 8388609 + 1 → spec_PatienceText_L5 (s0 ++ (repB (ByteArray.mk #[35]) x.2.toNat ++ handB (x.1.drop x.2.toNat))) ((i + 1 : Nat) : Int) ps b st wa = some (J ++ joinB (numsM b) (ByteArray.mk #[44]) ++ ByteArray.mk #[93, 32] ++ itoaB (st.length : Int) ++ ByteArray.mk #[43] ++ itoaB (wa.length : Int)) → spec_PatienceText_L11 s0 (i : Int) 0 ps b st wa x.1 x.2 = some (J ++ joinB (numsM b) (ByteArray.mk #[44]) ++ ByteArray.mk #[93, 32] ++ itoaB (st.length : Int) ++ ByteArray.mk #[43] ++ itoaB (wa.length : Int)) := fun s0 hs0 hfin => by
        obtain ⟨m, hm⟩ : ∃ m : Nat, x.2 = (m : Int) := ⟨x.2.toNat, by omega⟩
        rw [hm, Int.toNat_natCast] at hfin hps
        rw [hm] at g3 ⊢
        have lp : ∀ k, k ≤ m → spec_PatienceText_L11 (s0 ++ repB (ByteArray.mk #[35]) k) (i : Int) (k : Int) ps b st wa x.1 (m : Int) = some (J ++ joinB (numsM b) (ByteArray.mk #[44]) ++ ByteArray.mk #[93, 32] ++ itoaB (st.length : Int) ++ ByteArray.mk #[43] ++ itoaB (wa.length : Int)) := down (by
            rw [spec_PatienceText_L11_eq, if_dneg (by omega), if_pos (by omega), if_pos (by omega), List.take_length, Int.toNat_natCast, spec_HandText_ok _ (by rw [List.length_drop]; omega), Option.bind_some, if_pos (by rw [ByteArray.size_append, repB_size, z5]; omega), wrap_succ hi (by omega), app_assoc]
            exact hfin) fun k hk ih2 => by
          rw [spec_PatienceText_L11_eq, if_dpos (by omega), if_pos (by rw [ByteArray.size_append, repB_size, z5]; omega), wrap_succ hk (by omega), app_assoc, ← repB_succ]
          exact ih2
        have h0 := lp 0 (Nat.zero_le _)
        have e0 : s0 ++ repB (ByteArray.mk #[35]) 0 = s0 := by rw [repB_zero, mk_list s0, show ByteArray.mk #[] = mkB [] from rfl, mkB_app, List.append_nil]
        rw [e0] at h0
        exact h0
      by_cases ci : i = 0
      · rw [if_pos ci] at ih
        have hnil : joinB ((pilesB ps).take i) (ByteArray.mk #[32]) = ByteArray.mk #[] := by rw [ci]; rfl
        rw [hnil, if_dneg (by omega)]
        exact inner (ByteArray.mk #[]) (by decide) (by rw [nil_app]; exact ih)
      · rw [if_neg ci] at ih
        rw [if_dpos (by omega), if_pos (by omega)]
        exact inner _ (by rw [ByteArray.size_append]; omega) ih
    exact key 0 (Nat.zero_le _)
end Go.Proofs.YthppocflbgnjlaaDoor.V
