/- Plain laws over the shapes. -/
import Derived.Test.YthppocflbgnjlaaDoorPHand
import Derived.Test.YthppocflbgnjlaaDoorP3
import Derived.Test.YthppocflbgnjlaaDoorFGameText
import Derived.Test.YthppocflbgnjlaaDoorFIsGame
import Derived.Test.YthppocflbgnjlaaDoorS1
set_option linter.unusedVariables false
set_option linter.unusedSimpArgs false
set_option maxRecDepth 10000
namespace Go.Proofs.YthppocflbgnjlaaDoor.V
open Go
def gameB (a0 a1 : Int) (a2 a3 : Bool) (a4 a5 : List Int) (a6 a7 : Int) (hs : List (List Int)) (st hp : List Int) (tu mo pa : Int) : ByteArray := if gameM a0 a1 a2 a3 a4 a5 a6 a7 hs st hp tu mo pa = true then blanksB (itoaB tu ++ ByteArray.mk #[58] ++ cardE (hp.getD (hp.length - 1) 0)) (lensM hs) ++ ByteArray.mk #[47] ++ itoaB (st.length : Int) else ByteArray.mk #[]
theorem lens_i64 {hs : List (List Int)} (h : G2 hs) : ∀ x ∈ lensM hs, I64 x := fun x hx => by
  obtain ⟨r, hr, rfl⟩ := List.mem_map.1 hx
  have := h.2 r hr
  exact ⟨by omega, by omega⟩
theorem lensM_get {hs : List (List Int)} {i : Nat} (h : i < hs.length) : (lensM hs).getD i 0 = ((hs.getD i []).length : Int) := by
  rw [lensM, List.getD_eq_getElem?_getD, List.getD_eq_getElem?_getD, List.getElem?_map, List.getElem?_eq_getElem h]; rfl
theorem spec_GameText_ok (a0 a1 : Int) (a2 a3 : Bool) (a4 a5 : List Int) (a6 a7 : Int) (hs : List (List Int)) (st hp : List Int) (tu mo pa : Int) (h4 : a4.length ≤ 1048576) (h5 : a5.length ≤ 1048576) (hh : G2 hs) (h9 : st.length ≤ 2097152) (h10 : hp.length ≤ 2097152) : spec_GameText a0 a1 a2 a3 a4 a5 a6 a7 hs st hp tu mo pa = some (gameB a0 a1 a2 a3 a4 a5 a6 a7 hs st hp tu mo pa) := by
  rw [spec_GameText_eq, spec_IsGame_ok a0 a1 a2 a3 a4 a5 a6 a7 hs st hp tu mo pa h4 h5 hh h9 h10, Option.bind_some, gameB]
  cases hg : gameM a0 a1 a2 a3 a4 a5 a6 a7 hs st hp tu mo pa with
  | false => rw [if_pos (by decide), if_neg (by decide)]
  | true =>
    have v := gameM_valid a0 a1 a2 a3 a4 a5 a6 a7 hs st hp tu mo pa hg
    have v1 := v.all; have v2 := v.players; have v3 := v.p2; have v4 := v.heap; have v5 := v.t1; have v6 := v.t2
    have z1 : (ByteArray.mk #[58]).size = 1 := rfl
    have z2 : (ByteArray.mk #[32]).size = 1 := rfl
    have z3 : (ByteArray.mk #[47]).size = 1 := rfl
    have ht : I64 tu := ⟨by omega, by omega⟩
    have hst : I64 (st.length : Int) := ⟨by omega, by omega⟩
    have s1 := itoaB_size ht
    have s2 := itoaB_size hst
    have s3 := cardE_size (hp.getD (hp.length - 1) 0)
    have w : IntKind.i64.wrap ((hp.length : Int) - 1) = ((hp.length - 1 : Nat) : Int) := by rw [wrap_id (by omega) (by omega)]; omega
    rw [if_neg (by decide), if_pos rfl, spec_FormatInt_ok ht, Option.bind_some, if_pos (by omega), w, if_pos (by omega), if_pos (by omega), Int.toNat_natCast, spec_CardText_any, Option.bind_some, if_pos (by rw [ByteArray.size_append]; omega)]
    generalize hs0 : itoaB tu ++ ByteArray.mk #[58] ++ cardE (hp.getD (hp.length - 1) 0) = s0
    have hz : s0.size ≤ 23 := by rw [← hs0, ByteArray.size_append, ByteArray.size_append]; omega
    have hl := lensM_length hs
    have key : ∀ i, i ≤ hs.length → spec_GameText_L5 (blanksB s0 ((lensM hs).take i)) (i : Int) a0 a1 a2 a3 a4 a5 a6 a7 hs st hp tu mo pa = some (blanksB s0 (lensM hs) ++ ByteArray.mk #[47] ++ itoaB (st.length : Int)) := down (by
        have hb := blanksB_size s0 (lens_i64 hh) hs.length (by omega)
        rw [spec_GameText_L5_eq, if_dneg (by omega), if_pos (by omega), spec_FormatInt_ok hst, Option.bind_some, if_pos (by rw [ByteArray.size_append]; omega), List.take_of_length_le (by omega)]) fun i hi ih => by
      have hb := blanksB_size s0 (lens_i64 hh) i (by omega)
      have hr : I64 ((hs.getD i []).length : Int) := by rw [← lensM_get hi]; exact lens_i64 hh _ (getD_mem (by omega))
      have s4 := itoaB_size hr
      rw [spec_GameText_L5_eq, if_dpos (by omega), if_pos (by omega), if_pos (by omega), if_pos (by omega), Int.toNat_natCast, spec_FormatInt_ok hr, Option.bind_some, if_pos (by rw [ByteArray.size_append]; omega), wrap_succ hi (by omega), app_assoc, ← lensM_get hi, ← blanksB_take s0 (by omega)]
      exact ih
    exact key 0 (Nat.zero_le _)
theorem impl_GameText_ok (a0 a1 : Int) (a2 a3 : Bool) (a4 a5 : List Int) (a6 a7 : Int) (hs : List (List Int)) (st hp : List Int) (tu mo pa : Int) (h4 : a4.length ≤ 1048576) (h5 : a5.length ≤ 1048576) (hh : G2 hs) (h9 : st.length ≤ 2097152) (h10 : hp.length ≤ 2097152) : impl_GameText a0 a1 a2 a3 a4 a5 a6 a7 hs st hp tu mo pa = some (gameB a0 a1 a2 a3 a4 a5 a6 a7 hs st hp tu mo pa) := by
  rw [impl_GameText_eq, impl_IsGame_ok a0 a1 a2 a3 a4 a5 a6 a7 hs st hp tu mo pa h4 h5 hh h9 h10, Option.bind_some, gameB]
  cases hg : gameM a0 a1 a2 a3 a4 a5 a6 a7 hs st hp tu mo pa with
  | false => rw [if_pos (by decide), if_neg (by decide)]
  | true =>
    have v := gameM_valid a0 a1 a2 a3 a4 a5 a6 a7 hs st hp tu mo pa hg
    have v1 := v.all; have v2 := v.players; have v3 := v.p2; have v4 := v.heap; have v5 := v.t1; have v6 := v.t2
    have z1 : (ByteArray.mk #[58]).size = 1 := rfl
    have z2 : (ByteArray.mk #[32]).size = 1 := rfl
    have z3 : (ByteArray.mk #[47]).size = 1 := rfl
    have ht : I64 tu := ⟨by omega, by omega⟩
    have hst : I64 (st.length : Int) := ⟨by omega, by omega⟩
    have s1 := itoaB_size ht
    have s2 := itoaB_size hst
    have s3 := cardE_size (hp.getD (hp.length - 1) 0)
    have w : IntKind.i64.wrap ((hp.length : Int) - 1) = ((hp.length - 1 : Nat) : Int) := by rw [wrap_id (by omega) (by omega)]; omega
    rw [if_neg (by decide), if_pos rfl, impl_FormatInt_ok ht, Option.bind_some, if_pos (by omega), w, if_pos (by omega), if_pos (by omega), Int.toNat_natCast, impl_CardText_any, Option.bind_some, if_pos (by rw [ByteArray.size_append]; omega)]
    generalize hs0 : itoaB tu ++ ByteArray.mk #[58] ++ cardE (hp.getD (hp.length - 1) 0) = s0
    have hz : s0.size ≤ 23 := by rw [← hs0, ByteArray.size_append, ByteArray.size_append]; omega
    have hl := lensM_length hs
    have key : ∀ i, i ≤ hs.length → impl_GameText_L5 (blanksB s0 ((lensM hs).take i)) hs (hs.length : Int) (i : Int) a0 a1 a2 a3 a4 a5 a6 a7 hs st hp tu mo pa = some (blanksB s0 (lensM hs) ++ ByteArray.mk #[47] ++ itoaB (st.length : Int)) := down (by
        have hb := blanksB_size s0 (lens_i64 hh) hs.length (by omega)
        rw [impl_GameText_L5_eq, if_dneg (by omega), if_pos (by omega), impl_FormatInt_ok hst, Option.bind_some, if_pos (by rw [ByteArray.size_append]; omega), List.take_of_length_le (by omega)]) fun i hi ih => by
      have hb := blanksB_size s0 (lens_i64 hh) i (by omega)
      have hr : I64 ((hs.getD i []).length : Int) := by rw [← lensM_get hi]; exact lens_i64 hh _ (getD_mem (by omega))
      have s4 := itoaB_size hr
      rw [impl_GameText_L5_eq, if_dpos (by omega), if_pos (by omega), if_pos (by omega), Int.toNat_natCast, impl_FormatInt_ok hr, Option.bind_some, if_pos (by omega), if_pos (by rw [ByteArray.size_append]; omega), wrap_succ hi (by omega), ← lensM_get hi, ← blanksB_take s0 (by omega)]
      exact ih
    exact key 0 (Nat.zero_le _)
end Go.Proofs.YthppocflbgnjlaaDoor.V
