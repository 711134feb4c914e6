/- Plain laws over the shapes. -/
import Derived.Test.YtoioaijpdiglfaaGreatDoorPTab
import Derived.Test.YtoioaijpdiglfaaGreatDoorLFnSayings
import Derived.Test.YtoioaijpdiglfaaGreatDoorS7
import Derived.Test.YtoioaijpdiglfaaGreatDoorS3
set_option linter.unusedVariables false
set_option linter.unusedSimpArgs false
set_option maxRecDepth 10000
namespace Go.Proofs.YtoioaijpdiglfaaGreatDoor.V
open Go
/-! peeks -/
theorem peek_i64 (a0 a1 : Int) (a2 a3 : Bool) (a4 a5 : List Int) (a6 a7 : Int) (hs : List (List Int)) (st hp : List Int) (tu mo pa : Int) (sm : Sm 60 a4 a5 hs st hp) (me : Int) (hm : I64 me) : I64 (peekM a0 a1 a2 a3 a4 a5 a6 a7 hs st hp tu mo pa me).1 ∧ ∀ x ∈ (peekM a0 a1 a2 a3 a4 a5 a6 a7 hs st hp tu mo pa me).2.2.2.2.2.1, I64 x := by
  unfold peekM
  split
  · exact ⟨hm, lens_i64 (sm.g2 (by omega))⟩
  · exact ⟨⟨by decide, by decide⟩, fun x h => by cases h⟩
theorem peek_smallS (a0 a1 : Int) (a2 a3 : Bool) (a4 a5 : List Int) (a6 a7 : Int) (hs : List (List Int)) (st hp : List Int) (tu mo pa : Int) (sm : Sm 60 a4 a5 hs st hp) (me : Int) : (peekM a0 a1 a2 a3 a4 a5 a6 a7 hs st hp tu mo pa me).2.1.length ≤ 60 ∧ (peekM a0 a1 a2 a3 a4 a5 a6 a7 hs st hp tu mo pa me).2.2.2.2.2.1.length ≤ 60 := by
  unfold peekM
  split
  · rename_i h
    rw [Bool.and_eq_true] at h
    have hi := inR_iff.1 h.2
    refine ⟨?_, ?_⟩
    · show (sortM (hs.getD me.toNat [])).length ≤ 60
      have := row_le_flat (getD_mem (d := []) (by omega : me.toNat < hs.length))
      have := sm.2.2.2
      rw [sortM_length]; omega
    · show (lensM hs).length ≤ 60
      have := sm.2.2.1
      rw [lensM_length]; omega
  · exact ⟨Nat.zero_le _, Nat.zero_le _⟩
theorem DrawPeekOf_tot {a : List Int} (ha : a.length ≤ 1048576) : Tot (spec_DrawPeekOf a) (fun r => Sm 60 r.2.2.2.2.1 r.2.2.2.2.2.1 r.2.2.2.2.2.2.2.2.1 r.2.2.2.2.2.2.2.2.2.1 r.2.2.2.2.2.2.2.2.2.2.1 ∧ I64 r.2.2.2.2.2.2.2.2.2.2.2.2.2.2) := by
  rw [spec_DrawPeekOf_eq]
  refine Tot.bind (l1New_tot ha) fun c hc => Tot.bind (l24Draw_tot hc) fun p hp => Tot.bind (l1Below_tot hp.1 _) fun s ⟨hs, s1, s2, _⟩ => Tot.ret ⟨hp.2, ?_⟩
  have s2 := s2 (by decide)
  show I64 (IntKind.i64.wrap (s.1 - 1))
  rw [wrap_id (by omega) (by omega)]
  exact ⟨by omega, by omega⟩
theorem DrawPeekText_tot {a : List Int} (ha : a.length ≤ 1048576) : Tot (spec_DrawPeekText a) (fun r => I64 r.1 ∧ r.2.1.length ≤ 1000 ∧ r.2.2.2.2.2.1.length ≤ 1000 ∧ ∀ x ∈ r.2.2.2.2.2.1, I64 x) := by
  rw [spec_DrawPeekText_eq, spec_DrawHiddenCount_eq, spec_DrawMayHold_eq]
  refine Tot.bind (Q := fun r => I64 r.1 ∧ r.2.1.length ≤ 1000 ∧ r.2.2.2.2.2.1.length ≤ 1000 ∧ ∀ x ∈ r.2.2.2.2.2.1, I64 x) (Tot.bind (Q := fun r => I64 r.1 ∧ r.2.1.length ≤ 1000 ∧ r.2.2.2.2.2.1.length ≤ 1000 ∧ ∀ x ∈ r.2.2.2.2.2.1, I64 x) (Tot.bind (DrawPeekOf_tot ha) fun q ⟨hq, hm⟩ => ?_) fun r hr => Tot.ret hr) fun r hr => Tot.ret hr
  have h1 := peek_smallS q.1 q.2.1 q.2.2.1 q.2.2.2.1 q.2.2.2.2.1 q.2.2.2.2.2.1 q.2.2.2.2.2.2.1 q.2.2.2.2.2.2.2.1 q.2.2.2.2.2.2.2.2.1 q.2.2.2.2.2.2.2.2.2.1 q.2.2.2.2.2.2.2.2.2.2.1 q.2.2.2.2.2.2.2.2.2.2.2.1 q.2.2.2.2.2.2.2.2.2.2.2.2.1 q.2.2.2.2.2.2.2.2.2.2.2.2.2.1 hq q.2.2.2.2.2.2.2.2.2.2.2.2.2.2
  have h2 := peek_i64 q.1 q.2.1 q.2.2.1 q.2.2.2.1 q.2.2.2.2.1 q.2.2.2.2.2.1 q.2.2.2.2.2.2.1 q.2.2.2.2.2.2.2.1 q.2.2.2.2.2.2.2.2.1 q.2.2.2.2.2.2.2.2.2.1 q.2.2.2.2.2.2.2.2.2.2.1 q.2.2.2.2.2.2.2.2.2.2.2.1 q.2.2.2.2.2.2.2.2.2.2.2.2.1 q.2.2.2.2.2.2.2.2.2.2.2.2.2.1 hq q.2.2.2.2.2.2.2.2.2.2.2.2.2.2 hm
  rw [spec_PeekOf_ok q.1 q.2.1 q.2.2.1 q.2.2.2.1 q.2.2.2.2.1 q.2.2.2.2.2.1 q.2.2.2.2.2.2.1 q.2.2.2.2.2.2.2.1 q.2.2.2.2.2.2.2.2.1 q.2.2.2.2.2.2.2.2.2.1 q.2.2.2.2.2.2.2.2.2.2.1 q.2.2.2.2.2.2.2.2.2.2.2.1 q.2.2.2.2.2.2.2.2.2.2.2.2.1 q.2.2.2.2.2.2.2.2.2.2.2.2.2.1 q.2.2.2.2.2.2.2.2.2.2.2.2.2.2 (by have := hq.1; omega) (by have := hq.2.1; omega) (Sm.g2 hq (by omega)) (by have := hq.2.2.2; omega) (by have := hq.2.2.2; omega), Option.bind_some]
  generalize peekM q.1 q.2.1 q.2.2.1 q.2.2.2.1 q.2.2.2.2.1 q.2.2.2.2.2.1 q.2.2.2.2.2.2.1 q.2.2.2.2.2.2.2.1 q.2.2.2.2.2.2.2.2.1 q.2.2.2.2.2.2.2.2.2.1 q.2.2.2.2.2.2.2.2.2.2.1 q.2.2.2.2.2.2.2.2.2.2.2.1 q.2.2.2.2.2.2.2.2.2.2.2.2.1 q.2.2.2.2.2.2.2.2.2.2.2.2.2.1 q.2.2.2.2.2.2.2.2.2.2.2.2.2.2 = p at h1 h2 ⊢
  exact Tot.bind (l1New_tot ha) fun c hc => Tot.bind (l4Card_tot hc) fun s hs => Tot.ret ⟨h2.1, by show p.2.1.length ≤ 1000; omega, by show p.2.2.2.2.2.1.length ≤ 1000; omega, h2.2⟩
/-! what is said is no empty text -/
theorem itoaB_pos (n : Int) : 1 ≤ (itoaB n).size := by
  rw [itoaB_mk, mkB_size]
  unfold Lib.itoa
  split
  · rw [List.length_cons]; omega
  · exact dec_pos _
theorem blanksB_ge : ∀ (l : List Int) (s : ByteArray), s.size ≤ (blanksB s l).size := by
  intro l
  induction l with
  | nil => intro s; exact Nat.le_refl _
  | cons n l ih =>
    intro s
    have := ih (s ++ (ByteArray.mk #[32] ++ itoaB n))
    rw [ByteArray.size_append] at this
    show s.size ≤ (blanksB (s ++ (ByteArray.mk #[32] ++ itoaB n)) l).size
    omega
theorem said_is (b : Bool) (s : ByteArray) (h1 : b = true → s.size ≠ 0) (h0 : b = false → s = ByteArray.mk #[]) : (b == (!(s.toList == (ByteArray.mk #[]).toList))) = true := by
  cases b with
  | true => rw [toList_nil s (h1 rfl)]; rfl
  | false => rw [h0 rfl, beq_self_eq_true]; rfl
theorem game_said (a0 a1 : Int) (a2 a3 : Bool) (a4 a5 : List Int) (a6 a7 : Int) (hs : List (List Int)) (st hp : List Int) (tu mo pa : Int) : (gameM a0 a1 a2 a3 a4 a5 a6 a7 hs st hp tu mo pa == (!((gameB a0 a1 a2 a3 a4 a5 a6 a7 hs st hp tu mo pa).toList == (ByteArray.mk #[]).toList))) = true := by
  refine said_is _ _ (fun h => ?_) fun h => ?_
  · unfold gameB
    rw [if_pos h, ByteArray.size_append, ByteArray.size_append]
    have := itoaB_pos (st.length : Int)
    omega
  · unfold gameB; rw [if_neg (by rw [h]; decide)]
theorem pat_said (ps : List (List Int × Int)) (b st wa : List Int) : (patM ps b st wa == (!((patienceB ps b st wa).toList == (ByteArray.mk #[]).toList))) = true := by
  refine said_is _ _ (fun h => ?_) fun h => ?_
  · unfold patienceB
    rw [if_pos h, ByteArray.size_append]
    have := itoaB_pos (wa.length : Int)
    omega
  · unfold patienceB; rw [if_neg (by rw [h]; decide)]
theorem joinB_ge (sep : ByteArray) (l : List ByteArray) (h0 : l ≠ []) (h : ∀ x ∈ l, x.size ≠ 0) : (joinB l sep).size ≠ 0 := by
  have hl : 0 < l.length := by cases l with
    | nil => exact absurd rfl h0
    | cons a b => exact Nat.succ_pos _
  have e := joinB_take (l := l) (i := l.length - 1) (by omega) sep
  rw [show l.length - 1 + 1 = l.length by omega, List.take_length] at e
  have hx := h _ (getD_mem (d := default) (by omega : l.length - 1 < l.length))
  rw [e]
  split
  · exact hx
  · rw [ByteArray.size_append]; omega
theorem sheet_said (p : Int) (rs : List (List Int)) : (sheetM p rs == (!((sheetB p rs).toList == (ByteArray.mk #[]).toList))) = true := by
  refine said_is _ _ (fun h => ?_) fun h => ?_
  · unfold sheetB
    rw [if_pos h]
    have hp := sheet_p h
    refine joinB_ge _ _ (fun e => ?_) fun x hx => ?_
    · have e := congrArg List.length e
      rw [numsM_length, totalsM_length, List.length_nil] at e
      omega
    · obtain ⟨n, _, rfl⟩ := List.mem_map.1 hx
      have := itoaB_pos n; omega
  · unfold sheetB; rw [if_neg (by rw [h]; decide)]
theorem peek_said (me : Int) (hand : List Int) (top : Int) (sz : List Int) : ((peekB me hand top sz).toList == (ByteArray.mk #[]).toList) = false := by
  refine toList_nil _ ?_
  unfold peekB
  have h := blanksB_ge sz (itoaB me ++ ByteArray.mk #[58] ++ handB hand ++ ByteArray.mk #[32] ++ cardQ top)
  rw [ByteArray.size_append, ByteArray.size_append, ByteArray.size_append, ByteArray.size_append] at h
  have := itoaB_pos me
  omega
/-! the blanks of a text of calls -/
def blk (s : ByteArray) : Nat := s.data.toList.count 32
theorem blk_app (a b : ByteArray) : blk (a ++ b) = blk a + blk b := by
  unfold blk
  rw [ByteArray.data_append, Array.toList_append, List.count_append]
theorem dec_dig : ∀ m : Nat, ∀ b ∈ Lib.decDigits m, 48 ≤ b.toNat := by
  intro m
  induction m using Nat.strongRecOn with
  | ind m ih =>
    have one : ∀ d : Nat, d < 10 → 48 ≤ (UInt8.ofNat (48 + d)).toNat := fun d hd => by
      rw [UInt8.toNat_ofNat']; omega
    intro b hb
    rw [Lib.decDigits] at hb
    by_cases c : m < 10
    · rw [dif_pos c, List.mem_singleton] at hb
      rw [hb]; exact one m c
    · rw [dif_neg c] at hb
      rcases List.mem_append.1 hb with h | h
      · exact ih (m / 10) (by omega) b h
      · rw [List.mem_singleton.1 h]; exact one _ (by omega)
theorem itoa_blk (n : Int) : blk (itoaB n) = 0 := by
  unfold blk
  rw [itoaB_mk, mkB_list, List.count_eq_zero]
  intro h
  unfold Lib.itoa at h
  have no : ∀ m, (32 : UInt8) ∉ Lib.decDigits m := fun m h => absurd (dec_dig m 32 h) (by decide)
  split at h
  · rcases List.mem_cons.1 h with e | e
    · exact absurd e (by decide)
    · exact no _ e
  · exact no _ h
theorem call_blk (c : Int) : blk (callB c) = 0 := by
  unfold callB
  split
  · rfl
  · exact itoa_blk c
theorem join_blk (l : List ByteArray) (h : ∀ x ∈ l, blk x = 0) : blk (joinB l (ByteArray.mk #[32])) = l.length - 1 := by
  have z : blk (ByteArray.mk #[32]) = 1 := rfl
  have key : ∀ i, i ≤ l.length → blk (joinB (l.take i) (ByteArray.mk #[32])) = i - 1 := by
    intro i
    induction i with
    | zero => intro _; rfl
    | succ i ih =>
      intro hi
      have hx := h _ (getD_mem (d := default) (by omega : i < l.length))
      rw [joinB_take (by omega)]
      split
      · rename_i e; subst e; rw [hx]
      · rw [blk_app, blk_app, hx, z, ih (by omega)]; omega
  have := key l.length (Nat.le_refl _)
  rwa [List.take_length] at this
theorem calls_blk {l : List Int} (h : l.length ≠ 0) : blk (callsM l) = l.length - 1 := by
  unfold callsM
  rw [if_neg h, join_blk _ fun x hx => by
    obtain ⟨c, _, rfl⟩ := List.mem_map.1 hx
    exact call_blk c, callsB_length]
theorem byteAt_is (s : ByteArray) {i : Nat} (h : i < s.size) : byteAt s i = ((s.data.toList.getD i 0).toNat : Int) := by
  have h2 : i < s.data.toList.length := h
  rw [byteAt, dif_pos h, List.getD_eq_getElem?_getD, List.getElem?_eq_getElem h2]
  rfl
theorem blk_step (s : ByteArray) {i : Nat} (h : i < s.size) : (s.data.toList.take (i + 1)).count 32 = (s.data.toList.take i).count 32 + (if (byteAt s i == 32) = true then 1 else 0) := by
  have h2 : i < s.data.toList.length := h
  rw [byteAt_is s h, take_succ_getD (d := (0 : UInt8)) h2, List.count_append]
  generalize s.data.toList.getD i 0 = b
  congr 1
  by_cases c : b = 32
  · subst c; rfl
  · have : ¬ (((b.toNat : Int) == 32) = true) := fun e => c (by
      rw [beq_iff_eq] at e
      exact UInt8.toNat_inj.1 (by show b.toNat = 32; omega))
    rw [if_neg this, List.count_eq_zero]
    simpa using fun e => c e.symm
/-! the law -/
theorem laws_FnSayings_ok (a0 : List Int) : laws_FnSayings a0 = some true := by
  rw [laws_FnSayings_eq, laws_big_eq, Option.bind_some]
  by_cases hb : (a0.length : Int) > 1048576
  · rw [if_dpos hb]
  rw [if_dneg hb]
  have ha : a0.length ≤ 1048576 := by omega
  obtain ⟨g, e1, sm⟩ := DrawGameText_tot ha
  obtain ⟨p, e2, ph⟩ := DrawPatienceText_tot ha
  obtain ⟨s, e3, ss⟩ := DrawSheetText_tot ha
  obtain ⟨c, e4, cl, cs⟩ := DrawCallsText_tot ha
  obtain ⟨k, e5, k1, k2, k3, k4⟩ := DrawPeekText_tot ha
  have ci : ∀ x ∈ c, I64 x := fun x hx => by have := cs x hx; exact ⟨by omega, by omega⟩
  have cz : (callsM c).size ≤ 21 * 1000 + 1 := by
    unfold callsM
    split
    · exact (by decide : (1 : Nat) ≤ 21001)
    · have := joinB_size 20 (ByteArray.mk #[32]) (callsB c) (callsB_small ci)
      rw [callsB_length, show (ByteArray.mk #[32]).size = 1 from rfl] at this
      omega
  rw [e1, Option.bind_some, e2, Option.bind_some, e3, Option.bind_some, e4, Option.bind_some, impl_CallsText_ok ci (by omega), Option.bind_some]
  have h1 := impl_IsGame_ok g.1 g.2.1 g.2.2.1 g.2.2.2.1 g.2.2.2.2.1 g.2.2.2.2.2.1 g.2.2.2.2.2.2.1 g.2.2.2.2.2.2.2.1 g.2.2.2.2.2.2.2.2.1 g.2.2.2.2.2.2.2.2.2.1 g.2.2.2.2.2.2.2.2.2.2.1 g.2.2.2.2.2.2.2.2.2.2.2.1 g.2.2.2.2.2.2.2.2.2.2.2.2.1 g.2.2.2.2.2.2.2.2.2.2.2.2.2 (by have := sm.1; omega) (by have := sm.2.1; omega) (sm.g2 (by omega)) (by have := sm.2.2.2; omega) (by have := sm.2.2.2; omega)
  have h2 := impl_GameText_ok g.1 g.2.1 g.2.2.1 g.2.2.2.1 g.2.2.2.2.1 g.2.2.2.2.2.1 g.2.2.2.2.2.2.1 g.2.2.2.2.2.2.2.1 g.2.2.2.2.2.2.2.2.1 g.2.2.2.2.2.2.2.2.2.1 g.2.2.2.2.2.2.2.2.2.2.1 g.2.2.2.2.2.2.2.2.2.2.2.1 g.2.2.2.2.2.2.2.2.2.2.2.2.1 g.2.2.2.2.2.2.2.2.2.2.2.2.2 (by have := sm.1; omega) (by have := sm.2.1; omega) (sm.g2 (by omega)) (by have := sm.2.2.2; omega) (by have := sm.2.2.2; omega)
  have h3 := impl_IsPatience_ok p.1 p.2.1 p.2.2.1 p.2.2.2 ph.p (by have := ph.b; omega) (by have := ph.s; omega) (by have := ph.w; omega)
  have h4 := impl_PatienceText_ok p.1 p.2.1 p.2.2.1 p.2.2.2 ph.p (by have := ph.b; omega) (by have := ph.s; omega) (by have := ph.w; omega)
  have h5 := impl_IsSheet_ok s.1 s.2 ss.g2
  have h6 := impl_SheetText_ok s.1 s.2 ss.g2
  have h7 := impl_PeekText_ok k.1 k.2.1 k.2.2.1 k.2.2.2.1 k.2.2.2.2.1 k.2.2.2.2.2.1 k.2.2.2.2.2.2.1 k.2.2.2.2.2.2.2 k1 (by omega) (by omega) k4
  have hend : ∀ x9 : Int, x9 = (blk (callsM c) : Int) → laws_FnSayings_L10 a0 s.1 (callsM c) x9 ((callsM c).size : Int) g.1 g.2.1 g.2.2.1 g.2.2.2.1 g.2.2.2.2.1 g.2.2.2.2.2.2.1 g.2.2.2.2.2.2.2.1 g.2.2.2.2.2.2.2.2.2.2.2.1 g.2.2.2.2.2.2.2.2.2.2.2.2.1 g.2.2.2.2.2.2.2.2.2.2.2.2.2 p.2.1 s.2 c g.2.2.2.2.2.1 g.2.2.2.2.2.2.2.2.1 g.2.2.2.2.2.2.2.2.2.1 g.2.2.2.2.2.2.2.2.2.2.1 p.1 p.2.2.1 p.2.2.2 = some true := fun x9 hx => by
    rw [laws_FnSayings_L10_eq, if_dneg (by omega), bindF h1, bindF h2, if_pos (game_said g.1 g.2.1 g.2.2.1 g.2.2.2.1 g.2.2.2.2.1 g.2.2.2.2.2.1 g.2.2.2.2.2.2.1 g.2.2.2.2.2.2.2.1 g.2.2.2.2.2.2.2.2.1 g.2.2.2.2.2.2.2.2.2.1 g.2.2.2.2.2.2.2.2.2.2.1 g.2.2.2.2.2.2.2.2.2.2.2.1 g.2.2.2.2.2.2.2.2.2.2.2.2.1 g.2.2.2.2.2.2.2.2.2.2.2.2.2), bindF h3, bindF h4, if_pos (pat_said p.1 p.2.1 p.2.2.1 p.2.2.2), bindF h5, bindF h6, if_pos (sheet_said s.1 s.2)]
    by_cases z : (c.length : Int) = 0
    · rw [if_epos z, e5, Option.bind_some, bindF h7, peek_said]; rfl
    · rw [if_eneg z, if_epos (by rw [hx, calls_blk (by omega), wrap_id (by omega) (by omega)]; omega), e5, Option.bind_some, bindF h7, peek_said]; rfl
  have key : ∀ i, i ≤ (callsM c).size → laws_FnSayings_L10 a0 s.1 (callsM c) (((callsM c).data.toList.take i).count 32 : Int) (i : Int) g.1 g.2.1 g.2.2.1 g.2.2.2.1 g.2.2.2.2.1 g.2.2.2.2.2.2.1 g.2.2.2.2.2.2.2.1 g.2.2.2.2.2.2.2.2.2.2.2.1 g.2.2.2.2.2.2.2.2.2.2.2.2.1 g.2.2.2.2.2.2.2.2.2.2.2.2.2 p.2.1 s.2 c g.2.2.2.2.2.1 g.2.2.2.2.2.2.2.2.1 g.2.2.2.2.2.2.2.2.2.1 g.2.2.2.2.2.2.2.2.2.2.1 p.1 p.2.2.1 p.2.2.2 = some true := down (by
      refine hend _ ?_
      rw [List.take_of_length_le (show (callsM c).data.toList.length ≤ (callsM c).size from Nat.le_refl _)]
      rfl) fun i hi ih => by
    have hs := blk_step (callsM c) hi
    have hc : ((callsM c).data.toList.take i).count 32 ≤ i := Nat.le_trans List.count_le_length (by rw [List.length_take]; omega)
    rw [laws_FnSayings_L10_eq, if_dpos (by omega), if_pos (by omega), if_pos (by omega), Int.toNat_natCast, wrap_id (x := (i : Int) + 1) (by omega) (by omega)]
    by_cases c32 : (byteAt (callsM c) i == 32) = true
    · rw [if_pos c32] at hs ⊢
      rw [wrap_id (x := (_ : Int) + 1) (by omega) (by omega)]
      rw [hs] at ih
      exact ih
    · rw [if_neg c32] at hs ⊢
      rw [hs] at ih
      exact ih
  exact key 0 (Nat.zero_le _)
theorem law_FnSayings (x : den (parTy HH 3)) (hx : Fit Tryz.prog (parTy HH 3) x) : ∃ n, frun Tryz.prog HH n 3 x = some true := run_some (laws_FnSayings_ok x)
end Go.Proofs.YtoioaijpdiglfaaGreatDoor.V
