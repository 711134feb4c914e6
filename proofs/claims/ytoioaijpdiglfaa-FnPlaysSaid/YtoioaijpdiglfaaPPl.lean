/- Plain laws over the shapes. -/
import Derived.Test.YtoioaijpdiglfaaPL12
import Derived.Test.YtoioaijpdiglfaaFDrawPlayAll
import Derived.Test.YtoioaijpdiglfaaFIsDeal
import Derived.Test.YtoioaijpdiglfaaFNewDeal
import Derived.Test.YtoioaijpdiglfaaFPlayCard
import Derived.Test.YtoioaijpdiglfaaFl11Case
import Derived.Test.YtoioaijpdiglfaaS1
import Derived.Test.YtoioaijpdiglfaaS3
import Derived.Test.YtoioaijpdiglfaaS4
import Derived.Test.YtoioaijpdiglfaaS5
import Derived.Test.YtoioaijpdiglfaaS6
import Derived.Test.YtoioaijpdiglfaaS7
set_option linter.unusedVariables false
set_option linter.unusedSimpArgs false
set_option maxRecDepth 10000
namespace Go.Proofs.Ytoioaijpdiglfaa.V
open Go
theorem who_any (hs : List (List Int)) (le tr : Int) (tk wo po : List Int) (lf : Int) (h : ¬ whoM hs le tr tk wo po lf < 0) : 0 ≤ whoM hs le tr tk wo po lf ∧ whoM hs le tr tk wo po lf < (hs.length : Int) := by
  unfold whoM at h ⊢
  by_cases c1 : hs.length = 0
  · rw [if_pos c1] at h; omega
  rw [if_neg c1] at h ⊢
  by_cases c2 : hs.flatten.length = 0
  · rw [if_pos c2] at h; omega
  rw [if_neg c2] at h ⊢
  by_cases c3 : inR le 0 ((hs.length : Int) - 1) = true
  · rw [if_pos c3]
    have := inR_iff.1 c3
    exact ⟨Int.tmod_nonneg _ (by omega), Int.tmod_lt_of_pos _ (by omega)⟩
  · rw [if_neg c3] at h; omega
theorem l12Move_any {c : List Int × Int × Int} (hc : Cur c) (hs : List (List Int)) (le tr : Int) (tk wo po : List Int) (lf : Int) (h : DrawnD hs tk wo po) : Tot (spec_l12Move c hs le tr tk wo po lf) (fun r => Cur r.2) := by
  obtain ⟨h1, h2, h3, h4, h5, _, h6⟩ := h
  rw [spec_l12Move_eq, spec_TurnOf_ok hs le tr tk wo po lf h6 (by omega) (by omega) (by omega), Option.bind_some]
  refine Tot.dite (fun _ => Tot.bind (l4Card_tot hc) fun r hr => Tot.ret hr) fun hw => ?_
  have hb := who_any hs le tr tk wo po lf hw
  have hrow := row_le_flat (getD_mem (d := []) (by omega : (whoM hs le tr tk wo po lf).toNat < hs.length))
  refine Tot.guard hb.1 (Tot.guard hb.2 ?_)
  rw [spec_Choices_ok _ _ (by omega) (by omega), Option.bind_some]
  refine Tot.bind (l1Once_tot hc 9) fun r hr => Tot.ite (fun _ => Tot.bind (l4Card_tot hr) fun s hs => Tot.ret hs) fun _ => ?_
  by_cases h0 : ((choicesM (hs.getD (whoM hs le tr tk wo po lf).toNat []) tk).length : Int) = 0
  · rw [if_epos h0]; exact Tot.bind (l4Card_tot hr) fun s hs => Tot.ret hs
  · rw [if_eneg h0]
    refine Tot.bind (l1Below_tot hr _) fun s ⟨hs, s1, s2, _⟩ => ?_
    have s2 := s2 (by omega)
    exact Tot.guard s1 (Tot.guard s2 (Tot.ret hs))
theorem DrawPlayCard_tot {a : List Int} (ha : a.length ≤ 1048576) : Tot (spec_DrawPlayCard a) (fun r => DrawnD r.1 r.2.2.2.1 r.2.2.2.2.1 r.2.2.2.2.2.1) := by
  rw [spec_DrawPlayCard_eq]
  exact Tot.bind (l1New_tot ha) fun c hc => Tot.bind (l12Draw_tot hc) fun d hd => Tot.bind (l12Move_any hd.2 _ _ _ _ _ _ _ hd.1) fun m hm => Tot.ret hd.1
theorem DrawPlayAll_tot {a : List Int} (ha : a.length ≤ 1048576) : Tot (spec_DrawPlayAll a) (fun r => dealM r.1 r.2.1 r.2.2.1 r.2.2.2.1 r.2.2.2.2.1 r.2.2.2.2.2.1 r.2.2.2.2.2.2.1 = true ∧ r.2.2.2.1 = [] ∧ r.2.2.2.2.2.1 = List.replicate r.1.length 0 ∧ r.2.2.2.2.2.2.2.length ≤ 1000) := by
  rw [spec_DrawPlayAll_eq]
  refine Tot.bind (l1New_tot ha) fun c hc => Tot.bind (l12Start_tot hc) fun s ⟨s1, s2, s3, s4⟩ => Tot.bind (l1Below_tot s2 22) fun n ⟨hn, n1, n2, _⟩ => ?_
  have n2 := n2 (by decide)
  have base : ∀ cards : List Int, cards.length ≤ 22 → Tot (some (s.1, s.2.1, s.2.2.1, s.2.2.2.1, s.2.2.2.2.1, s.2.2.2.2.2.1, s.2.2.2.2.2.2.1, cards)) (fun r => dealM r.1 r.2.1 r.2.2.1 r.2.2.2.1 r.2.2.2.2.1 r.2.2.2.2.2.1 r.2.2.2.2.2.2.1 = true ∧ r.2.2.2.1 = [] ∧ r.2.2.2.2.2.1 = List.replicate r.1.length 0 ∧ r.2.2.2.2.2.2.2.length ≤ 1000) := fun cards hcd => Tot.ret ⟨s1, s3, s4, by show cards.length ≤ 1000; omega⟩
  have key : ∀ i : Nat, i ≤ 22 → ∀ (b0 : List Int) (b1 b2 z1 z2 z3 : Int) (hs : List (List Int)) (le tr : Int) (tk wo po : List Int) (lf : Int) (cards : List Int), Cur (b0, b1, b2) → dealM hs le tr tk wo po lf = true → (∀ x ∈ po, x ≤ 44 * (22 - (i : Int))) → cards.length + i ≤ 22 →
      Tot (spec_DrawPlayAll_L6v1 (i : Int) z1 z2 z3 b0 b1 b2 s.1 s.2.1 s.2.2.1 s.2.2.2.1 s.2.2.2.2.1 s.2.2.2.2.2.1 s.2.2.2.2.2.2.1 le tr lf cards hs tk wo po) (fun r => dealM r.1 r.2.1 r.2.2.1 r.2.2.2.1 r.2.2.2.2.1 r.2.2.2.2.2.1 r.2.2.2.2.2.2.1 = true ∧ r.2.2.2.1 = [] ∧ r.2.2.2.2.2.1 = List.replicate r.1.length 0 ∧ r.2.2.2.2.2.2.2.length ≤ 1000) := by
    intro i
    induction i with
    | zero =>
      intro _ b0 b1 b2 z1 z2 z3 hs le tr tk wo po lf cards hb hd hp hcd
      rw [spec_DrawPlayAll_L6v1_eq, if_dneg (by omega)]
      exact base cards (by omega)
    | succ i ih =>
      intro hi b0 b1 b2 z1 z2 z3 hs le tr tk wo po lf cards hb hd hp hcd
      rw [spec_DrawPlayAll_L6v1_eq, if_dpos (by omega)]
      refine Tot.bind (l12Move_tot hb hs le tr tk wo po lf hd) fun m hm => Tot.guard (by rw [List.length_singleton]; omega) ?_
      obtain ⟨r0, r1, r2, r3, r4, r5, r6, r7, e1, e2, e3⟩ := spec_PlayCard_step hs le tr tk wo po lf m.1 (44 * (22 - ((i + 1 : Nat) : Int))) (by omega) (by omega) hp hd
      rw [e1, Option.bind_some, wrap_id (x := ((i + 1 : Nat) : Int) - 1) (by omega) (by omega), show ((i + 1 : Nat) : Int) - 1 = (i : Int) by omega]
      exact ih (by omega) _ _ _ _ _ _ _ _ _ _ _ _ _ _ hm e2 (fun x hx => by have := e3 x hx; omega) (by rw [List.length_append, List.length_singleton]; omega)
  have z : ∀ x ∈ s.2.2.2.2.2.1, x = 0 := fun x hx => by rw [s4] at hx; exact List.eq_of_mem_replicate hx
  rw [spec_DrawPlayAll_L6_eq]
  refine Tot.dite (fun h0 => ?_) fun _ => base [] (Nat.zero_le _)
  refine Tot.bind (l12Move_tot hn s.1 s.2.1 s.2.2.1 s.2.2.2.1 s.2.2.2.2.1 s.2.2.2.2.2.1 s.2.2.2.2.2.2.1 s1) fun m hm => Tot.guard (by show (0 + 1) * 8 ≤ _; omega) ?_
  obtain ⟨r0, r1, r2, r3, r4, r5, r6, r7, e1, e2, e3⟩ := spec_PlayCard_step s.1 s.2.1 s.2.2.1 s.2.2.2.1 s.2.2.2.2.1 s.2.2.2.2.2.1 s.2.2.2.2.2.2.1 m.1 0 (by omega) (by omega) (fun x hx => by rw [z x hx]; omega) s1
  rw [e1, Option.bind_some, wrap_id (x := n.1 - 1) (by omega) (by omega), show n.1 - 1 = ((n.1.toNat - 1 : Nat) : Int) by omega]
  exact key (n.1.toNat - 1) (by omega) _ _ _ _ _ _ _ _ _ _ _ _ _ _ hm e2 (fun x hx => by have := e3 x hx; omega) (by show 1 + _ ≤ 22; omega)
theorem row_hand {hs : List (List Int)} (h : handM hs.flatten = true) {i : Nat} (hi : i < hs.length) : handM (hs.getD i []) = true := by
  obtain ⟨h1, h2⟩ := handM_parts h
  exact handM_of (fun x hx => h1 x ((row_sub hi).subset hx)) (h2.sublist (row_sub hi))
theorem l11Case_tot {c : List Int × Int × Int} (hc : Cur c) : Tot (spec_l11Case c) (fun r => 2 ≤ r.1.length ∧ r.1.length ≤ 4 ∧ r.1.flatten.length ≤ 52 ∧ r.2.1.length = r.1.length) := by
  rw [spec_l11Case_eq]
  obtain ⟨D, d1, d2, d3⟩ := full_ex
  rw [d1, Option.bind_some]
  refine Tot.bind (l1Below_tot hc 999) fun s ⟨hs, _⟩ => ?_
  obtain ⟨E, e1, e2, e3⟩ := shuffled_ex d2 d3 s.1
  rw [e1, Option.bind_some]
  refine Tot.bind (l1Below_tot hs 3) fun p ⟨hp, p1, p2, _⟩ => Tot.bind (l1Below_tot hp 6) fun e ⟨he, q1, q2, _⟩ => ?_
  have p2 := p2 (by decide)
  have q2 := q2 (by decide)
  have w1 : IntKind.i64.wrap (2 + p.1) = ((2 + p.1.toNat : Nat) : Int) := by rw [wrap_id (by omega) (by omega)]; omega
  have w2 : IntKind.i64.wrap (1 + e.1) = ((1 + e.1.toNat : Nat) : Int) := by rw [wrap_id (by omega) (by omega)]; omega
  obtain ⟨f1, f2, f3, f4, f5, f6⟩ := hands_facts e2 e3 (p := 2 + p.1.toNat) (e := 1 + e.1.toNat) (by omega) (by omega)
  rw [w1, w2, f1, Option.bind_some, f2 (by omega)]
  generalize handsN E (2 + p.1.toNat) (1 + e.1.toNat) = hs at f3 f4 f5 f6
  refine Tot.bind (l1Below_tot he _) fun l ⟨hl, l1, l2, _⟩ => ?_
  have l2 : l.1 < (hs.length : Int) := l2 (by show (0 : Int) < (hs.length : Int); omega)
  have key : ∀ i, i ≤ hs.length → ∀ (b0 : List Int) (b1 b2 : Int) (tk : List Int), Cur (b0, b1, b2) → tk.length = i → Tot (spec_l11Case_L5 l.1 (i : Int) b0 b1 b2 hs tk) (fun r => 2 ≤ r.1.length ∧ r.1.length ≤ 4 ∧ r.1.flatten.length ≤ 52 ∧ r.2.1.length = r.1.length) := down (by
      intro b0 b1 b2 tk hb ht
      rw [spec_l11Case_L5_eq, if_dneg (by omega)]
      exact Tot.ret ⟨by show 2 ≤ hs.length; omega, by show hs.length ≤ 4; omega, f6, ht⟩) fun i hi ih b0 b1 b2 tk hb ht => by
    have w : IntKind.i64.wrap (l.1 + (i : Int)) = l.1 + (i : Int) := wrap_id (by omega) (by omega)
    have m1 := Int.tmod_nonneg (a := l.1 + (i : Int)) (hs.length : Int) (by omega)
    have m2 := Int.tmod_lt_of_pos (l.1 + (i : Int)) (by omega : (0 : Int) < (hs.length : Int))
    rw [spec_l11Case_L5_eq, if_dpos (by omega), w, wrap_succ hi (by omega)]
    generalize (l.1 + (i : Int)).tmod (hs.length : Int) = q at m1 m2
    have hq : q.toNat < hs.length := by omega
    have hh := row_hand f3 hq
    have hz := f5 q.toNat (by omega)
    refine Tot.nguard (by omega) (Tot.guard m1 (Tot.guard m2 ?_))
    generalize hs.getD q.toNat [] = hand at hh hz
    have hcp := choices_pos tk hh (by omega)
    rw [spec_Choices_ok _ _ (by omega) (by omega), Option.bind_some]
    generalize choicesM hand tk = ch at hcp
    refine Tot.bind (l1Once_tot hb 8) fun o ho => Tot.ite (fun _ => Tot.bind (l1Below_tot ho _) fun u ⟨hu, u1, u2, _⟩ => ?_) fun _ => Tot.bind (l1Below_tot ho _) fun u ⟨hu, u1, u2, _⟩ => ?_
    · have u2 := u2 (by omega)
      exact Tot.guard u1 (Tot.guard u2 (Tot.guard (by omega) (Tot.guard (by rw [List.length_singleton]; omega) (ih _ _ _ _ hu (by rw [List.length_append, List.length_singleton]; omega)))))
    · have u2 := u2 (by omega)
      exact Tot.guard u1 (Tot.guard u2 (Tot.guard (by rw [List.length_singleton]; omega) (ih _ _ _ _ hu (by rw [List.length_append, List.length_singleton]; omega))))
  exact key 0 (Nat.zero_le _) _ _ _ [] hl rfl
theorem DrawNewDeal_tot {a : List Int} (ha : a.length ≤ 1048576) : Tot (spec_DrawNewDeal a) (fun r => r.1.length ≤ 4 ∧ r.1.flatten.length ≤ 100) := by
  rw [spec_DrawNewDeal_eq, spec_DrawIsFollowed_eq]
  refine Tot.bind (Q := fun r => 2 ≤ r.1.length ∧ r.1.length ≤ 4 ∧ r.1.flatten.length ≤ 52 ∧ r.2.1.length = r.1.length) (Tot.bind (l1New_tot ha) fun c hc => Tot.bind (l11Case_tot hc) fun r hr => Tot.ret hr) fun d ⟨d1, d2, d3, d4⟩ => Tot.bind (l1New_tot ha) fun c hc => Tot.bind (l1Once_tot hc 4) fun o ho => Tot.ite (fun _ => ?_) fun _ => ?_
  · have hrow := getD_le_flat d.1 0
    refine Tot.guard (by omega) (Tot.guard (by omega) (Tot.guard (by rw [List.length_singleton]; omega) (Tot.guard (by rw [List.length_set]; omega) (Tot.bind (l1Int_tot ho (Nat.zero_lt_succ _)) fun p hp => Tot.bind (l1Int_tot hp.1 (Nat.zero_lt_succ _)) fun q hq => Tot.ret ⟨?_, ?_⟩))))
    · show ((d.1.set 0 []).set 0 _).length ≤ 4
      rw [List.length_set, List.length_set]; exact d2
    · show ((d.1.set 0 []).set 0 (d.1.getD 0 [] ++ [d.2.1.getD 0 0])).flatten.length ≤ 100
      rw [List.set_set]
      have hp : ((d.1.set 0 (d.1.getD 0 [] ++ [d.2.1.getD 0 0])).flatten).Perm (d.1.flatten ++ [d.2.1.getD 0 0]) := perm_of_count fun x => by
        have := flat_set x d.1 0 (d.1.getD 0 [] ++ [d.2.1.getD 0 0]) (by omega)
        rw [List.count_append] at this ⊢
        omega
      rw [hp.length_eq, List.length_append, List.length_singleton]; omega
  · exact Tot.bind (l1Int_tot ho (Nat.zero_lt_succ _)) fun p hp => Tot.bind (l1Int_tot hp.1 (Nat.zero_lt_succ _)) fun q hq => Tot.ret ⟨d2, by show d.1.flatten.length ≤ 100; omega⟩
theorem impl_NewDeal_tot (hs : List (List Int)) (le tr : Int) (hl : hs.length ≤ 4) (hf : hs.flatten.length ≤ 100) : ∃ r, impl_NewDeal hs le tr = some r ∧ (r.2.2.2.2.2.2.2 = false ∨ (r = (hs, le, tr, [], List.replicate hs.length 0, List.replicate hs.length 0, ((hs.getD 0 []).length : Int), true) ∧ dealM hs le tr [] (List.replicate hs.length 0) (List.replicate hs.length 0) ((hs.getD 0 []).length : Int) = true)) := by
  have hh := deal_g2 hl (by omega)
  have w : IntKind.i64.wrap ((hs.length : Int) - 1) = (hs.length : Int) - 1 := wrap_id (by omega) (by omega)
  rw [impl_NewDeal_eq, impl_InRange_ok, Option.bind_some]
  cases h1 : inR (hs.length : Int) 2 4 with
  | false => exact ⟨_, rfl, .inl rfl⟩
  | true =>
    have h1 := inR_iff.1 h1
    rw [if_neg (by decide), impl_AllApart_ok hs (by omega) (by omega), Option.bind_some]
    cases h2 : handM hs.flatten with
    | false => exact ⟨_, rfl, .inl rfl⟩
    | true =>
      rw [if_neg (by decide), w, impl_InRange_ok, Option.bind_some]
      cases h3 : inR le 0 ((hs.length : Int) - 1) with
      | false => exact ⟨_, rfl, .inl rfl⟩
      | true =>
        have h3 := inR_iff.1 h3
        rw [if_neg (by decide), impl_InRange_ok, Option.bind_some]
        cases h4 : inR tr (-1) 3 with
        | false => exact ⟨_, rfl, .inl rfl⟩
        | true =>
          rw [if_neg (by decide)]
          have key : ∀ i, i ≤ hs.length → ∃ r, impl_NewDeal_L5 hs le tr (hs.length : Int) hs (hs.length : Int) (i : Int) 0 0 0 = some r ∧ (r.2.2.2.2.2.2.2 = false ∨ (r = (hs, le, tr, [], List.replicate hs.length 0, List.replicate hs.length 0, ((hs.getD 0 []).length : Int), true) ∧ ∀ j, i ≤ j → j < hs.length → (hs.getD j []).length = (hs.getD 0 []).length)) := down (by
              rw [impl_NewDeal_L5_eq, if_dneg (by omega), impl_copyRows_ok _ (by omega) (fun r hr => by have := hh.row r hr; omega), Option.bind_some, if_pos rfl, if_pos (by omega), Int.toNat_natCast, if_pos (by omega), if_pos rfl, if_pos (by omega), if_pos (by omega), if_pos (by omega)]
              exact ⟨_, rfl, .inr ⟨rfl, fun j a b => absurd b (by omega)⟩⟩) fun i hi ih => by
            rw [impl_NewDeal_L5_eq, if_dpos (by omega), if_pos (by omega), if_pos (by omega), if_pos (by omega), Int.toNat_natCast, wrap_succ hi (by omega)]
            by_cases c : (hs.getD i []).length = (hs.getD 0 []).length
            · rw [if_nneg (by omega)]
              obtain ⟨r, e, h⟩ := ih
              refine ⟨r, e, ?_⟩
              rcases h with h | ⟨h, h'⟩
              · exact .inl h
              · exact .inr ⟨h, fun j a b => by
                  by_cases ej : i = j
                  · subst ej; exact c
                  · exact h' j (by omega) b⟩
            · rw [if_npos (by omega)]; exact ⟨_, rfl, .inl rfl⟩
          obtain ⟨r, e, h⟩ := key 0 (Nat.zero_le _)
          refine ⟨r, e, ?_⟩
          rcases h with h | ⟨h, h'⟩
          · exact .inl h
          · exact .inr ⟨h, new_deal (by omega) hl h2 (by omega) h4 fun i hi => h' i (Nat.zero_le _) hi⟩
theorem impl_IsOver_ok (hs : List (List Int)) (le tr : Int) (tk wo po : List Int) (lf : Int) (hh : G2 hs) (h3 : tk.length ≤ 2097152) (hwo : wo.length ≤ 2097152) (hpo : po.length ≤ 2097152) : impl_IsOver hs le tr tk wo po lf = some (dealM hs le tr tk wo po lf && (decide (hs.flatten.length = 0) && decide (tk.length = 0))) := by
  have hl := hh.len
  have hf := hh.flat
  rw [impl_IsOver_eq, impl_IsDeal_ok hs le tr tk wo po lf hh h3 hwo hpo, Option.bind_some]
  cases dealM hs le tr tk wo po lf with
  | false => rfl
  | true =>
    rw [if_pos rfl, impl_TotalCards_ok _ (by omega) (by omega), Option.bind_some]
    by_cases c1 : hs.flatten.length = 0
    · rw [if_epos (by omega), decide_eq_true c1, Bool.true_and, Bool.true_and]
      congr 1
      rw [Bool.eq_iff_iff]; simp only [beq_iff_eq, decide_eq_true_eq]; omega
    · rw [if_eneg (by omega), decide_eq_false c1]; rfl
/-- What is played stays a deal, and what was won is what was played. -/
theorem playAll_is (l : List Int) (hl : l.length ≤ 1000) : ∀ i, i ≤ l.length → ∀ (hs : List (List Int)) (le tr : Int) (tk wo po : List Int) (lf : Int), dealM hs le tr tk wo po lf = true → (∀ x ∈ po, x ≤ 44 * (i : Int)) → po.sum + ptS tk = ptS (l.take i) →
    ∃ r0 r1 r2 r3 r4 r5 n, impl_PlayAll_L3 l l (l.length : Int) (i : Int) 0 0 0 le tr lf hs tk wo po = some (r0, r1, r2, r3, r4, r5, lf, n) ∧ dealM r0 r1 r2 r3 r4 r5 lf = true ∧ 0 ≤ n ∧ n ≤ (l.length : Int) ∧ (∀ x ∈ r5, x ≤ 44000) ∧ r5.sum + ptS r3 = ptS (l.take n.toNat) := down (by
    intro hs le tr tk wo po lf hd hp hs1
    rw [impl_PlayAll_L3_eq, if_dneg (by omega)]
    exact ⟨_, _, _, _, _, _, _, rfl, hd, by omega, by omega, fun x hx => by have := hp x hx; omega, by rw [Int.toNat_natCast]; exact hs1⟩) fun i hi ih hs le tr tk wo po lf hd hp hs1 => by
  obtain ⟨h1, h2, h3, h4, h5, h6⟩ := deal_small hs le tr tk wo po lf hd
  rw [impl_PlayAll_L3_eq, if_dpos (by omega), if_pos (by omega), if_pos (by omega), Int.toNat_natCast, impl_PlayCard_ok hs le tr tk wo po lf (l.getD i 0) h6 (by omega) (by omega) (by omega), Option.bind_some, wrap_succ hi (by omega)]
  by_cases hok : (dealM hs le tr tk wo po lf && (!decide (whoM hs le tr tk wo po lf < 0) && mayPM (hs.getD (whoM hs le tr tk wo po lf).toNat []) tk (l.getD i 0))) = true
  · obtain ⟨le', tk', wo', po', e1, e2, e3, e4, _⟩ := card_deal hs le tr tk wo po lf (l.getD i 0) (44 * (i : Int)) (by omega) (by omega) hp hok
    rw [e1]
    exact ih _ le' tr tk' wo' po' lf e2 (fun x hx => by have := e3 x hx; omega) (by rw [e4, hs1, take_succ_getD (d := (0 : Int)) hi, ptS_app, ptS_one])
  · rw [cardM, if_neg hok]
    exact ⟨_, _, _, _, _, _, _, rfl, hd, by omega, by omega, fun x hx => by have := hp x hx; omega, by rw [Int.toNat_natCast]; exact hs1⟩
end Go.Proofs.Ytoioaijpdiglfaa.V
