/- The pure statement of FnStamps. -/
import Derived.Test.YtlcnjpibfjhibaaWrong
import Derived.Test.YtlcnjpibfjhibaaQD
import Derived.OpenShut
set_option linter.unusedVariables false
set_option linter.unusedSimpArgs false
namespace Go.Proofs.Ytlcnjpibfjhibaa.Q
open Go.RowKit Go.Proofs.YtlcnjpibfjhibaaW.PrintWords Go.Proofs.Ytlcnjpibfjhibaa.Loops Go.Proofs.Ytlcnjpibfjhibaa.Pay
theorem SameNumbers_is (l : List Int) (hl : l.length ≤ 1048576) : Ev (fun k => spec_SameNumbers.f k l l) true := by
  have key : ∀ (d i : Nat), l.length - i = d → i ≤ l.length → Ev (fun k => spec_l00Same.l0 k l l (i : Int)) true := by
    intro d
    induction d with
    | zero =>
      intro i hd hi
      refine Ev.step (f := fun _ => some true) (fun k => ?_) (Ev.now _)
      simp only [spec_l00Same.l0]
      rw [if_neg (by omega)]
    | succ d ih =>
      intro i hd hi
      have e2 : wrap64 ((i : Int) + 1) = ((i + 1 : Nat) : Int) := by rw [wrap_mid (by omega) (by omega)]; omega
      refine Ev.step (fun k => ?_) (ih (i + 1) (by omega) (by omega))
      simp only [spec_l00Same.l0]
      rw [if_pos (by omega), if_pos (by omega), if_pos (by omega), if_pos trivial, e2]
  unfold spec_SameNumbers.f
  refine Ev.bind (Ev.congr (fun k => ?_) (key _ 0 rfl (Nat.zero_le _))) (Ev.now _)
  unfold spec_l00Same.f
  rw [if_pos rfl]
  rfl
/-- What the fewest stamps are. -/
theorem fewS_facts {vs : List Int} (h : Vals vs) (a : Nat) (ha : a < 900) :
    (payB vs a = false ∧ fewS vs a = ([], 0, 6)) ∨ (payB vs a = true ∧ ∃ cs, fewS vs a = (cs, few vs a, 0) ∧ cs.length = vs.length ∧ Small cs ∧ dotN vs cs vs.length = (a : Int) ∧ cntN cs vs.length = few vs a) := by
  have hv' : ∀ v ∈ vs, 1 ≤ v := fun v hv => (h.mem v hv).1
  rw [fewS_eq]
  rcases tab_few hv' (a + 1) a (by omega) (by omega) with ⟨t1, t2⟩ | ⟨t1, t2, t3⟩
  · refine .inl ⟨?_, ?_⟩
    · unfold payB
      exact decide_eq_false (by omega)
    · rw [if_pos t1]
  · refine .inr ⟨?_, cntD (tabD vs (endlessL vs) (a + 1)) vs vs.length (a : Int) ((tabD vs (endlessL vs) (a + 1) vs.length).getD a z80).f1, ?_, cntD_length _ _ _ _ _, ?_, ?_, ?_⟩
    · unfold payB
      exact decide_eq_true t2
    · rw [if_neg t1, t3]
    all_goals
      have hok := tabD_ok (hs := endlessL vs) (a + 1) (by simp) hv' (fun h hh => by rw [mem_endless hh]; omega) vs.length (Nat.le_refl _)
      have hw := (hok.ways a (by omega)).1
      have hw0 : ((tabD vs (endlessL vs) (a + 1) vs.length).getD a z80).f0 ≠ 0 := t1
      have hw1 : 0 < ((tabD vs (endlessL vs) (a + 1) vs.length).getD a z80).f0 := by omega
      obtain ⟨g1, g2, g3⟩ := cntD_facts hv' (m := a + 1) (by omega) vs.length (Nat.le_refl _) a (by omega) hw1
    · exact fun j => getD_all (P := fun c => 0 ≤ c ∧ c ≤ 1000000) (by omega) g3 j
    · have e : ∀ j, vs.length - vs.length + j = j := fun j => by omega
      refine Eq.trans (sumN_congr _ (fun j _ => ?_)) g2
      rw [e]
    · rw [g1]; exact t3
theorem vals_small {vs : List Int} (h : Vals vs) : Small vs := fun j => getD_all (P := fun c => 0 ≤ c ∧ c ≤ 1000000) (by omega) (fun v hv => by have := h.mem v hv; omega) j
/-- One more stamp: one more at most. -/
theorem few_next {vs : List Int} (hv : ∀ v ∈ vs, 1 ≤ v) {a b : Nat} {v : Int} (hm : v ∈ vs) (hb : (b : Int) = (a : Int) + v) (h : payB vs a = true) : payB vs b = true ∧ few vs b ≤ few vs a + 1 := by
  have h0 : 0 ≤ few vs a := of_decide_eq_true h
  rcases few_spec hv a with ⟨g1, _⟩ | ⟨_, g2, _⟩
  · omega
  · have hp := PaidC.step g2 hm
    rw [← hb] at hp
    rcases few_spec hv b with ⟨f1, f2⟩ | ⟨f0, f1, f2⟩
    · exact absurd hp.paid f2
    · exact ⟨decide_eq_true f0, f2 _ hp⟩
theorem payB_paid {vs : List Int} (hv : ∀ v ∈ vs, 1 ≤ v) (a : Nat) : payB vs a = true ↔ Paid vs (a : Int) := payB_iff hv a
theorem valsB_of {vs : List Int} (h : Vals vs) (h5 : vs.length ≤ 5) : valsB vs = true := (valsB_iff vs).2 ⟨h, h5⟩
theorem iFewest_is {vs : List Int} (h : Vals vs) (h5 : vs.length ≤ 5) (a : Nat) (ha : a ≤ 1000) : impl_FewestStamps.f vs (a : Int) = some (fewS vs a) := by
  unfold impl_FewestStamps.f
  rw [if_pos ⟨valsB_of h h5, by omega, by omega⟩, Int.toNat_natCast]
/-- The last loop: one more stamp of each value. -/
theorem more_loop {vs : List Int} (h : Vals vs) (h5 : vs.length ≤ 5) (a : Nat) (ha : a < 60) (hlow : ∀ v ∈ vs, v ≤ 150) (F : Int) (hF : payB vs a = true → F = few vs a) : ∀ (d i : Nat), i + d = vs.length → Ev (fun k => laws_FnStamps.l0 k vs (a : Int) (payB vs a) F (i : Int)) true := by
  have hv' : ∀ v ∈ vs, 1 ≤ v := fun v hv => (h.mem v hv).1
  have hfb := few_bound hv' a
  intro d
  induction d with
  | zero =>
    intro i hi
    refine Ev.step (f := fun _ => some true) (fun k => ?_) (Ev.now _)
    rw [laws_FnStamps.l0, if_neg (by omega)]
  | succ d ih =>
    intro i hi
    have ih' := ih (i + 1) (by omega)
    have hil : i < vs.length := by omega
    have hm : vs.getD i 0 ∈ vs := by rw [List.getD_eq_getElem?_getD, List.getElem?_eq_getElem hil]; exact List.getElem_mem _
    have m1 := hv' _ hm
    have m2 := hlow _ hm
    obtain ⟨b, hb⟩ : ∃ b : Nat, (b : Int) = (a : Int) + vs.getD i 0 := ⟨((a : Int) + vs.getD i 0).toNat, by omega⟩
    have c1 : (i : Int) < (vs.length : Int) := by omega
    have c2 : (0 : Int) ≤ (i : Int) := by omega
    have c3 : i ≤ 1000000 := by omega
    have b0 : (0 : Int) ≤ (b : Int) := by omega
    have b1 : (b : Int) ≤ 1000000000000 := by omega
    have b2 : b ≤ 1000 := by omega
    have b3 : b < 900 := by omega
    have f0 : 0 ≤ few vs a + 1 := by omega
    have f1 : few vs a + 1 ≤ 1000000000000 := by omega
    refine Ev.step (f := fun k => (impl_CanPay.f k vs (b : Int)).bind fun bt371 => ((impl_FewestStamps.f vs (b : Int)).bind fun bt374 => (if payB vs a = true then (if bt371.2 = 0 then (if bt371.1 = true then (if bt374.2.2 = 0 then (if bt374.2.1 > wrap64 (F + 1) then (some false) else (laws_FnStamps.l0 k vs (a : Int) (payB vs a) F ((i + 1 : Nat) : Int))) else (some false)) else (some false)) else (some false)) else (laws_FnStamps.l0 k vs (a : Int) (payB vs a) F ((i + 1 : Nat) : Int))))) (fun k => ?_) (Ev.bind (CanPay_is h b b2) ?_)
    · rw [laws_FnStamps.l0, if_pos c1, if_pos c2, rdn, ← hb, w_small b0 b1, w_next c3]
    · rw [iFewest_is h h5 b b2]
      simp only [Option.bind_some]
      cases hp : payB vs a with
      | false =>
        rw [hp] at ih'
        simp only [Bool.false_eq_true, if_false]
        exact ih'
      | true =>
        rw [hp] at ih'
        obtain ⟨g1, g2⟩ := few_next hv' hm hb hp
        rcases fewS_facts h b b3 with ⟨q1, _⟩ | ⟨_, cs, q2, _⟩
        · rw [g1] at q1; cases q1
        · simp only [g1, q2, if_true, hF hp, w_small f0 f1, if_neg (show ¬ few vs b > few vs a + 1 by omega)]
          rw [hF hp] at ih'
          exact ih'
theorem stamps_all {vs : List Int} (h : Vals vs) (h4 : vs.length ≤ 4) (hlow : ∀ v ∈ vs, v ≤ 150) {c0 c1 : List Int} (hV : Ev (fun k => spec_P6Values.f k c0) vs) (a : Nat) (ha : a < 60) (hP : spec_P6Pick.f c1 60 = some (a : Int)) : Ev (fun k => laws_FnStamps.j0 k c0 c1 false) true := by
  have hv' : ∀ v ∈ vs, 1 ≤ v := fun v hv => (h.mem v hv).1
  have h5 : vs.length ≤ 5 := by omega
  obtain ⟨w, hw1, hw2, hw3⟩ := Ways_is h h5 a (by omega)
  have hgI := grR_inv hv' a
  have hgs := grR_small hv' a (by omega)
  have hpw : (decide (w > 0)) = payB vs a := by
    cases hp : payB vs a with
    | true => exact decide_eq_true (hw3.2 ((payB_paid hv' a).1 hp))
    | false => exact decide_eq_false (fun q => by have := (payB_paid hv' a).2 (hw3.1 q); rw [hp] at this; cases this)
  -- what greedy stamps pay
  have hgp : (grR vs a).2 = 0 → payB vs a = true ∧ few vs a ≤ cntN (grR vs a).1 vs.length := fun hz => by
    have hd := hgI.dot
    rw [hz] at hd
    have hp := paidC_of (vs := vs) (cs := (grR vs a).1) (fun j => (hgI.small j).1) vs.length (Nat.le_refl _)
    rw [show dotN vs (grR vs a).1 vs.length = (a : Int) by omega] at hp
    rcases few_spec hv' a with ⟨f1, f2⟩ | ⟨f0, f1, f2⟩
    · exact absurd hp.paid f2
    · exact ⟨decide_eq_true f0, f2 _ hp⟩
  -- the first wrong one
  have hfw := firstW_spec vs 1000 1
  have hwno : (0 < a) → (grR vs a).2 = 0 → payB vs a = true → (decide (cntN (grR vs a).1 vs.length > few vs a) = true ↔ wrongB vs a = true) := fun _ hz hp => by
    have h0 : 0 ≤ few vs a := of_decide_eq_true hp
    rw [decide_eq_true_eq]
    constructor
    · intro q; exact wrong_yes h0 (.inr q)
    · intro q
      refine Decidable.byContradiction fun q2 => ?_
      rw [wrong_no (.inr ⟨hz, q2⟩)] at q
      cases q
  obtain ⟨rw_, hgA⟩ : ∃ r, grR vs a = r := ⟨_, rfl⟩
  obtain ⟨row, rem⟩ := rw_
  rw [hgA] at hgI hgs hgp hwno
  simp only at hgI hgs hgp hwno
  have hrl := hgI.len
  simp only at hrl
  have hpos : ∀ c : Nat, 1 ≤ c → c < 1001 → (wrongB vs c = true ∨ wrongB vs c = false) := fun c _ _ => by cases wrongB vs c <;> simp
  -- from the first wrong one on
  have tail : ∀ (F many code : Int), (payB vs a = true → F = few vs a) → (code = 0 → rem = 0 ∧ many = cntN row vs.length) → (code ≠ 0 → rem ≠ 0) → Ev (fun k => laws_FnStamps.j3 k vs (a : Int) (payB vs a) F code many false) true := by
    intro F many code hF hc0 hc1
    have hloop := more_loop h h5 a ha hlow F hF vs.length 0 (by omega)
    have j5 : Ev (fun k => laws_FnStamps.j5 k vs (a : Int) (payB vs a) F false) true := by
      refine Ev.step (fun k => ?_) hloop
      rw [laws_FnStamps.j5, if_neg (by decide)]
      rfl
    obtain ⟨f1, f2, hff⟩ : ∃ f1 f2, firstW vs 1000 1 = (f1, f2) := ⟨_, _, rfl⟩
    have hI := iWrong_is h
    have hS := sWrong_is h
    rw [hff] at hI hS
    have j4 : Ev (fun k => laws_FnStamps.j4 k vs (a : Int) (payB vs a) F code many f2 f1 false) true := by
      by_cases hp : payB vs a = true
      · by_cases ha0 : (a : Int) > 0
        · by_cases hc : code = 0
          · obtain ⟨hz, hm⟩ := hc0 hc
            have hd := hwno (by omega) hz hp
            rw [hm, hF hp] at *
            obtain ⟨D, hD⟩ : ∃ D, decide (cntN row vs.length > few vs a) = D := ⟨_, rfl⟩
            rw [hD] at hd
            rcases hfw with ⟨b, b1, b2, b3, b4, b5⟩ | ⟨b3, b5⟩
            · rw [hff] at b3
              obtain ⟨rfl, rfl⟩ := Prod.mk.inj b3
              by_cases e1 : (a : Int) = (b : Int)
              · obtain rfl : a = b := by omega
                have hDt : D = true := hd.2 b4
                refine Ev.step (fun k => ?_) j5
                rw [laws_FnStamps.j4, if_neg (by decide), if_pos hp, if_pos ha0, if_pos hc, if_pos rfl, if_pos rfl, hD, hDt]
                rfl
              · by_cases e2 : (a : Int) > (b : Int)
                · refine Ev.step (fun k => ?_) j5
                  rw [laws_FnStamps.j4, if_neg (by decide), if_pos hp, if_pos ha0, if_pos hc, if_pos rfl, if_neg e1, if_pos e2, bne_self_eq_false]
                · have hDf : D = false := by
                    have := b5 a (by omega) (by omega)
                    cases D with
                    | false => rfl
                    | true => rw [hd.1 rfl] at this; cases this
                  refine Ev.step (fun k => ?_) j5
                  rw [laws_FnStamps.j4, if_neg (by decide), if_pos hp, if_pos ha0, if_pos hc, if_pos rfl, if_neg e1, if_neg e2, hD, hDf]
                  rfl
            · rw [hff] at b3
              obtain ⟨rfl, rfl⟩ := Prod.mk.inj b3
              have hDf : D = false := by
                have := b5 a (by omega) (by omega)
                cases D with
                | false => rfl
                | true => rw [hd.1 rfl] at this; cases this
              refine Ev.step (fun k => ?_) j5
              rw [laws_FnStamps.j4, if_neg (by decide), if_pos hp, if_pos ha0, if_pos hc, if_neg (by decide), hD, hDf]
              rfl
          · have hz := hc1 hc
            have hw : wrongB vs a = true := wrong_yes (of_decide_eq_true hp) (.inl (by rw [hgA]; exact hz))
            rcases hfw with ⟨b, b1, b2, b3, b4, b5⟩ | ⟨b3, b5⟩
            · rw [hff] at b3
              obtain ⟨rfl, rfl⟩ := Prod.mk.inj b3
              by_cases e1 : (a : Int) = (b : Int)
              · refine Ev.step (fun k => ?_) j5
                rw [laws_FnStamps.j4, if_neg (by decide), if_pos hp, if_pos ha0, if_neg hc, if_pos rfl, if_pos e1]
                rfl
              · by_cases e2 : (a : Int) > (b : Int)
                · refine Ev.step (fun k => ?_) j5
                  rw [laws_FnStamps.j4, if_neg (by decide), if_pos hp, if_pos ha0, if_neg hc, if_pos rfl, if_neg e1, if_pos e2]
                  rfl
                · have := b5 a (by omega) (by omega)
                  rw [hw] at this
                  cases this
            · have := b5 a (by omega) (by omega)
              rw [hw] at this
              cases this
        · refine Ev.step (fun k => ?_) j5
          rw [laws_FnStamps.j4, if_neg (by decide), if_pos hp, if_neg ha0]
      · refine Ev.step (fun k => ?_) j5
        rw [laws_FnStamps.j4, if_neg (by decide), if_neg hp]
    refine Ev.step (f := fun k => (impl_FirstWrongGreedy.f k vs).bind fun bt366 => ((spec_FirstWrongGreedy.f k vs).bind fun bt368 => (if bt366.2 = bt368.2 then (if bt366.1 = bt368.1 then (if bt366.2 = 0 then (laws_FnStamps.j4 k vs (a : Int) (payB vs a) F code many bt366.2 bt368.1 false) else (laws_FnStamps.j4 k vs (a : Int) (payB vs a) F code many bt366.2 bt368.1 (bt366.2 != 6))) else (laws_FnStamps.j4 k vs (a : Int) (payB vs a) F code many bt366.2 bt368.1 true)) else (laws_FnStamps.j4 k vs (a : Int) (payB vs a) F code many bt366.2 bt368.1 true)))) (fun k => ?_) (Ev.bind hI (Ev.bind hS ?_))
    · rw [laws_FnStamps.j3, if_neg (by decide)]
    · simp only [if_true]
      by_cases e : f2 = 0
      · simp only [if_pos e]
        exact j4
      · have h6 : f2 = 6 := by
          rcases hfw with ⟨b, b1, b2, b3, b4, b5⟩ | ⟨b3, b5⟩
          · rw [hff] at b3; exact absurd (Prod.mk.inj b3).2 e
          · rw [hff] at b3; exact (Prod.mk.inj b3).2
        have hb : (f2 != 6) = false := by rw [h6]; rfl
        simp only [if_neg e, hb]
        exact j4
  -- from what greedy stamps pay on
  have mid : ∀ (F : Int), (payB vs a = true → F = few vs a) → Ev (fun k => laws_FnStamps.j2 k vs (a : Int) (payB vs a) F (grA vs a).2.2 (grA vs a).1 (grA vs a).2.1 false) true := by
    intro F hF
    unfold grA
    rw [hgA]
    simp only
    by_cases hz : rem = 0
    · obtain ⟨hp, hle⟩ := hgp hz
      have hf := hF hp
      rw [if_pos hz]
      simp only
      have t3 := tail F (cntN row vs.length) 0 hF (fun _ => ⟨hz, rfl⟩) (fun q => absurd rfl q)
      have hdot : dotN vs row vs.length = (a : Int) := by have := hgI.dot; simp only at this; omega
      have hP := PaidBy_is hrl (by omega) (vals_small h) hgs
      have hSu := SumOf_is (cs := row) (by omega) hgs
      rw [hdot] at hP
      rw [hrl] at hSu
      refine Ev.step (f := fun k => (spec_PaidBy.f k vs row).bind fun t364 => (if t364 = (a : Int) then ((spec_SumOf.f k row).bind fun t365 => (if t365 = cntN row vs.length then (laws_FnStamps.j3 k vs (a : Int) (payB vs a) F 0 (cntN row vs.length) (decide (cntN row vs.length < F))) else (laws_FnStamps.j3 k vs (a : Int) (payB vs a) F 0 (cntN row vs.length) true))) else (laws_FnStamps.j3 k vs (a : Int) (payB vs a) F 0 (cntN row vs.length) true))) (fun k => ?_) (Ev.bind hP ?_)
      · rw [laws_FnStamps.j2, if_neg (by decide), if_pos rfl, if_pos hp]
      · simp only [if_true]
        refine Ev.bind hSu ?_
        simp only [if_true, decide_eq_false (show ¬ cntN row vs.length < F by omega)]
        exact t3
    · rw [if_neg hz]
      simp only
      have t3 := tail F 0 6 hF (fun q => absurd q (by decide)) (fun _ => hz)
      refine Ev.step (fun k => ?_) t3
      rw [laws_FnStamps.j2, if_neg (by decide), if_neg (by decide)]
  have head1 : ∀ cs F code, fewS vs a = (cs, F, code) → Ev (fun k => laws_FnStamps.j1 k vs (a : Int) (payB vs a) cs F (grA vs a).2.2 (grA vs a).1 (grA vs a).2.1 false) true := by
    intro cs F code hfs
    rcases fewS_facts h a (by omega) with ⟨p1, p2⟩ | ⟨p1, cs', p2, p3, p4, p5, p6⟩
    · have m2 := mid F (fun q => by rw [p1] at q; cases q)
      refine Ev.step (fun k => ?_) m2
      rw [laws_FnStamps.j1, if_neg (by decide), if_neg (by rw [p1]; decide)]
    · rw [hfs] at p2
      obtain ⟨rfl, p7⟩ := Prod.mk.inj p2
      obtain ⟨rfl, rfl⟩ := Prod.mk.inj p7
      have m2 := mid (few vs a) (fun _ => rfl)
      have hP := PaidBy_is p3 (by omega) (vals_small h) p4
      have hSu := SumOf_is (cs := cs) (by omega) p4
      rw [p5] at hP
      rw [p3, p6] at hSu
      refine Ev.step (f := fun k => (spec_PaidBy.f k vs cs).bind fun t362 => (if t362 = (a : Int) then ((spec_SumOf.f k cs).bind fun t363 => (if t363 = few vs a then (laws_FnStamps.j2 k vs (a : Int) (payB vs a) (few vs a) (grA vs a).2.2 (grA vs a).1 (grA vs a).2.1 ((cs.length : Int) != (vs.length : Int))) else (laws_FnStamps.j2 k vs (a : Int) (payB vs a) (few vs a) (grA vs a).2.2 (grA vs a).1 (grA vs a).2.1 true))) else (laws_FnStamps.j2 k vs (a : Int) (payB vs a) (few vs a) (grA vs a).2.2 (grA vs a).1 (grA vs a).2.1 true))) (fun k => ?_) (Ev.bind hP ?_)
      · rw [laws_FnStamps.j1, if_neg (by decide), if_pos p1]
      · simp only [if_true]
        refine Ev.bind hSu ?_
        simp only [if_true, p3, bne_self_eq_false]
        exact m2
  obtain ⟨cs, F, code, hfs⟩ : ∃ cs F code, fewS vs a = (cs, F, code) := ⟨_, _, _, rfl⟩
  have hend := head1 cs F code hfs
  have hcb : ((code == 0) != payB vs a) = false ∧ cs.length ≤ 1048576 := by
    rcases fewS_facts h a (by omega) with ⟨p1, p2⟩ | ⟨p1, cs', p2, p3, p4, p5, p6⟩
    · rw [hfs] at p2
      obtain ⟨rfl, p7⟩ := Prod.mk.inj p2
      obtain ⟨rfl, rfl⟩ := Prod.mk.inj p7
      rw [p1]
      exact ⟨rfl, by simp⟩
    · rw [hfs] at p2
      obtain ⟨rfl, p7⟩ := Prod.mk.inj p2
      obtain ⟨rfl, rfl⟩ := Prod.mk.inj p7
      rw [p1]
      exact ⟨rfl, by omega⟩
  have hgl : (grA vs a).1.length ≤ 1048576 := by
    unfold grA
    rw [hgA]
    simp only
    by_cases hz : rem = 0
    · rw [if_pos hz]; show row.length ≤ _; omega
    · rw [if_neg hz]; simp
  have hIG := iGreedy_is h a (by omega)
  have hSG := sGreedy_is h a (by omega)
  have hIF := iFewest_is h h5 a (by omega)
  have hSF := sFewest_is h h5 a (by omega)
  rw [hfs] at hIF hSF
  have hCP := CanPay_is h a (by omega)
  have hVV := ValidValues_is h
  have hSN := SameNumbers_is cs hcb.2
  have hSG2 := SameNumbers_is (grA vs a).1 hgl
  obtain ⟨G1, G2, G3, hG⟩ : ∃ G1 G2 G3, grA vs a = (G1, G2, G3) := ⟨_, _, _, rfl⟩
  rw [hG] at hIG hSG hSG2 hend
  have hcbb := hcb.1
  have hwb : ((decide (w > 0)) != payB vs a) = false := by rw [hpw]; exact bne_self_eq_false _
  clear hgI hgs hgp hwno hfw tail mid head1 hcb hgl hpos
  refine Ev.step (f := fun k => laws_FnStamps.j0 (k + 1) c0 c1 false) (fun k => rfl) ?_
  simp only [laws_FnStamps.j0, Bool.false_eq_true, if_false]
  refine Ev.bind hV ?_
  simp only [hP, Option.bind_some]
  refine Ev.bind hCP ?_
  simp only [hIF, Option.bind_some]
  refine Ev.bind hSF (Ev.bind hIG (Ev.bind hSG (Ev.bind hw1 (Ev.bind hw2 ?_))))
  simp only [if_true]
  refine Ev.bind hSN ?_
  simp only [if_true, hcbb, Bool.false_eq_true, if_false]
  refine Ev.bind hSG2 ?_
  simp only [if_true, hwb, Bool.false_eq_true, if_false]
  refine Ev.bind hVV ?_
  exact hend
theorem Pure.FnStamps (y0 : List Int) (y1 : List Int) (w0 : (y0.length ≤ maxLen ∧ ∀ x ∈ y0, (Lit.int .u8 x).wf = true)) (w1 : (y1.length ≤ maxLen ∧ ∀ x ∈ y1, (Lit.int .u8 x).wf = true)) : ∃ k, laws_FnStamps.f k y0 y1 = some true := by
  have byts : ∀ l : List Int, (∀ x ∈ l, (Lit.int .u8 x).wf = true) → Byts l := fun l hl x hx => by
    have := bounds_u8 (hl x hx)
    omega
  have stop : Ev (fun k => laws_FnStamps.j0 k y0 y1 true) true := by
    refine Ev.step (f := fun _ => some true) (fun k => ?_) (Ev.now _)
    rw [laws_FnStamps.j0, if_pos rfl]
  have all : Ev (fun k => laws_FnStamps.f k y0 y1) true := by
    unfold laws_FnStamps.f laws_f6big.f
    simp only [Option.bind_some]
    by_cases h0 : (y0.length : Int) > 4096
    · simp only [decide_eq_true h0, if_true]
      exact stop
    · simp only [decide_eq_false h0, Bool.false_eq_true, if_false]
      by_cases h1 : (y1.length : Int) > 4096
      · simp only [decide_eq_true h1]
        exact stop
      · simp only [decide_eq_false h1]
        obtain ⟨vs, hV, hD⟩ := P6Values_is (byts y0 w0.2)
        obtain ⟨p, hp, p0, p1⟩ := P6Pick_is (byts y1 w1.2) 60 (by omega)
        obtain ⟨a, rfl⟩ : ∃ a : Nat, p = a := ⟨p.toNat, by omega⟩
        exact stamps_all hD.vals hD.len4 hD.low hV a (by omega) hp
  exact all.rounds
end Go.Proofs.Ytlcnjpibfjhibaa.Q
