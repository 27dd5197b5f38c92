/- Greedy stamps: spec's and impl's are the same; what they pay. -/
import Derived.Test.YtlcnjpibfjhibaaSumN
import Derived.Test.YtlcnjpibfjhibaaHGreedy
import Derived.Test.YtlcnjpibfjhibaaQ6
set_option linter.unusedVariables false
set_option linter.unusedSimpArgs false
namespace Go.Proofs.Ytlcnjpibfjhibaa.Q
open Go.RowKit Go.Proofs.YtlcnjpibfjhibaaW.PrintWords Go.Proofs.Ytlcnjpibfjhibaa.Loops Go.Proofs.Ytlcnjpibfjhibaa.Pay
structure GrI (vs : List Int) (a : Int) (k : Nat) (st : List Int × Int) : Prop where
  len : st.1.length = vs.length
  low : ∀ j, j < vs.length - k → st.1.getD j 0 = 0
  dot : dotN vs st.1 vs.length + st.2 = a
  small : ∀ j, 0 ≤ st.1.getD j 0 ∧ st.1.getD j 0 ≤ a
  p0 : 0 ≤ st.2
  p1 : st.2 ≤ a
theorem rep_get (n j : Nat) : (List.replicate n (0 : Int)).getD j 0 = 0 := by
  simp only [List.getD_eq_getElem?_getD, List.getElem?_replicate]
  split <;> rfl
theorem GrI.step {vs : List Int} (hv : ∀ v ∈ vs, 1 ≤ v) {a : Int} {k : Nat} {st : List Int × Int} (h : GrI vs a k st) (hk : k < vs.length) :
    GrI vs a (k + 1) (grS vs st (vs.length - 1 - k)) ∧ cntN (grS vs st (vs.length - 1 - k)).1 vs.length = cntN st.1 vs.length + st.2 / vs.getD (vs.length - 1 - k) 0 ∧ grS vs st (vs.length - 1 - k) = (st.1.set (vs.length - 1 - k) (st.2 / vs.getD (vs.length - 1 - k) 0), st.2 - st.2 / vs.getD (vs.length - 1 - k) 0 * vs.getD (vs.length - 1 - k) 0) ∧ 0 ≤ st.2 / vs.getD (vs.length - 1 - k) 0 ∧ st.2 / vs.getD (vs.length - 1 - k) 0 ≤ a := by
  obtain ⟨i, hi⟩ : ∃ i, vs.length - 1 - k = i := ⟨_, rfl⟩
  have hil : i < vs.length := by omega
  have hm := hv (vs.getD i 0) (by rw [List.getD_eq_getElem?_getD, List.getElem?_eq_getElem hil]; exact List.getElem_mem _)
  rw [hi]
  obtain ⟨v, hvv⟩ : ∃ v, vs.getD i 0 = v := ⟨_, rfl⟩
  have p0 := h.p0
  have p1 := h.p1
  have hz := h.low i (by omega)
  have hdot := h.dot
  obtain ⟨q, hq⟩ : ∃ q, st.2 / v = q := ⟨_, rfl⟩
  rw [hvv] at hm
  have q0 : 0 ≤ q := by rw [← hq]; exact Int.ediv_nonneg p0 (by omega)
  have q1 : q ≤ st.2 := by rw [← hq]; exact Int.ediv_le_self _ p0
  have he : st.2 % v = st.2 - q * v := by rw [Int.emod_def, hq, Int.mul_comm]
  have hmod := Int.emod_nonneg st.2 (show v ≠ 0 by omega)
  have hqv : 0 ≤ q * v := Int.mul_nonneg q0 (by omega)
  have hst : grS vs st i = (st.1.set i q, st.2 - q * v) := by
    unfold grS
    rw [hvv, Int.tdiv_eq_ediv_of_nonneg p0, Int.tmod_eq_emod_of_nonneg p0, hq, he]
  rw [hvv, hq, hst]
  have hget : ∀ j, (st.1.set i q).getD j 0 = if j = i then q else st.1.getD j 0 := fun j => setN _ _ _ _ (by rw [h.len]; exact hil)
  have hself : (st.1.set i q).getD i 0 = q := by rw [hget, if_pos rfl]
  refine ⟨⟨by simp [h.len], fun j hj => ?_, ?_, fun j => ?_, by show 0 ≤ st.2 - q * v; omega, by show st.2 - q * v ≤ a; omega⟩, ?_, rfl, q0, by omega⟩
  · show (st.1.set i q).getD j 0 = 0
    rw [hget, if_neg (by omega)]
    exact h.low j (by omega)
  · show dotN vs (st.1.set i q) vs.length + (st.2 - q * v) = a
    have := sumN_change (f := fun j => vs.getD j 0 * st.1.getD j 0) (g := fun j => vs.getD j 0 * (st.1.set i q).getD j 0) (i := i) (fun j hj => by simp only [hget]; rw [if_neg hj]) vs.length hil
    simp only [hself, hz, hvv, Int.mul_zero] at this
    unfold dotN at hdot ⊢
    have e : v * q = q * v := Int.mul_comm _ _
    omega
  · show 0 ≤ (st.1.set i q).getD j 0 ∧ (st.1.set i q).getD j 0 ≤ a
    rw [hget]
    have := h.small j
    split
    · omega
    · exact this
  · have := sumN_change (f := fun j => st.1.getD j 0) (g := fun j => (st.1.set i q).getD j 0) (i := i) (fun j hj => by simp only [hget]; rw [if_neg hj]) vs.length hil
    simp only [hself, hz] at this
    unfold cntN
    show sumN (fun j => (st.1.set i q).getD j 0) vs.length = _
    omega
theorem gr_inv {vs : List Int} (hv : ∀ v ∈ vs, 1 ≤ v) {a : Int} (ha : 0 ≤ a) : ∀ k, k ≤ vs.length → GrI vs a k (grN vs a (downs vs.length k))
  | 0, _ => by
    have e : grN vs a (downs vs.length 0) = (List.replicate vs.length 0, a) := rfl
    rw [e]
    refine ⟨by simp, fun j _ => rep_get _ _, ?_, fun j => by rw [rep_get]; omega, ha, Int.le_refl _⟩
    have : dotN vs (List.replicate vs.length 0) vs.length = 0 := sumN_zero _ (fun j _ => by rw [rep_get]; exact Int.mul_zero _)
    show dotN vs (List.replicate vs.length 0) vs.length + a = a
    omega
  | k + 1, hk => by
    rw [downs_succ, grN_snoc]
    exact ((gr_inv hv ha k (by omega)).step hv (by omega)).1
/-- What greedy stamps are. -/
def grR (vs : List Int) (a : Nat) : List Int × Int := grN vs (a : Int) (downs vs.length vs.length)
theorem grR_inv {vs : List Int} (hv : ∀ v ∈ vs, 1 ≤ v) (a : Nat) : GrI vs (a : Int) vs.length (grR vs a) := gr_inv hv (by omega) _ (Nat.le_refl _)
set_option maxHeartbeats 1000000 in
theorem l01Greedy_is {vs : List Int} (hv : ∀ v ∈ vs, 1 ≤ v ∧ v ≤ 1000000) (hn : vs.length ≤ 50) (a : Nat) (ha : a ≤ 100000) : Ev (fun k => spec_l01Greedy.f k vs (a : Int)) ((grR vs a).1, cntN (grR vs a).1 vs.length, (grR vs a).2) := by
  have hv' : ∀ v ∈ vs, 1 ≤ v := fun v h => (hv v h).1
  have key : ∀ (d k : Nat), k + d = vs.length → Ev (fun q => spec_l01Greedy.l0 q vs (grN vs (a : Int) (downs vs.length k)).2 (grN vs (a : Int) (downs vs.length k)).1 (cntN (grN vs (a : Int) (downs vs.length k)).1 vs.length) ((vs.length : Int) - 1 - k)) ((grR vs a).1, cntN (grR vs a).1 vs.length, (grR vs a).2) := by
    intro d
    induction d with
    | zero =>
      intro k hk
      obtain rfl : k = vs.length := by omega
      refine Ev.step (f := fun _ => some ((grR vs a).1, cntN (grR vs a).1 vs.length, (grR vs a).2)) (fun q => ?_) (Ev.now _)
      rw [spec_l01Greedy.l0, if_neg (by omega)]
      rfl
    | succ d ih =>
      intro k hk
      have ih' := ih (k + 1) (by omega)
      have hI := gr_inv hv' (a := (a : Int)) (by omega) k (by omega)
      obtain ⟨_, hc, hs, q0, q1⟩ := hI.step hv' (by omega)
      rw [downs_succ, grN_snoc] at ih'
      obtain ⟨st, hst⟩ : ∃ st, grN vs (a : Int) (downs vs.length k) = st := ⟨_, rfl⟩
      rw [hst] at hI hc hs q0 q1 ih' ⊢
      obtain ⟨i, hi⟩ : ∃ i, vs.length - 1 - k = i := ⟨_, rfl⟩
      rw [hi] at hc hs q0 q1 ih'
      have hil : i < vs.length := by omega
      have hm := hv (vs.getD i 0) (by rw [List.getD_eq_getElem?_getD, List.getElem?_eq_getElem hil]; exact List.getElem_mem _)
      have p0 := hI.p0
      have p1 := hI.p1
      have hln := hI.len
      obtain ⟨v, hvv⟩ : ∃ v, vs.getD i 0 = v := ⟨_, rfl⟩
      rw [hvv] at hc hs q0 q1 hm
      obtain ⟨Q, hQ⟩ : ∃ Q, st.2 / v = Q := ⟨_, rfl⟩
      rw [hQ] at hc hs q0 q1
      have hcb := sumN_bound (f := fun j => st.1.getD j 0) (B := (a : Int)) vs.length (fun j _ => hI.small j)
      have hcb' : 0 ≤ cntN st.1 vs.length ∧ cntN st.1 vs.length ≤ (a : Int) * (vs.length : Int) := hcb
      have hprod := prod_small (a := (a : Int)) (b := (vs.length : Int)) ⟨by omega, by omega⟩ ⟨by omega, by omega⟩
      have hQv := prod_small (a := Q) (b := v) ⟨q0, by omega⟩ ⟨by omega, hm.2⟩
      rw [hs] at ih' hc
      simp only at ih' hc
      rw [hc] at ih'
      have e1 : Int.tdiv st.2 v = Q := by rw [Int.tdiv_eq_ediv_of_nonneg p0, hQ]
      have t1 : ((vs.length : Int) - 1 - (k : Int)) = (i : Int) := by omega
      have t2 : ((vs.length : Int) - 1 - ((k + 1 : Nat) : Int)) = (i : Int) - 1 := by omega
      rw [t2] at ih'
      rw [t1]
      have c1 : (i : Int) ≥ 0 := by omega
      have c2 : (i : Int) < (vs.length : Int) := by omega
      have c3 : ¬ v = 0 := by omega
      have c4 : (i : Int) < (st.1.length : Int) := by omega
      have c5 : Q ≤ 1000000000000 := by omega
      have c6 : 0 ≤ st.2 - Q * v := by
        have := (hI.step hv' (by omega)).1.p0
        rw [hi, hs] at this
        exact this
      have c7 : st.2 - Q * v ≤ 1000000000000 := by omega
      have c8 : 0 ≤ cntN st.1 vs.length + Q := by omega
      have c9 : cntN st.1 vs.length + Q ≤ 1000000000000000 := by omega
      have hg : (st.1.set i Q).getD i 0 = Q := by rw [setN _ _ _ _ (by omega), if_pos rfl]
      have w9 : wrap64 ((i : Int) - 1) = (i : Int) - 1 := wrap_mid (by omega) (by omega)
      refine Ev.step (fun q => ?_) ih'
      rw [spec_l01Greedy.l0, if_pos c1, if_pos c1, if_pos c2, rdn, hvv, if_neg c3, if_pos c4, e1, w_small q0 c5, Int.toNat_natCast]
      simp only [Option.bind_some, rdn, hg]
      rw [w_mid2 hQv.1 (by omega), w_small c6 c7, w_mid2 c8 c9, w9]
  have h0 := key vs.length 0 (by omega)
  have e0 : grN vs (a : Int) (downs vs.length 0) = (List.replicate vs.length 0, (a : Int)) := rfl
  rw [e0] at h0
  have ez : cntN (List.replicate vs.length 0) vs.length = 0 := sumN_zero _ (fun j _ => rep_get _ _)
  simp only [ez] at h0
  refine Ev.congr (fun k => ?_) h0
  unfold spec_l01Greedy.f
  rw [if_pos (by omega), if_pos (by omega), Int.toNat_natCast, wrap_mid (i := (vs.length : Int) - 1) (by omega) (by omega)]
  rw [show (vs.length : Int) - 1 - ((0 : Nat) : Int) = (vs.length : Int) - 1 by omega]
/-- What GreedyStamps answers. -/
def grA (vs : List Int) (a : Nat) : List Int × Int × Int := if (grR vs a).2 = 0 then ((grR vs a).1, cntN (grR vs a).1 vs.length, 0) else ([], 0, 6)
theorem grR_small {vs : List Int} (hv : ∀ v ∈ vs, 1 ≤ v) (a : Nat) (ha : a ≤ 1000000) : Small (grR vs a).1 := fun j => by
  have := (grR_inv hv a).small j
  omega
theorem greedyF_is {vs : List Int} (hv : ∀ v ∈ vs, 1 ≤ v ∧ v ≤ 1000000) (hn : vs.length ≤ 1000) (a : Nat) (ha : a ≤ 1000000) : impl_greedy.f vs (a : Int) = some ((grR vs a).1, (grR vs a).2 == 0) := by
  unfold impl_greedy.f
  rw [if_pos ⟨⟨hn, by omega, by omega⟩, List.all_eq_true.2 (fun v h => decide_eq_true (hv v h))⟩]
  rfl
theorem iGreedy_is {vs : List Int} (h : Vals vs) (a : Nat) (ha : a ≤ 1000) : Ev (fun k => impl_GreedyStamps.f k vs (a : Int)) (grA vs a) := by
  have hv : ∀ v ∈ vs, 1 ≤ v ∧ v ≤ 1000000 := fun v hv => by have := h.mem v hv; omega
  have hl := h.len8
  have hgl := (grR_inv (fun v hv' => (hv v hv').1) a).len
  unfold impl_GreedyStamps.f
  refine Ev.bind (valuesCode_is h _ _ (by omega) (by omega)) ?_
  simp only [if_true, greedyF_is hv (by omega) a (by omega), Option.bind_some]
  unfold grA
  by_cases hz : (grR vs a).2 = 0
  · simp only [hz, beq_self_eq_true, if_true]
    rw [← hgl]
    exact Ev.bind (isum_is (by omega) (grR_small (fun v hv' => (hv v hv').1) a (by omega))) (Ev.now _)
  · have hz' : ((grR vs a).2 == 0) = false := beq_eq_false_iff_ne.mpr hz
    simp only [hz', hz, if_false, Bool.false_eq_true]
    exact Ev.now _
theorem sGreedy_is {vs : List Int} (h : Vals vs) (a : Nat) (ha : a ≤ 1000) : Ev (fun k => spec_GreedyStamps.f k vs (a : Int)) (grA vs a) := by
  have hv : ∀ v ∈ vs, 1 ≤ v ∧ v ≤ 1000000 := fun v hv => by have := h.mem v hv; omega
  have hl := h.len8
  have hp := (grR_inv (fun v hv' => (hv v hv').1) a).p0
  unfold spec_GreedyStamps.f
  rw [l01PostageB_is _ (by omega) (by omega)]
  simp only [Option.bind_some]
  refine Ev.bind (l01Asked_is h) ?_
  simp only [if_true]
  refine Ev.bind (l01Greedy_is hv (by omega) a (by omega)) ?_
  unfold grA
  by_cases hz : (grR vs a).2 = 0
  · simp only [hz, if_true, if_neg (show ¬ (0 : Int) > 0 by omega)]
    exact Ev.now _
  · simp only [if_neg hz, if_pos (show (grR vs a).2 > 0 by omega)]
    exact Ev.now _
end Go.Proofs.Ytlcnjpibfjhibaa.Q
