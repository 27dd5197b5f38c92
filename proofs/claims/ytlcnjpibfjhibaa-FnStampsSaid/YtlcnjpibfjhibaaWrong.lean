/- The first postage that greedy stamps pay wrongly: both searches. -/
import Derived.Test.YtlcnjpibfjhibaaWays
import Derived.Test.YtlcnjpibfjhibaaPayPure
import Derived.Test.YtlcnjpibfjhibaaQ7
set_option linter.unusedVariables false
set_option linter.unusedSimpArgs false
namespace Go.Proofs.Ytlcnjpibfjhibaa.Q
open Go.RowKit Go.Proofs.YtlcnjpibfjhibaaW.PrintWords Go.Proofs.Ytlcnjpibfjhibaa.Loops Go.Proofs.Ytlcnjpibfjhibaa.Pay
theorem leastStamps_is {vs : List Int} (hv : ∀ v ∈ vs, 1 ≤ v ∧ v ≤ 1000000) (hn : vs.length ≤ 100) (m : Nat) (hm : m ≤ 10000) : Ev (fun k => impl_leastStamps.f k vs (m : Int)) (fewRow vs m) := by
  have key : ∀ (d a : Nat), a + d = m → Ev (fun k => impl_leastStamps.l0 k vs (m : Int) (fewRow vs a) ((a + 1 : Nat) : Int)) (fewRow vs m) := by
    intro d
    induction d with
    | zero =>
      intro a ha
      obtain rfl : a = m := by omega
      refine Ev.step (f := fun _ => some (fewRow vs a)) (fun k => ?_) (Ev.now _)
      rw [impl_leastStamps.l0, if_neg (by omega)]
    | succ d ih =>
      intro a ha
      have ih' := ih (a + 1) (by omega)
      have hl := fewRow_length vs a
      have hf : fewRow vs (a + 1) = fewRow vs a ++ [few vs (a + 1)] := by rw [few_succ]; rfl
      rw [hf] at ih'
      have c1 : ((a + 1 : Nat) : Int) ≤ (m : Int) := by omega
      have c2 : (fewRow vs a).length < 17592186044416 := by omega
      have c3 : a + 1 ≤ 1000000 := by omega
      refine Ev.step (f := fun k => (impl_leastFor.f k vs (fewRow vs a) ((a + 1 : Nat) : Int)).bind fun t => if (fewRow vs a).length < 17592186044416 then impl_leastStamps.l0 k vs (m : Int) (fewRow vs a ++ [t]) (wrap64 (((a + 1 : Nat) : Int) + 1)) else none) (fun k => ?_) (Ev.bind (leastFor_is hv hn a (by omega)) ?_)
      · rw [impl_leastStamps.l0, if_pos c1]
      · simp only [if_pos c2, w_next c3]
        exact ih'
  exact Ev.congr (fun k => by unfold impl_leastStamps.f; rfl) (key m 0 (by omega))
def wrongB (vs : List Int) (a : Nat) : Bool := decide (0 ≤ few vs a) && (!((grR vs a).2 == 0) || decide (few vs a < cntN (grR vs a).1 vs.length))
def firstW (vs : List Int) : Nat → Nat → Int × Int
  | 0, _ => (0, 6)
  | d + 1, a => if wrongB vs a = true then ((a : Int), 0) else firstW vs d (a + 1)
theorem firstW_spec (vs : List Int) : ∀ d a : Nat, (∃ b : Nat, a ≤ b ∧ b < a + d ∧ firstW vs d a = ((b : Int), 0) ∧ wrongB vs b = true ∧ ∀ c, a ≤ c → c < b → wrongB vs c = false) ∨ (firstW vs d a = (0, 6) ∧ ∀ c, a ≤ c → c < a + d → wrongB vs c = false)
  | 0, a => .inr ⟨rfl, fun c h1 h2 => by omega⟩
  | d + 1, a => by
    rw [firstW]
    by_cases h : wrongB vs a = true
    · rw [if_pos h]
      exact .inl ⟨a, Nat.le_refl _, by omega, rfl, h, fun c h1 h2 => by omega⟩
    · rw [if_neg h]
      have h' : wrongB vs a = false := by simpa using h
      rcases firstW_spec vs d (a + 1) with ⟨b, b1, b2, b3, b4, b5⟩ | ⟨b1, b2⟩
      · refine .inl ⟨b, by omega, by omega, b3, b4, fun c c1 c2 => ?_⟩
        by_cases e : c = a
        · rw [e]; exact h'
        · exact b5 c (by omega) c2
      · refine .inr ⟨b1, fun c c1 c2 => ?_⟩
        by_cases e : c = a
        · rw [e]; exact h'
        · exact b2 c (by omega) (by omega)
theorem wrong_yes {vs : List Int} {a : Nat} (h0 : 0 ≤ few vs a) (h : (grR vs a).2 ≠ 0 ∨ few vs a < cntN (grR vs a).1 vs.length) : wrongB vs a = true := by
  unfold wrongB
  rw [decide_eq_true h0, Bool.true_and, Bool.or_eq_true]
  rcases h with h | h
  · left; simpa using h
  · right; exact decide_eq_true h
theorem wrong_no {vs : List Int} {a : Nat} (h : few vs a < 0 ∨ ((grR vs a).2 = 0 ∧ ¬ few vs a < cntN (grR vs a).1 vs.length)) : wrongB vs a = false := by
  unfold wrongB
  rcases h with h | ⟨h1, h2⟩
  · rw [decide_eq_false (by omega), Bool.false_and]
  · rw [h1, decide_eq_false h2]; simp
theorem wrong_zero {vs : List Int} (hv : ∀ v ∈ vs, 1 ≤ v) : wrongB vs 0 = false := by
  have h := grR_inv hv 0
  have h2 : (grR vs 0).2 = 0 := by have := h.p0; have := h.p1; omega
  have h3 : cntN (grR vs 0).1 vs.length = 0 := sumN_zero _ (fun j _ => by have := h.small j; omega)
  refine wrong_no (.inr ⟨h2, ?_⟩)
  rw [h3, few_zero]
  omega
set_option maxHeartbeats 1000000 in
theorem iWrong_is {vs : List Int} (h : Vals vs) : Ev (fun k => impl_FirstWrongGreedy.f k vs) (firstW vs 1000 1) := by
  have hv : ∀ v ∈ vs, 1 ≤ v ∧ v ≤ 1000000 := fun v hv => by have := h.mem v hv; omega
  have hv' : ∀ v ∈ vs, 1 ≤ v := fun v h => (hv v h).1
  have h8 := h.len8
  have hl : ((fewRow vs 1000).length : Int) = 1001 := by rw [fewRow_length]; rfl
  have key : ∀ (d a : Nat), a + d = 1001 → Ev (fun k => impl_FirstWrongGreedy.l0 k vs (fewRow vs 1000) 1001 (a : Int)) (firstW vs d a) := by
    intro d
    induction d with
    | zero =>
      intro a ha
      refine Ev.step (f := fun _ => some (firstW vs 0 a)) (fun k => ?_) (Ev.now _)
      rw [impl_FirstWrongGreedy.l0, if_neg (by omega)]
      rfl
    | succ d ih =>
      intro a ha
      have ih' := ih (a + 1) (by omega)
      have c1 : (a : Int) < 1001 := by omega
      have c2 : (0 : Int) ≤ (a : Int) := by omega
      have c3 : (a : Int) < ((fewRow vs 1000).length : Int) := by omega
      have c4 : a ≤ 1000000 := by omega
      have hf : rd (fewRow vs 1000) (a : Int) = few vs a := by rw [rdn]; exact fewRow_get vs a 1000 (by omega)
      have hg := greedyF_is hv (by omega) a (by omega)
      have hgl := (grR_inv hv' a).len
      by_cases g0 : few vs a < 0
      · rw [firstW, if_neg (by rw [wrong_no (.inl g0)]; decide)]
        refine Ev.step (fun k => ?_) ih'
        rw [impl_FirstWrongGreedy.l0, if_pos c1, if_pos c2, if_pos c3, hf, if_pos g0, w_next c4]
      · by_cases g1 : (grR vs a).2 = 0
        · have hb : ((grR vs a).2 == 0) = true := by rw [g1]; rfl
          refine Ev.step (f := fun k => (impl_sum.f k (grR vs a).1).bind fun t => if t > few vs a then some ((a : Int), 0) else impl_FirstWrongGreedy.l0 k vs (fewRow vs 1000) 1001 ((a + 1 : Nat) : Int)) (fun k => ?_) (Ev.bind (isum_is (by omega) (grR_small hv' a (by omega))) ?_)
          · rw [impl_FirstWrongGreedy.l0, if_pos c1, if_pos c2, if_pos c3, hf, if_neg g0, hg, Option.bind_some, if_pos hb, w_next c4]
          · rw [hgl]
            by_cases g2 : cntN (grR vs a).1 vs.length > few vs a
            · simp only [if_pos g2]
              rw [firstW, if_pos (wrong_yes (by omega) (.inr g2))]
              exact Ev.now _
            · simp only [if_neg g2]
              rw [firstW, if_neg (by rw [wrong_no (.inr ⟨g1, g2⟩)]; decide)]
              exact ih'
        · have hb : ¬ ((grR vs a).2 == 0) = true := by simpa using g1
          rw [firstW, if_pos (wrong_yes (by omega) (.inl g1))]
          refine Ev.step (f := fun _ => some ((a : Int), 0)) (fun k => ?_) (Ev.now _)
          rw [impl_FirstWrongGreedy.l0, if_pos c1, if_pos c2, if_pos c3, hf, if_neg g0, hg, Option.bind_some, if_neg hb]
  have h0 := key 1001 0 (by omega)
  rw [firstW, if_neg (by rw [wrong_zero hv']; decide)] at h0
  unfold impl_FirstWrongGreedy.f
  refine Ev.bind (ValidValues_is h) ?_
  simp only [if_true]
  have hls := leastStamps_is hv (by omega) 1000 (by omega)
  refine Ev.bind hls ?_
  rw [hl]
  exact h0
set_option maxHeartbeats 1000000 in
theorem sWrong_is {vs : List Int} (h : Vals vs) : Ev (fun k => spec_FirstWrongGreedy.f k vs) (firstW vs 1000 1) := by
  have hv : ∀ v ∈ vs, 1 ≤ v ∧ v ≤ 1000000 := fun v hv => by have := h.mem v hv; omega
  have hv' : ∀ v ∈ vs, 1 ≤ v := fun v h => (hv v h).1
  have h8 := h.len8
  have hl : ((fewRow vs 1000).length : Int) = 1001 := by rw [fewRow_length]; rfl
  have key : ∀ (d a : Nat), a + d = 1001 → Ev (fun k => spec_FirstWrongGreedy.l0 k vs (fewRow vs 1000) (a : Int)) (firstW vs d a) := by
    intro d
    induction d with
    | zero =>
      intro a ha
      refine Ev.step (f := fun _ => some (firstW vs 0 a)) (fun k => ?_) (Ev.now _)
      rw [spec_FirstWrongGreedy.l0, if_neg (by omega)]
      rfl
    | succ d ih =>
      intro a ha
      have ih' := ih (a + 1) (by omega)
      have c1 : (a : Int) ≤ 1000 := by omega
      have c2 : (0 : Int) ≤ (a : Int) := by omega
      have c3 : (a : Int) < ((fewRow vs 1000).length : Int) := by omega
      have c4 : a ≤ 1000000 := by omega
      have hf : rd (fewRow vs 1000) (a : Int) = few vs a := by rw [rdn]; exact fewRow_get vs a 1000 (by omega)
      have hp := (grR_inv hv' a).p0
      refine Ev.step (f := fun k => (spec_l01Greedy.f k vs (a : Int)).bind fun bt => if 0 ≤ (a : Int) then (if (a : Int) < ((fewRow vs 1000).length : Int) then (if few vs a ≥ 0 then (if bt.2.2 > 0 then some ((a : Int), 0) else (if bt.2.1 > few vs a then some ((a : Int), 0) else spec_FirstWrongGreedy.l0 k vs (fewRow vs 1000) ((a + 1 : Nat) : Int))) else spec_FirstWrongGreedy.l0 k vs (fewRow vs 1000) ((a + 1 : Nat) : Int)) else none) else none) (fun k => ?_) (Ev.bind (l01Greedy_is hv (by omega) a (by omega)) ?_)
      · rw [spec_FirstWrongGreedy.l0, if_pos c1, hf, w_next c4]
      · simp only [if_pos c2, if_pos c3]
        by_cases g0 : few vs a ≥ 0
        · simp only [if_pos g0]
          by_cases g1 : (grR vs a).2 > 0
          · simp only [if_pos g1]
            rw [firstW, if_pos (wrong_yes g0 (.inl (by omega)))]
            exact Ev.now _
          · simp only [if_neg g1]
            by_cases g2 : cntN (grR vs a).1 vs.length > few vs a
            · simp only [if_pos g2]
              rw [firstW, if_pos (wrong_yes g0 (.inr g2))]
              exact Ev.now _
            · simp only [if_neg g2]
              rw [firstW, if_neg (by rw [wrong_no (.inr ⟨by omega, g2⟩)]; decide)]
              exact ih'
        · simp only [if_neg g0]
          rw [firstW, if_neg (by rw [wrong_no (.inl (by omega))]; decide)]
          exact ih'
  unfold spec_FirstWrongGreedy.f
  refine Ev.bind (l01Values_is h) ?_
  simp only [if_true]
  have hfr : spec_l01Fewest.f vs 1000 = some (fewRow vs 1000) := fewest_is h 1000 (by omega) (by omega)
  rw [hfr]
  exact key 1000 1 (by omega)
end Go.Proofs.Ytlcnjpibfjhibaa.Q
