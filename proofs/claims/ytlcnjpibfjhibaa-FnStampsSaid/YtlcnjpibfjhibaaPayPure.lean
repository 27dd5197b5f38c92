/- What is kept of the great laws' pure texts: CanPay, the fewest stamps by impl's loop. -/
import Derived.Test.YtlcnjpibfjhibaaFewMath
import Derived.Test.YtlcnjpibfjhibaaHFewest
import Derived.Test.YtlcnjpibfjhibaaHPayable
import Derived.Test.YtlcnjpibfjhibaaDraw
import Derived.Test.YtlcnjpibfjhibaaQ6
set_option linter.unusedVariables false
set_option linter.unusedSimpArgs false
namespace Go.Proofs.Ytlcnjpibfjhibaa.Q
open Go.RowKit Go.Proofs.YtlcnjpibfjhibaaW.PrintWords Go.Proofs.Ytlcnjpibfjhibaa.Loops
open Go.Proofs.Ytlcnjpibfjhibaa.Pay
def payB (vs : List Int) (a : Nat) : Bool := decide (0 ≤ few vs a)
theorem payB_iff {vs : List Int} (hv : ∀ v ∈ vs, 1 ≤ v) (a : Nat) : payB vs a = true ↔ Paid vs a := by
  unfold payB
  rw [decide_eq_true_eq]
  exact few_paid hv a
theorem payB_zero (vs : List Int) : payB vs 0 = true := by
  unfold payB
  rw [few_zero]
  rfl
theorem getD_setB (xs : List Bool) (i j : Nat) (x : Bool) (h : i < xs.length) : (xs.set i x).getD j false = if j = i then x else xs.getD j false := by
  by_cases hj : j = i
  · subst hj
    rw [if_pos rfl]
    simp [List.getD_eq_getElem?_getD, h]
  · rw [if_neg hj]
    simp [List.getD_eq_getElem?_getD, List.getElem?_set_ne (Ne.symm hj)]
theorem rowK_spec {vs : List Int} (hv : ∀ v ∈ vs, 1 ≤ v) (n : Nat) : ∀ k, k ≤ n + 1 → (∀ j, j < k → (rowK vs n k).getD j false = payB vs j) ∧ (∀ j, k ≤ j → j ≤ n → ((rowK vs n k).getD j false = true ↔ j = 0)) := by
  intro k
  induction k with
  | zero =>
    intro _
    refine ⟨fun j hj => by omega, fun j h1 h2 => ?_⟩
    rw [rowK]
    cases j with
    | zero => simp
    | succ j =>
      rw [List.getD_eq_getElem?_getD, List.getElem?_cons_succ, List.getElem?_replicate]
      rw [if_pos (by omega)]
      simp
  | succ k ih =>
    intro hk
    obtain ⟨h1, h2⟩ := ih (by omega)
    have hlen : k < (rowK vs n k).length := by rw [rowK_length]; omega
    refine ⟨fun j hj => ?_, fun j h3 h4 => ?_⟩
    · rw [rowK, getD_setB _ _ _ _ hlen]
      by_cases hjk : j = k
      · subst hjk
        rw [if_pos rfl, Bool.eq_iff_iff, payB_iff hv, paid_iff hv, Bool.or_eq_true, h2 j (Nat.le_refl _) (by omega), List.any_eq_true]
        refine or_congr (by omega) ?_
        constructor
        · rintro ⟨v, hm, hq⟩
          rw [Bool.and_eq_true, decide_eq_true_eq] at hq
          obtain ⟨q1, q2⟩ := hq
          have := hv v hm
          rw [h1 _ (by omega), payB_iff hv, show ((((j : Int) - v).toNat : Nat) : Int) = (j : Int) - v by omega] at q2
          exact ⟨v, hm, q1, q2⟩
        · rintro ⟨v, hm, q1, q2⟩
          refine ⟨v, hm, ?_⟩
          have := hv v hm
          rw [Bool.and_eq_true, decide_eq_true_eq, h1 _ (by omega), payB_iff hv, show ((((j : Int) - v).toNat : Nat) : Int) = (j : Int) - v by omega]
          exact ⟨q1, q2⟩
      · rw [if_neg hjk]
        exact h1 j (by omega)
    · rw [rowK, getD_setB _ _ _ _ hlen, if_neg (by omega)]
      exact h2 j (by omega) h4
theorem payL_get {vs : List Int} (hv : ∀ v ∈ vs, 1 ≤ v) (n j : Nat) (h : j ≤ n) : (payL vs n).getD j false = payB vs j := (rowK_spec hv n (n + 1) (Nat.le_refl _)).1 j (by omega)
theorem payL_length (vs : List Int) (n : Nat) : (payL vs n).length = n + 1 := rowK_length vs n (n + 1)
theorem Vals.pos {vs : List Int} (h : Vals vs) : ∀ v ∈ vs, 1 ≤ v := fun v hv => (h.mem v hv).1
theorem payable_is {vs : List Int} (h : Vals vs) (n : Int) (h0 : 0 ≤ n) (h1 : n ≤ 1000000) : impl_payable.f vs n = some (payL vs n.toNat) := by
  unfold impl_payable.f
  rw [if_pos ⟨⟨h0, h1⟩, List.all_eq_true.2 fun v hv => by have := h.mem v hv; simp only [decide_eq_true_eq]; omega⟩]
theorem fewest_is {vs : List Int} (h : Vals vs) (n : Int) (h0 : 0 ≤ n) (h1 : n ≤ 1000000) : spec_l01Fewest.f vs n = some (fewRow vs n.toNat) := by
  unfold spec_l01Fewest.f
  have := h.len8
  rw [if_pos ⟨⟨⟨h0, h1⟩, by omega⟩, List.all_eq_true.2 fun v hv => by have := h.mem v hv; simp only [decide_eq_true_eq]; omega⟩]
theorem rd_payL {vs : List Int} (h : Vals vs) (n j : Nat) (hj : j ≤ n) : rdOf false (payL vs n) (j : Int) = payB vs j := by
  unfold rdOf
  rw [Int.toNat_natCast]
  exact payL_get h.pos n j hj
theorem rd_few (vs : List Int) (n j : Nat) (hj : j ≤ n) : rd (fewRow vs n) (j : Int) = few vs j := by
  unfold rd
  rw [Int.toNat_natCast]
  exact fewRow_get vs j n hj
theorem few_neg (vs : List Int) (j : Nat) : few vs j < 0 ↔ payB vs j = false := by
  unfold payB
  rw [decide_eq_false_iff_not]
  omega
theorem CanPay_is {vs : List Int} (h : Vals vs) (n : Nat) (hn : n ≤ 1000) : Ev (fun k => impl_CanPay.f k vs (n : Int)) (payB vs n, 0) := by
  unfold impl_CanPay.f
  refine Ev.bind (valuesCode_is h (n : Int) 1000 (by omega) (by omega)) (Ev.congr (fun k => ?_) (Ev.now _))
  rw [if_pos rfl, payable_is h (n : Int) (by omega) (by omega), Option.bind_some, payL_length, Int.toNat_natCast, if_pos (by omega), if_pos (by omega), rd_payL h n n (Nat.le_refl _)]
theorem few1_is (out : List Int) (b v : Int) (at_ : Nat) (hv : v ≤ at_) : few1 out (at_ : Int) b v = if 0 ≤ out.getD ((at_ : Int) - v).toNat 0 then (if b < 0 then out.getD ((at_ : Int) - v).toNat 0 + 1 else if out.getD ((at_ : Int) - v).toNat 0 + 1 < b then out.getD ((at_ : Int) - v).toNat 0 + 1 else b) else b := by
  unfold few1 cand
  generalize out.getD ((at_ : Int) - v).toNat 0 = q
  by_cases hq : 0 ≤ q
  · have hc : (if v ≤ (at_ : Int) ∧ 0 ≤ q then q + 1 else -1) = q + 1 := if_pos ⟨hv, hq⟩
    rw [hc, if_pos hq]
    by_cases hb : b < 0
    · rw [if_pos ⟨by omega, .inl hb⟩, if_pos hb]
    · rw [if_neg hb]
      by_cases hl : q + 1 < b
      · rw [if_pos ⟨by omega, .inr hl⟩, if_pos hl]
      · rw [if_neg (fun h => h.2.elim hb hl), if_neg hl]
  · have hc : (if v ≤ (at_ : Int) ∧ 0 ≤ q then q + 1 else -1) = -1 := if_neg (fun h => hq h.2)
    rw [hc, if_neg hq, if_neg (fun h => absurd h.1 (by decide))]
theorem few1_not (out : List Int) (b v : Int) (at_ : Nat) (hv : ¬ v ≤ at_) : few1 out (at_ : Int) b v = b := by
  unfold few1 cand
  have hc : (if v ≤ (at_ : Int) ∧ 0 ≤ out.getD ((at_ : Int) - v).toNat 0 then out.getD ((at_ : Int) - v).toNat 0 + 1 else -1) = -1 := if_neg (fun h => hv h.1)
  rw [hc, if_neg (fun h => absurd h.1 (by decide))]
theorem leastFor_step (out vs : List Int) (at_ i : Nat) (b : Int) (k : Nat) (hi : i < vs.length) (hn : vs.length ≤ 100) (v : Int) (hv : vs.getD i 0 = v) (h1 : 1 ≤ v) (h2 : v ≤ 1000000) (ho : out.length = at_) (ha : at_ ≤ 1000000) (hq : ∀ j, out.getD j 0 ≤ 1000000) :
    impl_leastFor.l0 (k + 1) out (at_ : Int) b vs (vs.length : Int) (i : Int) = impl_leastFor.l0 k out (at_ : Int) (few1 out (at_ : Int) b v) vs (vs.length : Int) ((i + 1 : Nat) : Int) := by
  have e1 : wrap64 ((i : Int) + 1) = ((i + 1 : Nat) : Int) := by rw [wrap_mid (by omega) (by omega)]; omega
  have e8 : rd vs (i : Int) = v := by unfold rd; rw [Int.toNat_natCast]; exact hv
  have e2 : wrap64 ((at_ : Int) - v) = (at_ : Int) - v := wrap_mid (by omega) (by omega)
  have c1 : (i : Int) < (vs.length : Int) := by omega
  have c2 : (0 : Int) ≤ (i : Int) := by omega
  rw [impl_leastFor.l0, e8, e1, e2, if_pos c1, if_pos c2, if_pos c1]
  by_cases hva : v ≤ (at_ : Int)
  · have c3 : 0 ≤ (at_ : Int) - v := by omega
    have c4 : (at_ : Int) - v < (out.length : Int) := by omega
    have hqq := hq ((at_ : Int) - v).toNat
    rw [few1_is _ _ _ _ hva, if_pos hva, if_pos c3, if_pos c4]
    have e9 : rd out ((at_ : Int) - v) = out.getD ((at_ : Int) - v).toNat 0 := rfl
    rw [e9]
    generalize out.getD ((at_ : Int) - v).toNat 0 = q at hqq ⊢
    by_cases hz : 0 ≤ q
    · have e3 : wrap64 (q + 1) = q + 1 := wrap_mid (by omega) (by omega)
      rw [if_pos hz, if_pos (show q ≥ 0 from hz), e3]
      by_cases hb : b < 0
      · rw [if_pos hb, if_pos hb]
      · rw [if_neg hb, if_neg hb]
        by_cases hl : q + 1 < b
        · rw [if_pos hl, if_pos hl]
        · rw [if_neg hl, if_neg hl]
    · rw [if_neg hz, if_neg (show ¬ q ≥ 0 from hz)]
  · rw [few1_not _ _ _ _ hva, if_neg hva]
theorem fewRow_le {vs : List Int} (hv : ∀ v ∈ vs, 1 ≤ v) (a : Nat) (ha : a ≤ 1000000) (j : Nat) : (fewRow vs a).getD j 0 ≤ 1000000 := by
  rcases Nat.lt_or_ge a j with h | h
  · rw [List.getD_eq_getElem?_getD, List.getElem?_eq_none (by rw [fewRow_length]; omega)]
    simp
  · rw [fewRow_get vs j a h]
    have := (few_bound hv j).2
    omega
theorem mem_at {vs : List Int} {i : Nat} (h : i < vs.length) : vs.getD i 0 ∈ vs := by
  rw [List.getD_eq_getElem?_getD, List.getElem?_eq_getElem h]
  exact List.getElem_mem _
theorem leastFor_is {vs : List Int} (hv : ∀ v ∈ vs, 1 ≤ v ∧ v ≤ 1000000) (hn : vs.length ≤ 100) (a : Nat) (ha : a + 1 ≤ 1000000) : Ev (fun k => impl_leastFor.f k vs (fewRow vs a) ((a + 1 : Nat) : Int)) (few vs (a + 1)) := by
  have hq := fewRow_le (fun v h => (hv v h).1) a (by omega)
  have hl := fewRow_length vs a
  rw [few_succ]
  unfold fewFor
  generalize fewRow vs a = out at hq hl
  have key : ∀ (d i : Nat) (b : Int), vs.length - i = d → i ≤ vs.length → Ev (fun k => impl_leastFor.l0 k out ((a + 1 : Nat) : Int) b vs (vs.length : Int) (i : Int)) ((vs.drop i).foldl (few1 out ((a + 1 : Nat) : Int)) b) := by
    intro d
    induction d with
    | zero =>
      intro i b hd hi
      rw [List.drop_of_length_le (by omega)]
      refine Ev.step (f := fun _ => some b) (fun k => ?_) (Ev.now _)
      simp only [impl_leastFor.l0]
      rw [if_neg (by omega)]
    | succ d ih =>
      intro i b hd hi
      have hi2 : i < vs.length := by omega
      have hm := hv _ (mem_at hi2)
      rw [drop_at vs 0 i hi2, List.foldl_cons]
      exact Ev.step (fun k => leastFor_step out vs (a + 1) i b k hi2 hn _ rfl hm.1 hm.2 hl ha hq) (ih (i + 1) _ (by omega) (by omega))
  exact key _ 0 (-1) rfl (Nat.zero_le _)
end Go.Proofs.Ytlcnjpibfjhibaa.Q
