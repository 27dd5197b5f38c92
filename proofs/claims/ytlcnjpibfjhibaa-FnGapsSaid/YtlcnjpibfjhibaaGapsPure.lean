/- Gaps, over the printed functions alone: the amounts that cannot be paid, both sides' lists of them, divisors, the least one that is not less. -/
import Derived.Test.YtlcnjpibfjhibaaDraw
import Derived.Test.YtlcnjpibfjhibaaQG
set_option linter.unusedVariables false
set_option linter.unusedSimpArgs false
namespace Go.Proofs.Ytlcnjpibfjhibaa.Q
open Go.RowKit Go.Proofs.YtlcnjpibfjhibaaW.PrintWords Go.Proofs.Ytlcnjpibfjhibaa.Loops
open Go.Proofs.Ytlcnjpibfjhibaa.Pay
/-- Whether an amount can be paid. -/
def payB (vs : List Int) (a : Nat) : Bool := decide (0 ≤ few vs a)
theorem payB_iff {vs : List Int} (hv : ∀ v ∈ vs, 1 ≤ v) (a : Nat) : payB vs a = true ↔ Paid vs a := by
  unfold payB
  rw [decide_eq_true_eq]
  exact few_paid hv a
theorem payB_zero (vs : List Int) : payB vs 0 = true := by
  unfold payB
  rw [few_zero]
  rfl
theorem getD_setB (xs : List Bool) (i j : Nat) (x : Bool) (h : i < xs.length) : (xs.set i x).getD j false = if j = i then x else xs.getD j false := by
  by_cases hj : j = i
  · subst hj
    rw [if_pos rfl]
    simp [List.getD_eq_getElem?_getD, h]
  · rw [if_neg hj]
    simp [List.getD_eq_getElem?_getD, List.getElem?_set_ne (Ne.symm hj)]
theorem rowK_spec {vs : List Int} (hv : ∀ v ∈ vs, 1 ≤ v) (n : Nat) : ∀ k, k ≤ n + 1 → (∀ j, j < k → (rowK vs n k).getD j false = payB vs j) ∧ (∀ j, k ≤ j → j ≤ n → ((rowK vs n k).getD j false = true ↔ j = 0)) := by
  intro k
  induction k with
  | zero =>
    intro _
    refine ⟨fun j hj => by omega, fun j h1 h2 => ?_⟩
    rw [rowK]
    cases j with
    | zero => simp
    | succ j =>
      rw [List.getD_eq_getElem?_getD, List.getElem?_cons_succ, List.getElem?_replicate]
      rw [if_pos (by omega)]
      simp
  | succ k ih =>
    intro hk
    obtain ⟨h1, h2⟩ := ih (by omega)
    have hlen : k < (rowK vs n k).length := by rw [rowK_length]; omega
    refine ⟨fun j hj => ?_, fun j h3 h4 => ?_⟩
    · rw [rowK, getD_setB _ _ _ _ hlen]
      by_cases hjk : j = k
      · subst hjk
        rw [if_pos rfl, Bool.eq_iff_iff, payB_iff hv, paid_iff hv, Bool.or_eq_true, h2 j (Nat.le_refl _) (by omega), List.any_eq_true]
        refine or_congr (by omega) ?_
        constructor
        · rintro ⟨v, hm, hq⟩
          rw [Bool.and_eq_true, decide_eq_true_eq] at hq
          obtain ⟨q1, q2⟩ := hq
          have := hv v hm
          rw [h1 _ (by omega), payB_iff hv, show ((((j : Int) - v).toNat : Nat) : Int) = (j : Int) - v by omega] at q2
          exact ⟨v, hm, q1, q2⟩
        · rintro ⟨v, hm, q1, q2⟩
          refine ⟨v, hm, ?_⟩
          have := hv v hm
          rw [Bool.and_eq_true, decide_eq_true_eq, h1 _ (by omega), payB_iff hv, show ((((j : Int) - v).toNat : Nat) : Int) = (j : Int) - v by omega]
          exact ⟨q1, q2⟩
      · rw [if_neg hjk]
        exact h1 j (by omega)
    · rw [rowK, getD_setB _ _ _ _ hlen, if_neg (by omega)]
      exact h2 j (by omega) h4
theorem payL_get {vs : List Int} (hv : ∀ v ∈ vs, 1 ≤ v) (n j : Nat) (h : j ≤ n) : (payL vs n).getD j false = payB vs j := (rowK_spec hv n (n + 1) (Nat.le_refl _)).1 j (by omega)
theorem payL_length (vs : List Int) (n : Nat) : (payL vs n).length = n + 1 := rowK_length vs n (n + 1)
theorem Vals.pos {vs : List Int} (h : Vals vs) : ∀ v ∈ vs, 1 ≤ v := fun v hv => (h.mem v hv).1
theorem payable_is {vs : List Int} (h : Vals vs) (n : Int) (h0 : 0 ≤ n) (h1 : n ≤ 1000000) : impl_payable.f vs n = some (payL vs n.toNat) := by
  unfold impl_payable.f
  rw [if_pos ⟨⟨h0, h1⟩, List.all_eq_true.2 fun v hv => by have := h.mem v hv; simp only [decide_eq_true_eq]; omega⟩]
theorem fewest_is {vs : List Int} (h : Vals vs) (n : Int) (h0 : 0 ≤ n) (h1 : n ≤ 1000000) : spec_l01Fewest.f vs n = some (fewRow vs n.toNat) := by
  unfold spec_l01Fewest.f
  have := h.len8
  rw [if_pos ⟨⟨⟨h0, h1⟩, by omega⟩, List.all_eq_true.2 fun v hv => by have := h.mem v hv; simp only [decide_eq_true_eq]; omega⟩]
theorem rd_payL {vs : List Int} (h : Vals vs) (n j : Nat) (hj : j ≤ n) : rdOf false (payL vs n) (j : Int) = payB vs j := by
  unfold rdOf
  rw [Int.toNat_natCast]
  exact payL_get h.pos n j hj
theorem rd_few (vs : List Int) (n j : Nat) (hj : j ≤ n) : rd (fewRow vs n) (j : Int) = few vs j := by
  unfold rd
  rw [Int.toNat_natCast]
  exact fewRow_get vs j n hj
theorem few_neg (vs : List Int) (j : Nat) : few vs j < 0 ↔ payB vs j = false := by
  unfold payB
  rw [decide_eq_false_iff_not]
  omega
/-- The gaps below i. -/
def gapsTo (vs : List Int) : Nat → List Int
  | 0 => []
  | i + 1 => if payB vs i = true then gapsTo vs i else gapsTo vs i ++ [(i : Int)]
theorem gapsTo_length (vs : List Int) : ∀ i, (gapsTo vs i).length ≤ i
  | 0 => Nat.le_refl _
  | i + 1 => by
    have := gapsTo_length vs i
    rw [gapsTo]
    split
    · omega
    · rw [List.length_append, List.length_singleton]; omega
theorem gapsTo_mem (vs : List Int) (a : Nat) : ∀ i, (gapsTo vs i).contains (a : Int) = (decide (a < i) && !payB vs a)
  | 0 => by simp [gapsTo]
  | i + 1 => by
    have ih := gapsTo_mem vs a i
    rw [gapsTo]
    by_cases hp : payB vs i = true
    · rw [if_pos hp, ih]
      by_cases ha : a = i
      · subst ha
        simp [hp]
      · have : decide (a < i) = decide (a < i + 1) := by rw [decide_eq_decide]; omega
        rw [this]
    · rw [if_neg hp, List.contains_append, ih]
      by_cases ha : a = i
      · subst ha
        simp [hp]
      · have : decide (a < i) = decide (a < i + 1) := by rw [decide_eq_decide]; omega
        rw [this]
        have h2 : ([(i : Int)].contains (a : Int)) = false := by
          simp only [List.contains_cons, List.contains_nil, Bool.or_false, beq_eq_false_iff_ne]
          omega
        rw [h2, Bool.or_false]
theorem gapsTo_keep (vs : List Int) (g : Nat) : ∀ n, g < n → (∀ a, g < a → a < n → payB vs a = true) → gapsTo vs n = gapsTo vs (g + 1)
  | 0, h, _ => by omega
  | n + 1, h, hp => by
    rcases Nat.lt_or_ge g n with hlt | hge
    · rw [gapsTo, if_pos (hp n hlt (by omega))]
      exact gapsTo_keep vs g n hlt (fun a h1 h2 => hp a h1 (by omega))
    · have : n = g := by omega
      subst this
      rfl
theorem GapsUpTo_is {vs : List Int} (h : Vals vs) (n : Nat) (hn : n ≤ 1000) : Ev (fun k => impl_GapsUpTo.f k vs (n : Int)) (gapsTo vs (n + 1), 0) := by
  have key : ∀ (d i : Nat), n + 1 - i = d → i ≤ n + 1 → Ev (fun k => impl_GapsUpTo.l0 k (gapsTo vs i) (payL vs n) ((n + 1 : Nat) : Int) (i : Int)) (gapsTo vs (n + 1), 0) := by
    intro d
    induction d with
    | zero =>
      intro i hd hi
      have e : i = n + 1 := by omega
      refine Ev.step (f := fun _ => some (gapsTo vs (n + 1), 0)) (fun k => ?_) (Ev.now _)
      simp only [impl_GapsUpTo.l0]
      rw [if_neg (by omega), e]
    | succ d ih =>
      intro i hd hi
      have e2 : wrap64 ((i : Int) + 1) = ((i + 1 : Nat) : Int) := by rw [wrap_mid (by omega) (by omega)]; omega
      have hl := gapsTo_length vs i
      have hi2 := ih (i + 1) (by omega) (by omega)
      have hr := rd_payL h n i (by omega)
      rw [gapsTo] at hi2
      cases hp : payB vs i with
      | true =>
        rw [if_pos hp] at hi2
        refine Ev.step (fun k => ?_) hi2
        simp only [impl_GapsUpTo.l0]
        rw [if_pos (by omega), if_pos (by omega), if_pos (by rw [payL_length]; omega), hr, hp, if_pos rfl, e2]
      | false =>
        rw [if_neg (by rw [hp]; simp)] at hi2
        refine Ev.step (fun k => ?_) hi2
        simp only [impl_GapsUpTo.l0]
        rw [if_pos (by omega), if_pos (by omega), if_pos (by rw [payL_length]; omega), hr, hp, if_neg (by simp), if_pos (by omega), e2]
  unfold impl_GapsUpTo.f
  refine Ev.bind (valuesCode_is h (n : Int) 1000 (by omega) (by omega)) (Ev.congr (fun k => ?_) (key _ 0 rfl (by omega)))
  rw [if_pos rfl, payable_is h (n : Int) (by omega) (by omega), Option.bind_some, payL_length, Int.toNat_natCast]
  rfl
theorem sGapsUpTo_is {vs : List Int} (h : Vals vs) (n : Nat) (hn : n ≤ 1000) : Ev (fun k => spec_GapsUpTo.f k vs (n : Int)) (gapsTo vs (n + 1), 0) := by
  have key : ∀ (d i : Nat), n + 1 - i = d → i ≤ n + 1 → Ev (fun k => spec_GapsUpTo.l0 k (n : Int) (gapsTo vs i) (fewRow vs n) (i : Int)) (gapsTo vs (n + 1), 0) := by
    intro d
    induction d with
    | zero =>
      intro i hd hi
      have e : i = n + 1 := by omega
      refine Ev.step (f := fun _ => some (gapsTo vs (n + 1), 0)) (fun k => ?_) (Ev.now _)
      simp only [spec_GapsUpTo.l0]
      rw [if_neg (by omega), e]
    | succ d ih =>
      intro i hd hi
      have e2 : wrap64 ((i : Int) + 1) = ((i + 1 : Nat) : Int) := by rw [wrap_mid (by omega) (by omega)]; omega
      have hl := gapsTo_length vs i
      have hi2 := ih (i + 1) (by omega) (by omega)
      have hr := rd_few vs n i (by omega)
      rw [gapsTo] at hi2
      cases hp : payB vs i with
      | true =>
        rw [if_pos hp] at hi2
        have hn0 : ¬ few vs i < 0 := fun hh => by rw [(few_neg vs i).1 hh] at hp; cases hp
        refine Ev.step (fun k => ?_) hi2
        simp only [spec_GapsUpTo.l0]
        rw [if_pos (by omega), if_pos (by omega), if_pos (by rw [fewRow_length]; omega), hr, if_neg hn0, e2]
      | false =>
        rw [if_neg (by rw [hp]; simp)] at hi2
        refine Ev.step (fun k => ?_) hi2
        simp only [spec_GapsUpTo.l0]
        rw [if_pos (by omega), if_pos (by omega), if_pos (by rw [fewRow_length]; omega), hr, if_pos ((few_neg vs i).2 hp), if_pos (by omega), e2]
  have h1 : gapsTo vs 1 = [] := by rw [gapsTo, payB_zero]; rfl
  have h2 := key _ 1 rfl (by omega)
  rw [h1] at h2
  unfold spec_GapsUpTo.f
  simp only [Option.bind_some, l01Postage_is (n : Int) (by omega) (by omega)]
  refine Ev.bind (l01Asked_is h) (Ev.congr (fun k => ?_) h2)
  rw [if_pos rfl, fewest_is h (n : Int) (by omega) (by omega), Option.bind_some, Int.toNat_natCast]
  rfl
theorem CanPay_is {vs : List Int} (h : Vals vs) (n : Nat) (hn : n ≤ 1000) : Ev (fun k => impl_CanPay.f k vs (n : Int)) (payB vs n, 0) := by
  unfold impl_CanPay.f
  refine Ev.bind (valuesCode_is h (n : Int) 1000 (by omega) (by omega)) (Ev.congr (fun k => ?_) (Ev.now _))
  rw [if_pos rfl, payable_is h (n : Int) (by omega) (by omega), Option.bind_some, payL_length, Int.toNat_natCast, if_pos (by omega), if_pos (by omega), rd_payL h n n (Nat.le_refl _)]
/-- The least amount from p on that can be paid. -/
theorem over_ex {vs : List Int} (h : Vals vs) (p : Nat) : ∃ m, p ≤ m ∧ (m : Int) < p + vs.getD 0 0 ∧ payB vs m = true ∧ ∀ a, p ≤ a → a < m → payB vs a = false := by
  have h1 := h.len1
  have hm : vs.getD 0 0 ∈ vs := by rw [List.getD_eq_getElem?_getD, List.getElem?_eq_getElem (by omega)]; exact List.getElem_mem _
  have hv := h.mem _ hm
  obtain ⟨v, hvn⟩ : ∃ v : Nat, vs.getD 0 0 = v := ⟨(vs.getD 0 0).toNat, by omega⟩
  rw [hvn] at hm hv ⊢
  have hx : ∃ d, d < v ∧ payB vs (p + d) = true := by
    refine ⟨(v - p % v) % v, Nat.mod_lt _ (by omega), ?_⟩
    rw [payB_iff h.pos]
    have hd : v ∣ p + (v - p % v) % v := by
      apply Nat.dvd_of_mod_eq_zero
      rw [Nat.add_mod_mod]
      have hlt := Nat.mod_lt p (show v > 0 by omega)
      have hdm := Nat.div_add_mod p v
      rw [show p + (v - p % v) = v * (p / v) + v by omega, Nat.add_mod_right, Nat.mul_mod_right]
    obtain ⟨k, hk⟩ := hd
    rw [hk, Int.natCast_mul]
    exact Paid.mul hm k
  obtain ⟨d, hd, hp⟩ := hx
  have key : ∀ n, (∃ d, d < n ∧ payB vs (p + d) = true) → ∃ d, d < n ∧ payB vs (p + d) = true ∧ ∀ e, e < d → payB vs (p + e) = false := by
    intro n
    induction n with
    | zero => rintro ⟨d, hd, _⟩; omega
    | succ n ih =>
      rintro ⟨d, hd, hp⟩
      by_cases hx : ∃ d, d < n ∧ payB vs (p + d) = true
      · obtain ⟨d, h1, h2, h3⟩ := ih hx
        exact ⟨d, by omega, h2, h3⟩
      · have hdn : d = n := by
          rcases Nat.lt_or_ge d n with hlt | hge
          · exact absurd ⟨d, hlt, hp⟩ hx
          · omega
        subst hdn
        refine ⟨d, hd, hp, fun e he => ?_⟩
        cases hq : payB vs (p + e) with
        | false => rfl
        | true => exact absurd ⟨e, he, hq⟩ hx
  obtain ⟨d, h2, h3, h4⟩ := key v ⟨d, hd, hp⟩
  refine ⟨p + d, by omega, by omega, h3, fun a ha hb => ?_⟩
  have := h4 (a - p) (by omega)
  rwa [show p + (a - p) = a by omega] at this
theorem LeastOver_is {vs : List Int} (h : Vals vs) (p m : Nat) (hp : p ≤ 1000) (h1 : p ≤ m) (h2 : m ≤ p + 500) (h3 : payB vs m = true) (h4 : ∀ a, p ≤ a → a < m → payB vs a = false) :
    Ev (fun k => impl_LeastOver.f k vs (p : Int)) ((m : Int), 0) := by
  have key : ∀ (d i : Nat), m - i = d → p ≤ i → i ≤ m → Ev (fun k => impl_LeastOver.l0 k (i : Int) (payL vs (p + 500))) ((m : Int), 0) := by
    intro d
    induction d with
    | zero =>
      intro i hd hi hi2
      have e : i = m := by omega
      refine Ev.step (f := fun _ => some ((m : Int), 0)) (fun k => ?_) (Ev.now _)
      simp only [impl_LeastOver.l0]
      rw [if_pos (by omega), if_pos (by rw [payL_length]; omega), rd_payL h _ i (by omega), e, h3, if_pos rfl]
    | succ d ih =>
      intro i hd hi hi2
      have e2 : wrap64 ((i : Int) + 1) = ((i + 1 : Nat) : Int) := by rw [wrap_mid (by omega) (by omega)]; omega
      refine Ev.step (fun k => ?_) (ih (i + 1) (by omega) (by omega) (by omega))
      simp only [impl_LeastOver.l0]
      rw [if_pos (by omega), if_pos (by rw [payL_length]; omega), rd_payL h _ i (by omega), h4 i hi (by omega), if_neg (by simp), e2]
  unfold impl_LeastOver.f
  refine Ev.bind (valuesCode_is h (p : Int) 1000 (by omega) (by omega)) (Ev.congr (fun k => ?_) (key _ p rfl (Nat.le_refl _) h1))
  have e1 : wrap64 ((p : Int) + 500) = ((p + 500 : Nat) : Int) := by rw [wrap_mid (by omega) (by omega)]; omega
  rw [if_pos rfl, e1, payable_is h _ (by omega) (by omega), Option.bind_some, Int.toNat_natCast]
theorem sLeastOver_is {vs : List Int} (h : Vals vs) (p m : Nat) (hp : p ≤ 1000) (h1 : p ≤ m) (h2 : m ≤ p + 500) (h3 : payB vs m = true) (h4 : ∀ a, p ≤ a → a < m → payB vs a = false) :
    Ev (fun k => spec_LeastOver.f k vs (p : Int)) ((m : Int), 0) := by
  have key : ∀ (d i : Nat), m - i = d → p ≤ i → i ≤ m → Ev (fun k => spec_LeastOver.l0 k (i : Int) (fewRow vs (p + 500))) ((m : Int), 0) := by
    intro d
    induction d with
    | zero =>
      intro i hd hi hi2
      have e : i = m := by omega
      have hn0 : ¬ few vs m < 0 := fun hh => by rw [(few_neg vs m).1 hh] at h3; cases h3
      refine Ev.step (f := fun _ => some ((m : Int), 0)) (fun k => ?_) (Ev.now _)
      simp only [spec_LeastOver.l0]
      rw [if_pos (by omega), if_pos (by rw [fewRow_length]; omega), rd_few vs _ i (by omega), e, if_neg hn0]
    | succ d ih =>
      intro i hd hi hi2
      have e2 : wrap64 ((i : Int) + 1) = ((i + 1 : Nat) : Int) := by rw [wrap_mid (by omega) (by omega)]; omega
      refine Ev.step (fun k => ?_) (ih (i + 1) (by omega) (by omega) (by omega))
      simp only [spec_LeastOver.l0]
      rw [if_pos (by omega), if_pos (by rw [fewRow_length]; omega), rd_few vs _ i (by omega), if_pos ((few_neg vs i).2 (h4 i hi (by omega))), e2]
  unfold spec_LeastOver.f
  simp only [Option.bind_some, l01Postage_is (p : Int) (by omega) (by omega)]
  refine Ev.bind (l01Asked_is h) (Ev.congr (fun k => ?_) (key _ p rfl (Nat.le_refl _) h1))
  have e1 : wrap64 ((p : Int) + 500) = ((p + 500 : Nat) : Int) := by rw [wrap_mid (by omega) (by omega)]; omega
  rw [if_pos rfl, e1, fewest_is h _ (by omega) (by omega), Option.bind_some, Int.toNat_natCast]
/-- Divisors. -/
theorem divisor_is : ∀ (b a : Nat), Ev (fun k => impl_divisor.l0 k (a : Int) (b : Int)) ((Nat.gcd b a : Nat) : Int) := by
  intro b
  induction b using Nat.strongRecOn with
  | ind b ih =>
    intro a
    rcases Nat.eq_zero_or_pos b with rfl | hp
    · refine Ev.step (f := fun _ => some (a : Int)) (fun k => ?_) (by rw [Nat.gcd_zero_left]; exact Ev.now _)
      simp only [impl_divisor.l0]
      rw [if_pos (show ((0 : Nat) : Int) = 0 from rfl)]
    · have := ih (a % b) (Nat.mod_lt _ hp) b
      rw [← Nat.gcd_rec b a] at this
      refine Ev.step (fun k => ?_) this
      simp only [impl_divisor.l0]
      rw [if_neg (by omega), Int.tmod_eq_emod_of_nonneg (by omega), ← Int.natCast_emod]
theorem common_is : ∀ (b a : Nat), Ev (fun k => spec_l01Common.l0 k (a : Int) (b : Int)) ((Nat.gcd b a : Nat) : Int) := by
  intro b
  induction b using Nat.strongRecOn with
  | ind b ih =>
    intro a
    rcases Nat.eq_zero_or_pos b with rfl | hp
    · refine Ev.step (f := fun _ => some (a : Int)) (fun k => ?_) (by rw [Nat.gcd_zero_left]; exact Ev.now _)
      simp only [spec_l01Common.l0]
      rw [if_neg (by omega)]
    · have := ih (a % b) (Nat.mod_lt _ hp) b
      rw [← Nat.gcd_rec b a] at this
      refine Ev.step (fun k => ?_) this
      simp only [spec_l01Common.l0]
      rw [if_pos (by omega), if_neg (by omega), Int.tmod_eq_emod_of_nonneg (by omega), ← Int.natCast_emod]
def gcdTo (vs : List Int) (i : Nat) : Nat := (vs.take i).foldl (fun g v => Nat.gcd g v.toNat) 0
theorem gcdTo_succ (vs : List Int) (i : Nat) (h : i < vs.length) : gcdTo vs (i + 1) = Nat.gcd (gcdTo vs i) (vs.getD i 0).toNat := by
  unfold gcdTo
  rw [List.take_succ_eq_append_getElem h, List.foldl_append, List.getD_eq_getElem?_getD, List.getElem?_eq_getElem h]
  rfl
theorem gcdTo_all (vs : List Int) : gcdTo vs vs.length = gcdL vs := by
  unfold gcdTo gcdL
  rw [List.take_length]
theorem gcdTo_pos {vs : List Int} (hv : ∀ v ∈ vs, 1 ≤ v) : ∀ i, 1 ≤ i → i ≤ vs.length → 1 ≤ gcdTo vs i := by
  intro i
  induction i with
  | zero => intro h; omega
  | succ i ih =>
    intro _ hi
    have hm : vs.getD i 0 ∈ vs := by rw [List.getD_eq_getElem?_getD, List.getElem?_eq_getElem (by omega)]; exact List.getElem_mem _
    have := hv _ hm
    rw [gcdTo_succ vs i (by omega)]
    exact Nat.gcd_pos_of_pos_right _ (by omega)
end Go.Proofs.Ytlcnjpibfjhibaa.Q
