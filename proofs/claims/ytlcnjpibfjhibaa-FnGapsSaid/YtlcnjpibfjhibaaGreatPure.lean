/- The greatest gap, over the printed functions alone: impl's search from above, spec's search among the residues. -/
import Derived.Test.YtlcnjpibfjhibaaGapsPure
set_option linter.unusedVariables false
set_option linter.unusedSimpArgs false
namespace Go.Proofs.Ytlcnjpibfjhibaa.Q
open Go.RowKit Go.Proofs.YtlcnjpibfjhibaaW.PrintWords Go.Proofs.Ytlcnjpibfjhibaa.Loops
open Go.Proofs.Ytlcnjpibfjhibaa.Pay
attribute [local irreducible] payL
theorem getD_mem (vs : List Int) (i : Nat) (h : i < vs.length) : vs.getD i 0 ∈ vs := by
  rw [List.getD_eq_getElem?_getD, List.getElem?_eq_getElem h]
  exact List.getElem_mem _
theorem rd_nat (l : List Int) (i : Nat) : rd l (i : Int) = l.getD i 0 := by
  unfold rd
  rw [Int.toNat_natCast]
theorem Vals.first {vs : List Int} (h : Vals vs) : ∀ i, i < vs.length → vs.getD 0 0 ≤ vs.getD i 0 := by
  intro i
  induction i with
  | zero => intro _; exact Int.le_refl _
  | succ i ih =>
    intro hi
    have := ih (by omega)
    have := h.rise i hi
    omega
theorem Vals.two {vs : List Int} (h : Vals vs) (h1 : vs.getD 0 0 ≠ 1) : ∀ v ∈ vs, 2 ≤ v := by
  intro v hv
  obtain ⟨i, hi, rfl⟩ := List.getElem_of_mem hv
  have h0 := h.mem _ (getD_mem vs 0 (by have := h.len1; omega))
  have := h.first i hi
  rw [getD_at vs 0 i hi] at this
  omega
/-- What is told of the greatest gap: the same on both sides. -/
structure GapIs (vs : List Int) (g : Int) : Prop where
  low : 1 ≤ g
  high : g ≤ 250000
  not : ¬ Paid vs g
  all : ∀ a, g < a → Paid vs a
theorem GapIs.eq {vs : List Int} {g g' : Int} (h : GapIs vs g) (h' : GapIs vs g') : g = g' := by
  rcases Int.lt_trichotomy g g' with h1 | h1 | h1
  · exact absurd (h.all _ h1) h'.not
  · exact h1
  · exact absurd (h'.all _ h1) h.not
/-- impl's side. -/
theorem GreatestGap_is {vs : List Int} (h : Vals vs) : (1 < gcdL vs → Ev (fun k => impl_GreatestGap.f k vs) (0, 4)) ∧ (gcdL vs = 1 → vs.getD 0 0 = 1 → Ev (fun k => impl_GreatestGap.f k vs) (0, 6)) ∧
    (gcdL vs = 1 → vs.getD 0 0 ≠ 1 → ∀ g, GapIs vs g → Ev (fun k => impl_GreatestGap.f k vs) (g, 0)) := by
  have h1 := h.len1
  have h8 := h.len8
  have start : ∀ r, Ev (fun k => impl_GreatestGap.l0 k vs ((gcdTo vs vs.length : Nat) : Int) vs (vs.length : Int) ((vs.length : Nat) : Int)) r → Ev (fun k => impl_GreatestGap.f k vs) r := by
    intro r hr
    have key : ∀ (d i : Nat), vs.length - i = d → i ≤ vs.length → Ev (fun k => impl_GreatestGap.l0 k vs ((gcdTo vs i : Nat) : Int) vs (vs.length : Int) (i : Int)) r := by
      intro d
      induction d with
      | zero =>
        intro i hd hi
        have e : i = vs.length := by omega
        rw [e]
        exact hr
      | succ d ih =>
        intro i hd hi
        have hm := h.mem _ (getD_mem vs i (by omega))
        have e2 : wrap64 ((i : Int) + 1) = ((i + 1 : Nat) : Int) := by rw [wrap_mid (by omega) (by omega)]; omega
        have hi2 := ih (i + 1) (by omega) (by omega)
        have hdv := divisor_is (gcdTo vs i) (vs.getD i 0).toNat
        rw [← gcdTo_succ vs i (by omega), show (((vs.getD i 0).toNat : Nat) : Int) = vs.getD i 0 by omega] at hdv
        refine Ev.step (f := fun k => (impl_divisor.f k (vs.getD i 0) ((gcdTo vs i : Nat) : Int)).bind fun t => impl_GreatestGap.l0 k vs t vs (vs.length : Int) ((i + 1 : Nat) : Int)) (fun k => ?_) ?_
        · simp only [impl_GreatestGap.l0]
          rw [if_pos (by omega), if_pos (by omega), if_pos (by omega), rd_nat, e2]
        · exact Ev.bind (Ev.congr (fun k => rfl) hdv) hi2
    unfold impl_GreatestGap.f
    refine Ev.bind (ValidValues_is h) (Ev.congr (fun k => ?_) (key _ 0 rfl (Nat.zero_le _)))
    rw [if_pos rfl]
    rfl
  rw [gcdTo_all] at start
  refine ⟨fun hg => ?_, fun hg h0 => ?_, fun hg h0 g hG => ?_⟩
  · refine start _ (Ev.step (f := fun _ => some (0, 4)) (fun k => ?_) (Ev.now _))
    simp only [impl_GreatestGap.l0]
    rw [if_neg (by omega), if_pos (by omega)]
  · refine start _ (Ev.step (f := fun _ => some (0, 6)) (fun k => ?_) (Ev.now _))
    simp only [impl_GreatestGap.l0]
    rw [if_neg (by omega), if_neg (by omega), if_pos (by omega), if_pos (by rw [show (0 : Int) = ((0 : Nat) : Int) from rfl, rd_nat]; exact h0)]
  · obtain ⟨n, hn⟩ : ∃ n : Nat, g = n := ⟨g.toNat, by have := hG.low; omega⟩
    subst hn
    have hh := hG.high
    have key : ∀ (d i : Nat), i - n = d → n ≤ i → i ≤ 250000 → Ev (fun k => impl_GreatestGap.l1 k (payL vs 250000) (i : Int)) ((n : Int), 0) := by
      intro d
      induction d with
      | zero =>
        intro i hd hi hi2
        have e : i = n := by omega
        have hp : payB vs n = false := by
          cases hq : payB vs n with
          | false => rfl
          | true => exact absurd ((payB_iff h.pos n).1 hq) hG.not
        refine Ev.step (f := fun _ => some ((n : Int), 0)) (fun k => ?_) (Ev.now _)
        simp only [impl_GreatestGap.l1]
        rw [if_pos (by omega), if_pos (by rw [payL_length]; omega), rd_payL h _ i (by omega), e, hp, if_neg (by simp)]
      | succ d ih =>
        intro i hd hi hi2
        have hp : payB vs i = true := (payB_iff h.pos i).2 (hG.all _ (by omega))
        have e2 : wrap64 ((i : Int) - 1) = ((i - 1 : Nat) : Int) := by rw [wrap_mid (by omega) (by omega)]; omega
        refine Ev.step (fun k => ?_) (ih (i - 1) (by omega) (by omega) (by omega))
        simp only [impl_GreatestGap.l1]
        rw [if_pos (by omega), if_pos (by rw [payL_length]; omega), rd_payL h _ i (by omega), hp, if_pos rfl, e2]
    refine start _ (Ev.step (fun k => ?_) (key _ 250000 rfl (by omega) (Nat.le_refl _)))
    have e3 : wrap64 (((250000 + 1 : Nat) : Int) - 1) = ((250000 : Nat) : Int) := by rw [wrap_mid (by omega) (by omega)]; omega
    simp only [impl_GreatestGap.l0]
    rw [if_neg (by omega), if_neg (by omega), if_pos (by omega), if_neg (by rw [show (0 : Int) = ((0 : Nat) : Int) from rfl, rd_nat]; exact h0), payable_is h 250000 (by omega) (by omega), Option.bind_some, show (250000 : Int).toNat = 250000 from rfl, payL_length, e3]
/-- How much is left till all is told: the sum over the residues. -/
def left1 (x : Int) : Nat := if x < 0 then 1000000 else x.toNat
def leftL (L : List Int) : Nat := (L.map left1).sum
def setN (L : List Int) : Nat := L.countP fun x => decide (0 ≤ x)
theorem leftL_set : ∀ (L : List Int) (i : Nat) (x : Int), i < L.length → leftL (L.set i x) + left1 (L.getD i 0) = leftL L + left1 x
  | [], i, x, h => by simp at h
  | y :: L, 0, x, h => by simp [leftL]; omega
  | y :: L, i + 1, x, h => by
    have := leftL_set L i x (by simpa using h)
    simp only [leftL, List.set_cons_succ, List.map_cons, List.sum_cons, List.getD_eq_getElem?_getD, List.getElem?_cons_succ] at this ⊢
    omega
theorem setN_set : ∀ (L : List Int) (i : Nat) (x : Int), i < L.length → setN (L.set i x) + (if 0 ≤ L.getD i 0 then 1 else 0) = setN L + (if 0 ≤ x then 1 else 0)
  | [], i, x, h => by simp at h
  | y :: L, 0, x, h => by
    simp only [setN, List.set_cons_zero, List.countP_cons, List.getD_eq_getElem?_getD, List.getElem?_cons_zero, Option.getD_some, decide_eq_true_eq]
    omega
  | y :: L, i + 1, x, h => by
    have := setN_set L i x (by simpa using h)
    simp only [setN, List.set_cons_succ, List.countP_cons, List.getD_eq_getElem?_getD, List.getElem?_cons_succ] at this ⊢
    omega
theorem setN_le (L : List Int) : setN L ≤ L.length := List.countP_le_length
theorem getD_set (xs : List Int) (i j : Nat) (x : Int) (h : i < xs.length) : (xs.set i x).getD j 0 = if j = i then x else xs.getD j 0 := by
  by_cases hj : j = i
  · subst hj
    rw [if_pos rfl, getD_set_self _ _ _ h]
  · rw [if_neg hj, getD_set_ne _ _ _ _ (Ne.symm hj)]
/-- The residues' table while it is filled. -/
structure Tab (vs : List Int) (n : Nat) (L : List Int) : Prop where
  len : L.length = n
  zero : L.getD 0 0 = 0
  at_ : ∀ r, r < n → L.getD r 0 = -1 ∨ (0 ≤ L.getD r 0 ∧ Paid vs (L.getD r 0) ∧ L.getD r 0 % (n : Int) = r ∧ L.getD r 0 ≤ 500 * (setN L : Int))
/-- Where v leads from residue r. -/
def to_ (n r : Nat) (v : Int) : Nat := (((r : Int) + v) % (n : Int)).toNat
theorem to_lt {n r : Nat} {v : Int} (hn : 0 < n) : to_ n r v < n := by
  unfold to_
  have := Int.emod_lt_of_pos ((r : Int) + v) (show (0 : Int) < n by omega)
  have := Int.emod_nonneg ((r : Int) + v) (show (n : Int) ≠ 0 by omega)
  omega
theorem Tab.set {vs : List Int} {n : Nat} {L : List Int} (h : Tab vs n L) (hn : 0 < n) (hn5 : n ≤ 1000) {r : Nat} (hr : r < n) {v : Int} (hv : v ∈ vs) (hv1 : 1 ≤ v) (hv5 : v ≤ 500) (h0 : 0 ≤ L.getD r 0)
    (hc : L.getD (to_ n r v) 0 < 0 ∨ L.getD r 0 + v < L.getD (to_ n r v) 0) : Tab vs n (L.set (to_ n r v) (L.getD r 0 + v)) ∧ leftL (L.set (to_ n r v) (L.getD r 0 + v)) < leftL L := by
  have ht := to_lt (r := r) (v := v) hn
  rcases h.at_ r hr with h1 | ⟨_, hp, hm, hb⟩
  · omega
  have hsn := setN_set L (to_ n r v) (L.getD r 0 + v) (by rw [h.len]; exact ht)
  have hlf := leftL_set L (to_ n r v) (L.getD r 0 + v) (by rw [h.len]; exact ht)
  rw [if_pos (show 0 ≤ L.getD r 0 + v by omega)] at hsn
  have hle := setN_le (L.set (to_ n r v) (L.getD r 0 + v))
  have hne : to_ n r v ≠ 0 := by
    intro e
    rw [e, h.zero] at hc
    omega
  have hbd : L.getD r 0 + v ≤ 500 * (setN (L.set (to_ n r v) (L.getD r 0 + v)) : Int) := by
    rcases hc with h1 | h1
    · rw [if_neg (by omega)] at hsn
      omega
    · rw [if_pos (by omega)] at hsn
      rcases h.at_ (to_ n r v) ht with h2 | ⟨_, _, _, h2⟩
      · omega
      · omega
  have hmono : setN L ≤ setN (L.set (to_ n r v) (L.getD r 0 + v)) := by
    split at hsn <;> omega
  refine ⟨⟨by rw [List.length_set]; exact h.len, ?_, fun j hj => ?_⟩, ?_⟩
  · rw [getD_set_ne _ _ _ _ hne]
    exact h.zero
  · rw [getD_set _ _ _ _ (by rw [h.len]; exact ht)]
    by_cases hjt : j = to_ n r v
    · rw [if_pos hjt]
      refine .inr ⟨by omega, .step hp hv, ?_, hbd⟩
      rw [← Int.emod_add_emod, hm, hjt]
      unfold to_
      have := Int.emod_nonneg ((r : Int) + v) (show (n : Int) ≠ 0 by omega)
      rw [Int.toNat_of_nonneg this]
    · rw [if_neg hjt]
      rcases h.at_ j hj with h2 | ⟨h2, h3, h4, h5⟩
      · exact .inl h2
      · exact .inr ⟨h2, h3, h4, by omega⟩
  · have hl1 : left1 (L.getD r 0 + v) < left1 (L.getD (to_ n r v) 0) := by
      unfold left1
      rw [if_neg (by omega)]
      rcases hc with h1 | h1
      · rw [if_pos h1]
        have := h.len
        rw [List.length_set, h.len] at hle
        omega
      · split <;> omega
    omega
end Go.Proofs.Ytlcnjpibfjhibaa.Q
