/- Sums over places: PaidBy, SumOf, sum; the counts of the fewest stamps pay the amount. -/
import Derived.Test.YtlcnjpibfjhibaaSCnt
import Derived.Test.YtlcnjpibfjhibaaQ4
import Derived.Test.YtlcnjpibfjhibaaQ5
set_option linter.unusedVariables false
set_option linter.unusedSimpArgs false
namespace Go.Proofs.Ytlcnjpibfjhibaa.Q
open Go.RowKit Go.Proofs.YtlcnjpibfjhibaaW.PrintWords Go.Proofs.Ytlcnjpibfjhibaa.Loops Go.Proofs.Ytlcnjpibfjhibaa.Pay
def sumN (f : Nat → Int) : Nat → Int
  | 0 => 0
  | n + 1 => sumN f n + f n
theorem sumN_congr {f g : Nat → Int} : ∀ n : Nat, (∀ j, j < n → f j = g j) → sumN f n = sumN g n
  | 0, _ => rfl
  | n + 1, h => by rw [sumN, sumN, sumN_congr n (fun j hj => h j (by omega)), h n (by omega)]
theorem sumN_zero {f : Nat → Int} : ∀ n : Nat, (∀ j, j < n → f j = 0) → sumN f n = 0
  | 0, _ => rfl
  | n + 1, h => by rw [sumN, sumN_zero n (fun j hj => h j (by omega)), h n (by omega)]; rfl
theorem sumN_shift (f : Nat → Int) : ∀ n : Nat, sumN f (n + 1) = f 0 + sumN (fun j => f (j + 1)) n
  | 0 => by simp [sumN]
  | n + 1 => by rw [sumN, sumN_shift f n, sumN]; omega
theorem sumN_change {f g : Nat → Int} {i : Nat} (hg : ∀ j, j ≠ i → g j = f j) : ∀ n : Nat, i < n → sumN g n = sumN f n + (g i - f i)
  | 0, h => by omega
  | n + 1, h => by
    rw [sumN, sumN]
    by_cases e : i = n
    · subst e
      rw [sumN_congr i (fun j hj => hg j (by omega))]
      omega
    · rw [sumN_change hg n (by omega), hg n (fun q => e q.symm)]
      omega
theorem sumN_bound {f : Nat → Int} {B : Int} : ∀ n : Nat, (∀ j, j < n → 0 ≤ f j ∧ f j ≤ B) → 0 ≤ sumN f n ∧ sumN f n ≤ B * n
  | 0, _ => by simp [sumN]
  | n + 1, h => by
    have h1 := sumN_bound n (fun j hj => h j (by omega))
    have h2 := h n (by omega)
    have e : B * ((n + 1 : Nat) : Int) = B * n + B := by rw [Int.natCast_add, Int.mul_add]; simp
    rw [sumN, e]
    omega
/-- What counts pay, and how many stamps they are. -/
def dotN (vs cs : List Int) (n : Nat) : Int := sumN (fun j => vs.getD j 0 * cs.getD j 0) n
def cntN (cs : List Int) (n : Nat) : Int := sumN (fun j => cs.getD j 0) n
theorem PaidC.times {vs : List Int} {c a v : Int} (h : PaidC vs c a) (hv : v ∈ vs) : ∀ k : Nat, PaidC vs (c + k) (a + v * k)
  | 0 => by simpa using h
  | k + 1 => by
    have := PaidC.step (PaidC.times h hv k) hv
    have e1 : c + ((k + 1 : Nat) : Int) = c + k + 1 := by omega
    have e2 : a + v * ((k + 1 : Nat) : Int) = a + v * k + v := by rw [Int.natCast_add, Int.mul_add]; simp; omega
    rw [e1, e2]
    exact this
theorem paidC_of {vs cs : List Int} (hc : ∀ j, 0 ≤ cs.getD j 0) : ∀ n : Nat, n ≤ vs.length → PaidC vs (cntN cs n) (dotN vs cs n)
  | 0, _ => PaidC.zero
  | n + 1, h => by
    have hm : vs.getD n 0 ∈ vs := by rw [List.getD_eq_getElem?_getD, List.getElem?_eq_getElem (by omega)]; exact List.getElem_mem _
    have := PaidC.times (paidC_of hc n (by omega)) hm (cs.getD n 0).toNat
    rw [Int.toNat_of_nonneg (hc n)] at this
    exact this
theorem getD_all {P : Int → Prop} (h0 : P 0) {l : List Int} (h : ∀ x ∈ l, P x) (j : Nat) : P (l.getD j 0) := by
  rw [List.getD_eq_getElem?_getD]
  by_cases hj : j < l.length
  · rw [List.getElem?_eq_getElem hj]; exact h _ (List.getElem_mem hj)
  · rw [List.getElem?_eq_none (by omega)]; exact h0
def Small (cs : List Int) : Prop := ∀ j, 0 ≤ cs.getD j 0 ∧ cs.getD j 0 ≤ 1000000
theorem prod_small {a b : Int} (ha : 0 ≤ a ∧ a ≤ 1000000) (hb : 0 ≤ b ∧ b ≤ 1000000) : 0 ≤ a * b ∧ a * b ≤ 1000000000000 := by
  refine ⟨Int.mul_nonneg ha.1 hb.1, ?_⟩
  have h1 := Int.mul_le_mul_of_nonneg_right ha.2 hb.1
  omega
theorem w_mid2 {x : Int} (h0 : 0 ≤ x) (h1 : x ≤ 1000000000000000) : wrap64 x = x := wrap_mid (by omega) (by omega)
theorem PaidBy_is {vs cs : List Int} (hl : cs.length = vs.length) (hn : vs.length ≤ 100) (hv : Small vs) (hc : Small cs) : Ev (fun k => spec_PaidBy.f k vs cs) (dotN vs cs vs.length) := by
  have key : ∀ (d i : Nat), i + d = vs.length → Ev (fun k => spec_PaidBy.l0 k vs cs (dotN vs cs i) (i : Int)) (dotN vs cs vs.length) := by
    intro d
    induction d with
    | zero =>
      intro i hi
      obtain rfl : i = vs.length := by omega
      refine Ev.step (f := fun _ => some (dotN vs cs vs.length)) (fun k => ?_) (Ev.now _)
      rw [spec_PaidBy.l0, if_neg (by omega)]
    | succ d ih =>
      intro i hi
      have ih' := ih (i + 1) (by omega)
      have hb := sumN_bound (f := fun j => vs.getD j 0 * cs.getD j 0) (B := 1000000000000) i (fun j _ => prod_small (hv j) (hc j))
      have hp := prod_small (hv i) (hc i)
      have e : dotN vs cs (i + 1) = dotN vs cs i + vs.getD i 0 * cs.getD i 0 := rfl
      have hb' : 0 ≤ dotN vs cs i ∧ dotN vs cs i ≤ 1000000000000 * (i : Int) := hb
      rw [e] at ih'
      have hq : vs.getD i 0 * cs.getD i 0 ≤ 1000000000000000 := by omega
      have hs0 : 0 ≤ dotN vs cs i + vs.getD i 0 * cs.getD i 0 := by omega
      have hs1 : dotN vs cs i + vs.getD i 0 * cs.getD i 0 ≤ 1000000000000000 := by omega
      have i1 : (i : Int) < (vs.length : Int) := by omega
      have i2 : (i : Int) < (cs.length : Int) := by omega
      have i3 : (0 : Int) ≤ (i : Int) := by omega
      have i4 : i ≤ 1000000 := by omega
      refine Ev.step (fun k => ?_) ih'
      rw [spec_PaidBy.l0, if_pos i1, if_pos i2, if_pos i3, rdn, rdn, w_mid2 hp.1 hq, w_mid2 hs0 hs1, w_next i4]
  exact Ev.congr (fun k => by unfold spec_PaidBy.f; rfl) (key vs.length 0 (by omega))
theorem SumOf_is {cs : List Int} (hn : cs.length ≤ 100) (hc : Small cs) : Ev (fun k => spec_SumOf.f k cs) (cntN cs cs.length) := by
  have key : ∀ (d i : Nat), i + d = cs.length → Ev (fun k => spec_l03Total.l0 k cs (cntN cs i) (i : Int)) (cntN cs cs.length) := by
    intro d
    induction d with
    | zero =>
      intro i hi
      obtain rfl : i = cs.length := by omega
      refine Ev.step (f := fun _ => some (cntN cs cs.length)) (fun k => ?_) (Ev.now _)
      rw [spec_l03Total.l0, if_neg (by omega)]
    | succ d ih =>
      intro i hi
      have ih' := ih (i + 1) (by omega)
      have hb := sumN_bound (f := fun j => cs.getD j 0) (B := 1000000) i (fun j _ => hc j)
      have hp := hc i
      have e : cntN cs (i + 1) = cntN cs i + cs.getD i 0 := rfl
      have hb' : 0 ≤ cntN cs i ∧ cntN cs i ≤ 1000000 * (i : Int) := hb
      rw [e] at ih'
      have hs0 : 0 ≤ cntN cs i + cs.getD i 0 := by omega
      have hs1 : cntN cs i + cs.getD i 0 ≤ 1000000000000000 := by omega
      have i1 : (i : Int) < (cs.length : Int) := by omega
      have i3 : (0 : Int) ≤ (i : Int) := by omega
      have i4 : i ≤ 1000000 := by omega
      refine Ev.step (fun k => ?_) ih'
      rw [spec_l03Total.l0, if_pos i1, if_pos i3, rdn, w_mid2 hs0 hs1, w_next i4]
  unfold spec_SumOf.f
  refine Ev.bind (Ev.congr (fun k => by unfold spec_l03Total.f; rfl) (key cs.length 0 (by omega))) (Ev.now _)
theorem isum_is {cs : List Int} (hn : cs.length ≤ 100) (hc : Small cs) : Ev (fun k => impl_sum.f k cs) (cntN cs cs.length) := by
  have key : ∀ (d i : Nat), i + d = cs.length → Ev (fun k => impl_sum.l0 k (cntN cs i) cs (cs.length : Int) (i : Int)) (cntN cs cs.length) := by
    intro d
    induction d with
    | zero =>
      intro i hi
      obtain rfl : i = cs.length := by omega
      refine Ev.step (f := fun _ => some (cntN cs cs.length)) (fun k => ?_) (Ev.now _)
      rw [impl_sum.l0, if_neg (by omega)]
    | succ d ih =>
      intro i hi
      have ih' := ih (i + 1) (by omega)
      have hb := sumN_bound (f := fun j => cs.getD j 0) (B := 1000000) i (fun j _ => hc j)
      have hp := hc i
      have e : cntN cs (i + 1) = cntN cs i + cs.getD i 0 := rfl
      have hb' : 0 ≤ cntN cs i ∧ cntN cs i ≤ 1000000 * (i : Int) := hb
      rw [e] at ih'
      have hs0 : 0 ≤ cntN cs i + cs.getD i 0 := by omega
      have hs1 : cntN cs i + cs.getD i 0 ≤ 1000000000000000 := by omega
      have i1 : (i : Int) < (cs.length : Int) := by omega
      have i3 : (0 : Int) ≤ (i : Int) := by omega
      have i4 : i ≤ 1000000 := by omega
      refine Ev.step (fun k => ?_) ih'
      rw [impl_sum.l0, if_pos i1, if_pos i3, if_pos i1, rdn, w_mid2 hs0 hs1, w_next i4]
  exact Ev.congr (fun k => by unfold impl_sum.f; rfl) (key cs.length 0 (by omega))
/-- The counts of the fewest stamps. -/
theorem cntD_facts {vs : List Int} (hv : ∀ v ∈ vs, 1 ≤ v) {m : Nat} (hm : m ≤ 1000) : ∀ (d : Nat), d ≤ vs.length → ∀ (am : Nat), am < m → 0 < ((tabD vs (endlessL vs) m d).getD am z80).f0 →
    cntN (cntD (tabD vs (endlessL vs) m) vs d (am : Int) ((tabD vs (endlessL vs) m d).getD am z80).f1) d = ((tabD vs (endlessL vs) m d).getD am z80).f1 ∧
    sumN (fun j => vs.getD (vs.length - d + j) 0 * (cntD (tabD vs (endlessL vs) m) vs d (am : Int) ((tabD vs (endlessL vs) m d).getD am z80).f1).getD j 0) d = (am : Int) ∧
    ∀ c ∈ cntD (tabD vs (endlessL vs) m) vs d (am : Int) ((tabD vs (endlessL vs) m d).getD am z80).f1, 0 ≤ c ∧ c ≤ 1000000 := by
  have hhs : ∀ h ∈ endlessL vs, 0 ≤ h := fun h hh => by rw [mem_endless hh]; omega
  have hok := tabD_ok (hs := endlessL vs) m (by simp) hv hhs
  intro d
  induction d with
  | zero =>
    intro _ am ham hpos
    rw [tabD, lastT_get m am ham] at hpos ⊢
    by_cases e : am = 0
    · subst e
      exact ⟨rfl, rfl, fun c hc => by simp [cntD] at hc⟩
    · rw [if_neg e] at hpos
      simp [z80] at hpos
  | succ d ih =>
    intro hd am ham hpos
    obtain ⟨i, hii⟩ : ∃ i, vs.length - (d + 1) = i := ⟨_, rfl⟩
    have hvm : vs.getD i 0 ∈ vs := by rw [List.getD_eq_getElem?_getD, List.getElem?_eq_getElem (by omega)]; exact List.getElem_mem _
    have hv1 := hv _ hvm
    have hrow : (tabD vs (endlessL vs) m (d + 1)).getD am z80 = cellAt (tabD vs (endlessL vs) m d) (vs.getD i 0) (am : Int) (cellK (vs.getD i 0) ((endlessL vs).getD i 0) (am : Int)) := by
      rw [tabD, rowT_get _ _ _ _ _ ham, hii]
    have hh1 : 0 ≤ (endlessL vs).getD i 0 := hhs _ (by rw [List.getD_eq_getElem?_getD, List.getElem?_eq_getElem (by simp; omega)]; exact List.getElem_mem _)
    rw [cntD, hii]
    obtain ⟨left, hleft⟩ : ∃ left, ((tabD vs (endlessL vs) m (d + 1)).getD am z80).f1 = left := ⟨_, rfl⟩
    have hshift : ∀ j, i + (j + 1) = vs.length - d + j := fun j => by omega
    obtain ⟨v, hvv⟩ : ∃ v, vs.getD i 0 = v := ⟨_, rfl⟩
    rw [hleft]
    rw [hvv] at hv1 hrow ⊢
    have hckl := cellK_le hv1 hh1 am
    have hro := hok d (by omega)
    rw [hrow] at hpos hleft
    obtain ⟨q, q1, q2, q3⟩ := cellAt_reached hro hv1 ham _ hckl.2 hpos
    rw [hleft] at q3
    have hqk := (cellK_iff hv1 hh1 (show (0 : Int) ≤ am by omega) q).1 q1
    clear hckl q1 hrow
    have hql : q < 0 + 2001 := by
      have := (mul_up (k := q) hv1).2
      omega
    obtain ⟨f1, f2, f3, f4, f5⟩ := findK_spec (tabD vs (endlessL vs) m d) v (am : Int) left 2001 0 q (Nat.zero_le _) hql q2 q3
    obtain ⟨kk, hkk⟩ : ∃ kk, findK (tabD vs (endlessL vs) m d) v (am : Int) left 2001 0 = kk := ⟨_, rfl⟩
    rw [hkk] at f1 f3 f4 ⊢
    have hkb : (kk : Int) * v ≤ am := by
      have := Int.mul_le_mul_of_nonneg_right (show (kk : Int) ≤ q by omega) (show (0 : Int) ≤ v by omega)
      omega
    obtain ⟨am2, ham2⟩ : ∃ am2 : Nat, (am : Int) - kk * v = am2 := ⟨((am : Int) - kk * v).toNat, by omega⟩
    rw [ham2] at f3 f4 ⊢
    have hm2 : am2 < m := by have := (mul_up (k := kk) hv1).1; omega
    simp only [Int.toNat_natCast] at f3 f4
    obtain ⟨g1, g2, g3⟩ := ih (by omega) am2 hm2 f3
    have hl2 : ((tabD vs (endlessL vs) m d).getD am2 z80).f1 = left - kk := by omega
    rw [hl2] at g1 g2 g3
    obtain ⟨rest, hrest⟩ : ∃ rest, cntD (tabD vs (endlessL vs) m) vs d (am2 : Int) (left - kk) = rest := ⟨_, rfl⟩
    rw [hrest] at g1 g2 g3 ⊢
    refine ⟨?_, ?_, ?_⟩
    · unfold cntN at g1 ⊢
      rw [sumN_shift]
      have : sumN (fun j => ((kk : Int) :: rest).getD (j + 1) 0) d = sumN (fun j => rest.getD j 0) d := sumN_congr d (fun j _ => by simp)
      rw [this, g1]
      simp
      omega
    · rw [sumN_shift]
      have : sumN (fun j => vs.getD (i + (j + 1)) 0 * ((kk : Int) :: rest).getD (j + 1) 0) d = sumN (fun j => vs.getD (vs.length - d + j) 0 * rest.getD j 0) d := sumN_congr d (fun j _ => by rw [hshift]; simp)
      rw [this, g2, Nat.add_zero, hvv]
      simp only [List.getD_cons_zero]
      have : v * (kk : Int) = (kk : Int) * v := Int.mul_comm _ _
      omega
    · intro c hc
      rcases List.mem_cons.1 hc with rfl | hc
      · omega
      · exact g3 c hc
end Go.Proofs.Ytlcnjpibfjhibaa.Q
