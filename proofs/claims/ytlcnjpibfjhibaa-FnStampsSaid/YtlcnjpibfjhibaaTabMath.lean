/- impl's table tells the fewest stamps. -/
import Derived.Test.YtlcnjpibfjhibaaTabPure
import Derived.Test.YtlcnjpibfjhibaaFewMath
set_option linter.unusedVariables false
set_option linter.unusedSimpArgs false
namespace Go.Proofs.Ytlcnjpibfjhibaa.Q
open Go.RowKit Go.Proofs.YtlcnjpibfjhibaaW.PrintWords
open Go.Proofs.Ytlcnjpibfjhibaa.Pay
theorem PaidC_nil {c a : Int} (h : PaidC [] c a) : c = 0 ∧ a = 0 := by
  cases h with
  | zero => exact ⟨rfl, rfl⟩
  | step _ hm => cases hm
theorem PaidC_low {vs : List Int} (hv : ∀ v ∈ vs, 1 ≤ v) {c a : Int} (h : PaidC vs c a) : 0 ≤ a := by
  have := h.le hv
  have := h.nonneg
  omega
theorem PaidC_more {vs : List Int} (v : Int) {c a : Int} (h : PaidC vs c a) (k : Nat) : PaidC (v :: vs) (c + k) (a + k * v) := by
  induction k with
  | zero =>
    simp only [Int.natCast_zero, Int.zero_mul, Int.add_zero]
    induction h with
    | zero => exact .zero
    | step _ hm ih => exact .step ih (List.mem_cons_of_mem _ hm)
  | succ k ih =>
    have := PaidC.step ih (List.mem_cons_self (a := v) (l := vs))
    rw [show c + ((k + 1 : Nat) : Int) = c + k + 1 by omega, show a + ((k + 1 : Nat) : Int) * v = a + k * v + v by rw [Int.natCast_add, Int.add_mul]; simp; omega]
    exact this
theorem PaidC_cons {vs : List Int} {v c a : Int} (h : PaidC (v :: vs) c a) : ∃ k : Nat, PaidC vs (c - k) (a - k * v) := by
  induction h with
  | zero => exact ⟨0, by simpa using PaidC.zero⟩
  | step hp hm ih =>
    rename_i c a x
    obtain ⟨k, hk⟩ := ih
    rcases List.mem_cons.1 hm with rfl | hm
    · refine ⟨k + 1, ?_⟩
      rw [show c + 1 - ((k + 1 : Nat) : Int) = c - k by omega, show a + x - ((k + 1 : Nat) : Int) * x = a - k * x by rw [Int.natCast_add, Int.add_mul]; simp; omega]
      exact hk
    · refine ⟨k, ?_⟩
      have := PaidC.step hk hm
      rw [show c + 1 - (k : Int) = c - k + 1 by omega, show a + x - (k : Int) * v = a - k * v + x by omega]
      exact this
/-- A row tells the fewest stamps of some values. -/
def RowFew (vs : List Int) (m : Nat) (L : List S80) : Prop :=
  ∀ a : Nat, a < m → ((L.getD a z80).f0 = 0 ∧ ∀ c, ¬ PaidC vs c a) ∨ (0 < (L.getD a z80).f0 ∧ PaidC vs (L.getD a z80).f1 a ∧ ∀ c, PaidC vs c a → (L.getD a z80).f1 ≤ c)
theorem lastT_few (m : Nat) : RowFew [] m (lastT m) := by
  intro a ha
  rw [lastT_get m a ha]
  by_cases h : a = 0
  · subst h
    rw [if_pos rfl]
    refine .inr ⟨by decide, .zero, fun c hc => ?_⟩
    have := (PaidC_nil hc).1
    simp only
    omega
  · rw [if_neg h]
    exact .inl ⟨rfl, fun c hc => h (by have := (PaidC_nil hc).2; omega)⟩
theorem cellAt_few {vs : List Int} (hv : ∀ x ∈ vs, 1 ≤ x) {m : Nat} {prev : List S80} (H : RowFew vs m prev) {v : Int} (h1 : 1 ≤ v) {a : Nat} (ha : a < m) : ∀ K : Nat, (K : Int) * v ≤ a + v →
    ((cellAt prev v (a : Int) K).f0 = 0 ∧ ∀ j : Nat, j < K → ∀ c, ¬ PaidC vs c ((a : Int) - j * v)) ∨
    (0 < (cellAt prev v (a : Int) K).f0 ∧ (∃ j : Nat, j < K ∧ PaidC vs ((cellAt prev v (a : Int) K).f1 - j) ((a : Int) - j * v)) ∧ ∀ j : Nat, j < K → ∀ c, PaidC vs c ((a : Int) - j * v) → (cellAt prev v (a : Int) K).f1 ≤ c + j)
  | 0, _ => .inl ⟨rfl, fun j hj => by omega⟩
  | K + 1, hK => by
    have e : ((K + 1 : Nat) : Int) * v = (K : Int) * v + v := by rw [Int.natCast_add, Int.add_mul]; simp
    rw [e] at hK
    have hkv : 0 ≤ (K : Int) * v := Int.mul_nonneg (by omega) (by omega)
    obtain ⟨x, hx⟩ : ∃ x : Nat, (a : Int) - K * v = x := ⟨((a : Int) - K * v).toNat, by omega⟩
    have hxm : x < m := by omega
    have ih := cellAt_few hv H h1 ha K (by omega)
    have hX := H x hxm
    rw [cellAt, cellStep, hx, Int.toNat_natCast]
    generalize cellAt prev v (a : Int) K = acc at ih ⊢
    generalize prev.getD x z80 = p at hX ⊢
    have hlast : ∀ j : Nat, j < K + 1 → ¬ j < K → (a : Int) - j * v = x := fun j h2 h3 => by
      have : j = K := by omega
      rw [this, hx]
    rcases hX with ⟨p0, pn⟩ | ⟨p0, pc, pl⟩
    · rw [if_pos p0]
      rcases ih with ⟨i0, i1⟩ | ⟨i0, ⟨j, j1, j2⟩, i2⟩
      · refine .inl ⟨i0, fun j hj c hc => ?_⟩
        by_cases hjk : j < K
        · exact i1 j hjk c hc
        · rw [hlast j hj hjk] at hc
          exact pn c hc
      · refine .inr ⟨i0, ⟨j, by omega, j2⟩, fun j hj c hc => ?_⟩
        by_cases hjk : j < K
        · exact i2 j hjk c hc
        · rw [hlast j hj hjk] at hc
          exact absurd hc (pn c)
    · rw [if_neg (by omega)]
      simp only
      rcases ih with ⟨i0, i1⟩ | ⟨i0, ⟨j, j1, j2⟩, i2⟩
      · rw [if_pos (.inl i0)]
        refine .inr ⟨by omega, ⟨K, by omega, ?_⟩, fun j hj c hc => ?_⟩
        · rw [hx, show p.f1 + (K : Int) - K = p.f1 by omega]
          exact pc
        · by_cases hjk : j < K
          · exact absurd hc (i1 j hjk c)
          · have hjK : j = K := by omega
            rw [hlast j hj hjk] at hc
            have := pl c hc
            omega
      · by_cases hc : p.f1 + (K : Int) < acc.f1
        · rw [if_pos (.inr hc)]
          refine .inr ⟨by omega, ⟨K, by omega, ?_⟩, fun j hj c hcc => ?_⟩
          · rw [hx, show p.f1 + (K : Int) - K = p.f1 by omega]
            exact pc
          · by_cases hjk : j < K
            · have := i2 j hjk c hcc
              omega
            · have hjK : j = K := by omega
              rw [hlast j hj hjk] at hcc
              have := pl c hcc
              omega
        · rw [if_neg (fun h => h.elim (fun h9 => by omega) hc)]
          refine .inr ⟨by omega, ⟨j, by omega, j2⟩, fun j hj c hcc => ?_⟩
          by_cases hjk : j < K
          · exact i2 j hjk c hcc
          · have hjK : j = K := by omega
            rw [hlast j hj hjk] at hcc
            have := pl c hcc
            omega
theorem rowT_few {vs : List Int} (hv : ∀ x ∈ vs, 1 ≤ x) {m : Nat} {prev : List S80} (H : RowFew vs m prev) {v h : Int} (h1 : 1 ≤ v) (hh : (m : Int) ≤ h) : RowFew (v :: vs) m (rowT prev v h m) := by
  intro a ha
  rw [rowT_get _ _ _ _ _ ha]
  have hk := cellK_le h1 (show 0 ≤ h by omega) a
  have hin : ∀ (j : Nat) c, PaidC vs c ((a : Int) - j * v) → j < cellK v h (a : Int) := fun j c hc => by
    have h0 := PaidC_low hv hc
    refine (cellK_iff h1 (by omega) (by omega) j).2 ⟨?_, by omega⟩
    have := Int.mul_le_mul_of_nonneg_left h1 (show (0 : Int) ≤ (j : Int) by omega)
    rw [Int.mul_one] at this
    omega
  rcases cellAt_few hv H h1 ha _ hk.2 with ⟨i0, i1⟩ | ⟨i0, ⟨j, j1, j2⟩, i2⟩
  · refine .inl ⟨i0, fun c hc => ?_⟩
    obtain ⟨k, hk⟩ := PaidC_cons hc
    exact i1 k (hin k _ hk) _ hk
  · refine .inr ⟨i0, ?_, fun c hc => ?_⟩
    · have := PaidC_more v j2 j
      rwa [show (cellAt prev v (a : Int) (cellK v h (a : Int))).f1 - (j : Int) + j = (cellAt prev v (a : Int) (cellK v h (a : Int))).f1 by omega, show (a : Int) - j * v + j * v = a by omega] at this
    · obtain ⟨k, hk⟩ := PaidC_cons hc
      have := i2 k (hin k _ hk) _ hk
      omega
theorem tabD_few {vs hs : List Int} (m : Nat) (hl : vs.length = hs.length) (hv : ∀ x ∈ vs, 1 ≤ x) (hh : ∀ h ∈ hs, (m : Int) ≤ h) : ∀ d, d ≤ vs.length → RowFew (vs.drop (vs.length - d)) m (tabD vs hs m d)
  | 0, _ => by
    rw [Nat.sub_zero, List.drop_length]
    exact lastT_few m
  | d + 1, hd => by
    have ih := tabD_few m hl hv hh d (by omega)
    have hi : vs.length - (d + 1) < vs.length := by omega
    have hd1 : vs.drop (vs.length - (d + 1)) = vs.getD (vs.length - (d + 1)) 0 :: vs.drop (vs.length - d) := by
      rw [List.drop_eq_getElem_cons hi, show vs.length - (d + 1) + 1 = vs.length - d by omega, List.getD_eq_getElem?_getD, List.getElem?_eq_getElem hi]
      rfl
    rw [hd1, tabD]
    refine rowT_few (fun x hx => hv x (List.mem_of_mem_drop hx)) ih (hv _ ?_) (hh _ ?_)
    · rw [List.getD_eq_getElem?_getD, List.getElem?_eq_getElem hi]
      exact List.getElem_mem _
    · rw [List.getD_eq_getElem?_getD, List.getElem?_eq_getElem (by omega)]
      exact List.getElem_mem _
/-- The table's first row and the fewest stamps. -/
theorem tab_few {vs : List Int} (hv : ∀ x ∈ vs, 1 ≤ x) (m a : Nat) (ha : a < m) (hm : m ≤ 2000) :
    ((tabD vs (List.replicate vs.length 1099511627776) m vs.length).getD a z80).f0 = 0 ∧ few vs a = -1 ∨ ((tabD vs (List.replicate vs.length 1099511627776) m vs.length).getD a z80).f0 ≠ 0 ∧ 0 ≤ few vs a ∧ ((tabD vs (List.replicate vs.length 1099511627776) m vs.length).getD a z80).f1 = few vs a := by
  have h := tabD_few (vs := vs) (hs := List.replicate vs.length 1099511627776) m (by simp) hv (fun h hh => by rw [List.eq_of_mem_replicate hh]; omega) vs.length (Nat.le_refl _)
  rw [Nat.sub_self, List.drop_zero] at h
  generalize (tabD vs (List.replicate vs.length 1099511627776) m vs.length) = L at h ⊢
  rcases h a ha with ⟨h0, h1⟩ | ⟨h0, h1, h2⟩
  · rcases few_spec hv a with ⟨f, _⟩ | ⟨_, f, _⟩
    · exact .inl ⟨h0, f⟩
    · exact absurd f (h1 _)
  · rcases few_spec hv a with ⟨_, f⟩ | ⟨f0, f1, f2⟩
    · exact absurd h1.paid f
    · have := f2 _ h1
      have := h2 _ f1
      exact .inr ⟨by omega, f0, by omega⟩
end Go.Proofs.Ytlcnjpibfjhibaa.Q
