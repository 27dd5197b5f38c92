/- Reach, and the value that adds most to it: plain numbers. -/
import Derived.Test.YtlcnjpibfjhibaaReachPure
set_option linter.unusedVariables false
set_option linter.unusedSimpArgs false
namespace Go.Proofs.Ytlcnjpibfjhibaa.Q
open Go.RowKit Go.Proofs.YtlcnjpibfjhibaaW.PrintWords Go.Proofs.Ytlcnjpibfjhibaa.Loops
open Go.Proofs.Ytlcnjpibfjhibaa.Pay
/-- Values in the bounds. -/
def Val5 (vs : List Int) : Prop := ∀ v ∈ vs, 1 ≤ v ∧ v ≤ 500
def badA (vs : List Int) (s : Int) (a : Nat) : Prop := few vs a < 0 ∨ few vs a > s
theorem PaidC_high {vs : List Int} (hv : Val5 vs) {c a : Int} (h : PaidC vs c a) : a ≤ c * 500 := by
  induction h with
  | zero => simp
  | step hp hm ih =>
    have := hv _ hm
    rw [Int.add_mul]
    omega
def reachV (vs : List Int) (s : Int) : Nat := reachN vs s 6001 0
theorem few_high {vs : List Int} (hv : Val5 vs) {s : Int} (hs : s ≤ 12) (b : Nat) (h0 : 0 ≤ few vs b) (h1 : few vs b ≤ s) : b ≤ 6000 := by
  rcases few_spec (fun v h => (hv v h).1) b with ⟨f, _⟩ | ⟨_, f, _⟩
  · omega
  · have := PaidC_high hv f
    omega
theorem reachN_spec (vs : List Int) (s : Int) : ∀ (f a : Nat), a ≤ reachN vs s f a ∧ (∀ x, a < x → x ≤ reachN vs s f a → ¬ badA vs s x) ∧ (badA vs s (reachN vs s f a + 1) ∨ reachN vs s f a = a + f)
  | 0, a => ⟨Nat.le_refl _, fun x h1 h2 => by simp only [reachN] at h2; omega, .inr rfl⟩
  | f + 1, a => by
    rw [reachN]
    by_cases h : few vs (a + 1) < 0 ∨ few vs (a + 1) > s
    · rw [if_pos h]
      exact ⟨Nat.le_refl _, fun x h1 h2 => by omega, .inl h⟩
    · rw [if_neg h]
      obtain ⟨i1, i2, i3⟩ := reachN_spec vs s f (a + 1)
      refine ⟨by omega, fun x h1 h2 => ?_, i3.imp_right (fun h9 => by omega)⟩
      by_cases hx : x = a + 1
      · rw [hx]; exact h
      · exact i2 x (by omega) h2
theorem reachV_spec {vs : List Int} (hv : Val5 vs) {s : Int} (hs : s ≤ 12) : (∀ x, 0 < x → x ≤ reachV vs s → ¬ badA vs s x) ∧ badA vs s (reachV vs s + 1) ∧ reachV vs s ≤ 6000 := by
  obtain ⟨i1, i2, i3⟩ := reachN_spec vs s 6001 0
  have hle : reachV vs s ≤ 6000 := by
    rcases Nat.lt_or_ge 6000 (reachV vs s) with h | h
    · have := i2 (reachV vs s) (by omega) (Nat.le_refl _)
      unfold badA at this
      have h9 := few_high hv hs (reachV vs s) (by omega) (by omega)
      omega
    · exact h
  refine ⟨i2, ?_, hle⟩
  rcases i3 with h | h
  · exact h
  · unfold reachV at hle
    omega
theorem reachV_le_of {vs us : List Int} (hv : Val5 vs) (hu : Val5 us) {s t : Int} (hs : s ≤ 12) (ht : t ≤ 12) (h : ∀ x : Nat, ¬ badA vs s x → ¬ badA us t x) : reachV vs s ≤ reachV us t := by
  obtain ⟨a1, _, _⟩ := reachV_spec hv hs
  obtain ⟨_, b2, _⟩ := reachV_spec hu ht
  rcases Nat.lt_or_ge (reachV us t) (reachV vs s) with hlt | hge
  · exact absurd b2 (h _ (a1 _ (by omega) (by omega)))
  · exact hge
theorem PaidC_sub {vs us : List Int} (h : ∀ v ∈ vs, v ∈ us) {c a : Int} (hp : PaidC vs c a) : PaidC us c a := by
  induction hp with
  | zero => exact .zero
  | step _ hm ih => exact .step ih (h _ hm)
theorem few_sub {vs us : List Int} (hv : Val5 vs) (hu : Val5 us) (h : ∀ v ∈ vs, v ∈ us) {s : Int} (x : Nat) (hb : ¬ badA vs s x) : ¬ badA us s x := by
  unfold badA at hb ⊢
  rcases few_spec (fun v h => (hv v h).1) x with ⟨f, _⟩ | ⟨_, f, _⟩
  · omega
  · have hp := PaidC_sub h f
    rcases few_spec (fun v h => (hu v h).1) x with ⟨_, g⟩ | ⟨g0, _, g⟩
    · exact absurd hp.paid g
    · have := g _ hp
      omega
theorem reachV_sub {vs us : List Int} (hv : Val5 vs) (hu : Val5 us) (h : ∀ v ∈ vs, v ∈ us) {s : Int} (hs : s ≤ 12) : reachV vs s ≤ reachV us s := reachV_le_of hv hu hs hs (fun x hb => few_sub hv hu h x hb)
theorem reachV_same {vs us : List Int} (hv : Val5 vs) (hu : Val5 us) (h : ∀ v, v ∈ vs ↔ v ∈ us) {s : Int} (hs : s ≤ 12) : reachV vs s = reachV us s :=
  Nat.le_antisymm (reachV_sub hv hu (fun v => (h v).1) hs) (reachV_sub hu hv (fun v => (h v).2) hs)
theorem reachV_mono {vs : List Int} (hv : Val5 vs) {s t : Int} (hst : s ≤ t) (ht : t ≤ 12) : reachV vs s ≤ reachV vs t :=
  reachV_le_of hv hv (by omega) ht (fun x hb => by unfold badA at hb ⊢; omega)
theorem reachV_zero {vs : List Int} (hv : Val5 vs) : reachV vs 0 = 0 := by
  rcases Nat.eq_zero_or_pos (reachV vs 0) with h | h
  · exact h
  · have := (reachV_spec hv (s := 0) (by omega)).1 1 (by omega) (by omega)
    unfold badA at this
    rcases few_spec (fun v h => (hv v h).1) 1 with ⟨f, _⟩ | ⟨_, f, _⟩
    · omega
    · have := PaidC_high hv f
      omega
theorem reachV_pos {vs : List Int} (hv : Val5 vs) {s : Int} (hs : s ≤ 12) (h1 : 1 ≤ s) : 0 < reachV vs s ↔ 1 ∈ vs := by
  constructor
  · intro h
    have := (reachV_spec hv hs).1 1 (by omega) (by omega)
    unfold badA at this
    have hp := (few_paid (fun v h => (hv v h).1) 1).1 (by omega)
    rcases (paid_iff (fun v h => (hv v h).1) _).1 hp with h9 | ⟨v, hm, hle, _⟩
    · simp at h9
    · have := (hv v hm).1
      have e : v = 1 := by simp at hle; omega
      rwa [e] at hm
  · intro h
    have hp : PaidC vs 1 1 := by simpa using PaidC.step PaidC.zero h
    rcases Nat.eq_zero_or_pos (reachV vs s) with h0 | h0
    · have hb := (reachV_spec hv hs).2.1
      rw [h0] at hb
      unfold badA at hb
      rcases few_spec (fun v h => (hv v h).1) (0 + 1) with ⟨_, f⟩ | ⟨f0, _, f⟩
      · exact absurd hp.paid f
      · have := f 1 hp
        omega
    · exact h0
theorem val5_snoc {vs : List Int} (hv : Val5 vs) {v : Int} (h1 : 1 ≤ v) (h2 : v ≤ 500) : Val5 (vs ++ [v]) := by
  intro x hx
  rcases List.mem_append.1 hx with h | h
  · exact hv x h
  · rw [List.mem_singleton.1 h]; exact ⟨h1, h2⟩
/-- The value that adds most, from v on. -/
def bestN (vs : List Int) (s : Int) : Nat → Nat → Int → Int → Int × Int
  | 0, _, b, m => (b, m)
  | f + 1, v, b, m => if vs.contains (v : Int) = true then bestN vs s f (v + 1) b m else if (reachV (vs ++ [(v : Int)]) s : Int) > m then bestN vs s f (v + 1) (v : Int) (reachV (vs ++ [(v : Int)]) s : Int) else bestN vs s f (v + 1) b m
/-- What is known of the best below v. -/
def BestInv (vs : List Int) (s : Int) (v : Nat) (b m : Int) : Prop :=
  (m = -1 ∧ b = 0 ∧ ∀ u : Nat, 1 ≤ u → u < v → vs.contains (u : Int) = true) ∨
  ∃ bn : Nat, b = bn ∧ 1 ≤ bn ∧ bn < v ∧ vs.contains b = false ∧ m = (reachV (vs ++ [b]) s : Int) ∧ ∀ u : Nat, 1 ≤ u → u < v → vs.contains (u : Int) = false → (reachV (vs ++ [(u : Int)]) s : Int) ≤ m ∧ (u < bn → (reachV (vs ++ [(u : Int)]) s : Int) < m)
theorem bestN_spec (vs : List Int) (s : Int) : ∀ (f v : Nat) (b m : Int), 1 ≤ v → BestInv vs s v b m → BestInv vs s (v + f) (bestN vs s f v b m).1 (bestN vs s f v b m).2
  | 0, v, b, m, _, h => h
  | f + 1, v, b, m, hv, h => by
    rw [bestN, show v + (f + 1) = v + 1 + f by omega]
    by_cases hc : vs.contains (v : Int) = true
    · rw [if_pos hc]
      refine bestN_spec vs s f (v + 1) b m (by omega) ?_
      rcases h with ⟨h1, h2, h3⟩ | ⟨bn, h1, h2, h3, h4, h5, h6⟩
      · refine .inl ⟨h1, h2, fun u u1 u2 => ?_⟩
        by_cases hu : u = v
        · rw [hu]; exact hc
        · exact h3 u u1 (by omega)
      · refine .inr ⟨bn, h1, h2, by omega, h4, h5, fun u u1 u2 u3 => ?_⟩
        by_cases hu : u = v
        · rw [hu, hc] at u3; cases u3
        · exact h6 u u1 (by omega) u3
    · rw [if_neg hc]
      have hcf : vs.contains (v : Int) = false := by simpa using hc
      by_cases hr : (reachV (vs ++ [(v : Int)]) s : Int) > m
      · rw [if_pos hr]
        refine bestN_spec vs s f (v + 1) _ _ (by omega) (.inr ⟨v, rfl, hv, by omega, hcf, rfl, fun u u1 u2 u3 => ?_⟩)
        by_cases hu : u = v
        · rw [hu]; exact ⟨Int.le_refl _, fun h9 => by omega⟩
        · rcases h with ⟨_, _, h3⟩ | ⟨bn, _, _, _, _, _, h6⟩
          · rw [h3 u u1 (by omega)] at u3; cases u3
          · have := (h6 u u1 (by omega) u3).1
            exact ⟨by omega, fun _ => by omega⟩
      · rw [if_neg hr]
        refine bestN_spec vs s f (v + 1) b m (by omega) ?_
        rcases h with ⟨h1, h2, h3⟩ | ⟨bn, h1, h2, h3, h4, h5, h6⟩
        · omega
        · refine .inr ⟨bn, h1, h2, by omega, h4, h5, fun u u1 u2 u3 => ?_⟩
          by_cases hu : u = v
          · rw [hu]; exact ⟨by omega, fun h9 => by omega⟩
          · exact h6 u u1 (by omega) u3
end Go.Proofs.Ytlcnjpibfjhibaa.Q
