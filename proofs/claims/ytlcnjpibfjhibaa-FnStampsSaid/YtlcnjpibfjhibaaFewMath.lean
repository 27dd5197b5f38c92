/- The fewest stamps for each amount: plain numbers, no program. -/
import Derived.Test.YtlcnjpibfjhibaaPayMath
set_option linter.unusedVariables false
set_option linter.unusedSimpArgs false
namespace Go.Proofs.Ytlcnjpibfjhibaa.Pay
/-- An amount is paid with so many stamps. -/
inductive PaidC (vs : List Int) : Int → Int → Prop
  | zero : PaidC vs 0 0
  | step {c a v : Int} : PaidC vs c a → v ∈ vs → PaidC vs (c + 1) (a + v)
theorem PaidC.paid {vs : List Int} {c a : Int} (h : PaidC vs c a) : Paid vs a := by
  induction h with
  | zero => exact .zero
  | step _ hm ih => exact .step ih hm
theorem PaidC.nonneg {vs : List Int} {c a : Int} (h : PaidC vs c a) : 0 ≤ c := by
  induction h with
  | zero => exact Int.le_refl _
  | step _ _ ih => omega
theorem Paid.count {vs : List Int} {a : Int} (h : Paid vs a) : ∃ c, PaidC vs c a := by
  induction h with
  | zero => exact ⟨0, .zero⟩
  | step _ hm ih =>
    obtain ⟨c, hc⟩ := ih
    exact ⟨c + 1, .step hc hm⟩
theorem PaidC.back {vs : List Int} {c a : Int} (h : PaidC vs c a) : (c = 0 ∧ a = 0) ∨ ∃ v ∈ vs, PaidC vs (c - 1) (a - v) := by
  cases h with
  | zero => exact .inl ⟨rfl, rfl⟩
  | step h hm =>
    rename_i c a v
    exact .inr ⟨v, hm, by rwa [show c + 1 - 1 = c by omega, show a + v - v = a by omega]⟩
/-- What is offered by one value: -1 for nothing. -/
def cand (out : List Int) (a v : Int) : Int := if v ≤ a ∧ 0 ≤ out.getD (a - v).toNat 0 then out.getD (a - v).toNat 0 + 1 else -1
def few1 (out : List Int) (a : Int) (best v : Int) : Int := if 0 ≤ cand out a v ∧ (best < 0 ∨ cand out a v < best) then cand out a v else best
def fewFor (vs out : List Int) (a : Int) : Int := vs.foldl (few1 out a) (-1)
def fewRow (vs : List Int) : Nat → List Int
  | 0 => [0]
  | k + 1 => fewRow vs k ++ [fewFor vs (fewRow vs k) ((k + 1 : Nat) : Int)]
def few (vs : List Int) (a : Nat) : Int := (fewRow vs a).getD a 0
theorem fewRow_length (vs : List Int) : ∀ k, (fewRow vs k).length = k + 1
  | 0 => rfl
  | k + 1 => by rw [fewRow, List.length_append, fewRow_length vs k]; rfl
theorem fewRow_get (vs : List Int) (j : Nat) : ∀ k, j ≤ k → (fewRow vs k).getD j 0 = few vs j
  | 0, h => by
    have : j = 0 := by omega
    subst this
    rfl
  | k + 1, h => by
    rcases Nat.lt_or_ge j (k + 1) with hlt | hge
    · rw [fewRow, List.getD_eq_getElem?_getD, List.getElem?_append_left (by rw [fewRow_length]; exact hlt), ← List.getD_eq_getElem?_getD]
      exact fewRow_get vs j k (by omega)
    · have : j = k + 1 := by omega
      subst this
      rfl
theorem few_zero (vs : List Int) : few vs 0 = 0 := rfl
theorem few_succ (vs : List Int) (k : Nat) : few vs (k + 1) = fewFor vs (fewRow vs k) ((k + 1 : Nat) : Int) := by
  unfold few
  rw [fewRow, List.getD_eq_getElem?_getD, List.getElem?_append_right (by rw [fewRow_length]; omega), fewRow_length]
  simp
theorem fold_least (f : Int → Int) : ∀ (vs : List Int) (b : Int), (b = -1 ∨ 0 ≤ b) →
    ((vs.foldl (fun best v => if 0 ≤ f v ∧ (best < 0 ∨ f v < best) then f v else best) b = b ∧ ∀ u ∈ vs, 0 ≤ f u → 0 ≤ b ∧ b ≤ f u) ∨
     ∃ v ∈ vs, vs.foldl (fun best v => if 0 ≤ f v ∧ (best < 0 ∨ f v < best) then f v else best) b = f v ∧ 0 ≤ f v ∧ (0 ≤ b → f v < b) ∧ ∀ u ∈ vs, 0 ≤ f u → f v ≤ f u)
  | [], b, hb => .inl ⟨rfl, fun u hu => by cases hu⟩
  | v :: vs, b, hb => by
    rw [List.foldl_cons]
    by_cases hc : 0 ≤ f v ∧ (b < 0 ∨ f v < b)
    · rw [if_pos hc]
      rcases fold_least f vs (f v) (.inr hc.1) with ⟨e, h⟩ | ⟨u, hu, e, h1, h2, h3⟩
      · refine .inr ⟨v, List.mem_cons_self, e, hc.1, fun hb0 => by rcases hc.2 with h | h <;> omega, fun u hu h0 => ?_⟩
        rcases List.mem_cons.1 hu with rfl | hu
        · exact Int.le_refl _
        · exact (h u hu h0).2
      · refine .inr ⟨u, List.mem_cons_of_mem _ hu, e, h1, fun hb0 => by have := h2 hc.1; rcases hc.2 with h | h <;> omega, fun x hx h0 => ?_⟩
        rcases List.mem_cons.1 hx with rfl | hx
        · have := h2 hc.1; omega
        · exact h3 x hx h0
    · rw [if_neg hc]
      have hv : 0 ≤ f v → 0 ≤ b ∧ b ≤ f v := fun h0 => by
        have : ¬ (b < 0 ∨ f v < b) := fun h => hc ⟨h0, h⟩
        omega
      rcases fold_least f vs b hb with ⟨e, h⟩ | ⟨u, hu, e, h1, h2, h3⟩
      · refine .inl ⟨e, fun x hx h0 => ?_⟩
        rcases List.mem_cons.1 hx with rfl | hx
        · exact hv h0
        · exact h x hx h0
      · refine .inr ⟨u, List.mem_cons_of_mem _ hu, e, h1, h2, fun x hx h0 => ?_⟩
        rcases List.mem_cons.1 hx with rfl | hx
        · have := hv h0
          have := h2 this.1
          omega
        · exact h3 x hx h0
theorem few_spec {vs : List Int} (hv : ∀ v ∈ vs, 1 ≤ v) : ∀ a : Nat, (few vs a = -1 ∧ ¬ Paid vs a) ∨ (0 ≤ few vs a ∧ PaidC vs (few vs a) a ∧ ∀ c, PaidC vs c a → few vs a ≤ c) := by
  intro a
  induction a using Nat.strongRecOn with
  | ind a ih =>
    cases a with
    | zero => exact .inr ⟨Int.le_refl _, .zero, fun c h => h.nonneg⟩
    | succ k =>
      rw [few_succ]
      have hc : ∀ v ∈ vs, ∀ x, cand (fewRow vs k) ((k + 1 : Nat) : Int) v = x → 0 ≤ x → v ≤ ((k + 1 : Nat) : Int) ∧ x = few vs (k + 1 - v.toNat) + 1 ∧ 0 ≤ few vs (k + 1 - v.toNat) := by
        intro v hm x hx h0
        have := hv v hm
        unfold cand at hx
        split at hx
        · rename_i hh
          rw [show (((k + 1 : Nat) : Int) - v).toNat = k + 1 - v.toNat by omega, fewRow_get vs _ k (by omega)] at hx hh
          exact ⟨hh.1, hx.symm, hh.2⟩
        · omega
      have hd : ∀ v ∈ vs, v ≤ ((k + 1 : Nat) : Int) → 0 ≤ few vs (k + 1 - v.toNat) → cand (fewRow vs k) ((k + 1 : Nat) : Int) v = few vs (k + 1 - v.toNat) + 1 := by
        intro v hm h1 h2
        have := hv v hm
        unfold cand
        rw [show (((k + 1 : Nat) : Int) - v).toNat = k + 1 - v.toNat by omega, fewRow_get vs _ k (by omega), if_pos ⟨h1, h2⟩]
      have cast : ∀ v ∈ vs, v ≤ ((k + 1 : Nat) : Int) → ((k + 1 - v.toNat : Nat) : Int) = ((k + 1 : Nat) : Int) - v := fun v hm h => by have := hv v hm; omega
      have back : ∀ c, PaidC vs c ((k + 1 : Nat) : Int) → ∃ v ∈ vs, 0 ≤ cand (fewRow vs k) ((k + 1 : Nat) : Int) v ∧ cand (fewRow vs k) ((k + 1 : Nat) : Int) v ≤ c := by
        intro c h
        rcases h.back with ⟨_, h0⟩ | ⟨v, hm, h1⟩
        · omega
        · have hle : v ≤ ((k + 1 : Nat) : Int) := by have := h1.paid.nonneg hv; omega
          have hv1 := hv v hm
          rw [← cast v hm hle] at h1
          rcases ih (k + 1 - v.toNat) (by omega) with ⟨_, hn⟩ | ⟨h2, _, h4⟩
          · exact absurd h1.paid hn
          · have := h4 _ h1
            have e := hd v hm hle h2
            exact ⟨v, hm, by omega, by omega⟩
      rcases fold_least (cand (fewRow vs k) ((k + 1 : Nat) : Int)) vs (-1) (.inl rfl) with ⟨e, h⟩ | ⟨v, hm, e, h1, _, h3⟩
      · refine .inl ⟨e, fun hp => ?_⟩
        obtain ⟨c, hp⟩ := hp.count
        obtain ⟨v, hm, h1, _⟩ := back c hp
        have := h v hm h1
        omega
      · have e' : fewFor vs (fewRow vs k) ((k + 1 : Nat) : Int) = cand (fewRow vs k) ((k + 1 : Nat) : Int) v := e
        obtain ⟨hle, hx, hx0⟩ := hc v hm _ rfl h1
        have hv1 := hv v hm
        refine .inr ⟨by rw [e']; exact h1, ?_, fun c hp => ?_⟩
        · rw [e', hx]
          rcases ih (k + 1 - v.toNat) (by omega) with ⟨h4, _⟩ | ⟨_, h4, _⟩
          · omega
          · have := PaidC.step h4 hm
            rwa [cast v hm hle, show ((k + 1 : Nat) : Int) - v + v = ((k + 1 : Nat) : Int) by omega] at this
        · rw [e']
          obtain ⟨u, hu, h5, h6⟩ := back c hp
          have := h3 u hu h5
          omega
theorem PaidC.le {vs : List Int} (hv : ∀ v ∈ vs, 1 ≤ v) {c a : Int} (h : PaidC vs c a) : c ≤ a := by
  induction h with
  | zero => exact Int.le_refl _
  | step _ hm ih => have := hv _ hm; omega
theorem few_bound {vs : List Int} (hv : ∀ v ∈ vs, 1 ≤ v) (a : Nat) : -1 ≤ few vs a ∧ few vs a ≤ a := by
  rcases few_spec hv a with ⟨h1, _⟩ | ⟨h1, h2, _⟩
  · omega
  · have := h2.le hv
    omega
theorem few_paid {vs : List Int} (hv : ∀ v ∈ vs, 1 ≤ v) (a : Nat) : 0 ≤ few vs a ↔ Paid vs a := by
  rcases few_spec hv a with ⟨h1, h2⟩ | ⟨h1, h2, _⟩
  · constructor
    · intro h; omega
    · intro h; exact absurd h h2
  · exact ⟨fun _ => h2.paid, fun _ => h1⟩
end Go.Proofs.Ytlcnjpibfjhibaa.Pay
