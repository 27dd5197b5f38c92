/- How far amounts can be paid: impl's reach and spec's are the same. -/
import Derived.Test.YtlcnjpibfjhibaaLoops
import Derived.Test.YtlcnjpibfjhibaaQ2
import Derived.Test.YtlcnjpibfjhibaaFewMath
set_option linter.unusedVariables false
set_option linter.unusedSimpArgs false
namespace Go.Proofs.Ytlcnjpibfjhibaa.Q
open Go.RowKit Go.Proofs.YtlcnjpibfjhibaaW.PrintWords Go.Proofs.Ytlcnjpibfjhibaa.Loops
open Go.Proofs.Ytlcnjpibfjhibaa.Pay
/-- One step of the search for the least, at a place of the values. -/
theorem few1_is (out : List Int) (b v : Int) (at_ : Nat) (hv : v ≤ at_) : few1 out (at_ : Int) b v = if 0 ≤ out.getD ((at_ : Int) - v).toNat 0 then (if b < 0 then out.getD ((at_ : Int) - v).toNat 0 + 1 else if out.getD ((at_ : Int) - v).toNat 0 + 1 < b then out.getD ((at_ : Int) - v).toNat 0 + 1 else b) else b := by
  unfold few1 cand
  generalize out.getD ((at_ : Int) - v).toNat 0 = q
  by_cases hq : 0 ≤ q
  · have hc : (if v ≤ (at_ : Int) ∧ 0 ≤ q then q + 1 else -1) = q + 1 := if_pos ⟨hv, hq⟩
    rw [hc, if_pos hq]
    by_cases hb : b < 0
    · rw [if_pos ⟨by omega, .inl hb⟩, if_pos hb]
    · rw [if_neg hb]
      by_cases hl : q + 1 < b
      · rw [if_pos ⟨by omega, .inr hl⟩, if_pos hl]
      · rw [if_neg (fun h => h.2.elim hb hl), if_neg hl]
  · have hc : (if v ≤ (at_ : Int) ∧ 0 ≤ q then q + 1 else -1) = -1 := if_neg (fun h => hq h.2)
    rw [hc, if_neg hq, if_neg (fun h => absurd h.1 (by decide))]
theorem few1_not (out : List Int) (b v : Int) (at_ : Nat) (hv : ¬ v ≤ at_) : few1 out (at_ : Int) b v = b := by
  unfold few1 cand
  have hc : (if v ≤ (at_ : Int) ∧ 0 ≤ out.getD ((at_ : Int) - v).toNat 0 then out.getD ((at_ : Int) - v).toNat 0 + 1 else -1) = -1 := if_neg (fun h => hv h.1)
  rw [hc, if_neg (fun h => absurd h.1 (by decide))]
theorem leastFor_step (out vs : List Int) (at_ i : Nat) (b : Int) (k : Nat) (hi : i < vs.length) (hn : vs.length ≤ 100) (v : Int) (hv : vs.getD i 0 = v) (h1 : 1 ≤ v) (h2 : v ≤ 1000000) (ho : out.length = at_) (ha : at_ ≤ 1000000) (hq : ∀ j, out.getD j 0 ≤ 1000000) :
    impl_leastFor.l0 (k + 1) out (at_ : Int) b vs (vs.length : Int) (i : Int) = impl_leastFor.l0 k out (at_ : Int) (few1 out (at_ : Int) b v) vs (vs.length : Int) ((i + 1 : Nat) : Int) := by
  have e1 : wrap64 ((i : Int) + 1) = ((i + 1 : Nat) : Int) := by rw [wrap_mid (by omega) (by omega)]; omega
  have e8 : rd vs (i : Int) = v := by unfold rd; rw [Int.toNat_natCast]; exact hv
  have e2 : wrap64 ((at_ : Int) - v) = (at_ : Int) - v := wrap_mid (by omega) (by omega)
  have c1 : (i : Int) < (vs.length : Int) := by omega
  have c2 : (0 : Int) ≤ (i : Int) := by omega
  rw [impl_leastFor.l0, e8, e1, e2, if_pos c1, if_pos c2, if_pos c1]
  by_cases hva : v ≤ (at_ : Int)
  · have c3 : 0 ≤ (at_ : Int) - v := by omega
    have c4 : (at_ : Int) - v < (out.length : Int) := by omega
    have hqq := hq ((at_ : Int) - v).toNat
    rw [few1_is _ _ _ _ hva, if_pos hva, if_pos c3, if_pos c4]
    have e9 : rd out ((at_ : Int) - v) = out.getD ((at_ : Int) - v).toNat 0 := rfl
    rw [e9]
    generalize out.getD ((at_ : Int) - v).toNat 0 = q at hqq ⊢
    by_cases hz : 0 ≤ q
    · have e3 : wrap64 (q + 1) = q + 1 := wrap_mid (by omega) (by omega)
      rw [if_pos hz, if_pos (show q ≥ 0 from hz), e3]
      by_cases hb : b < 0
      · rw [if_pos hb, if_pos hb]
      · rw [if_neg hb, if_neg hb]
        by_cases hl : q + 1 < b
        · rw [if_pos hl, if_pos hl]
        · rw [if_neg hl, if_neg hl]
    · rw [if_neg hz, if_neg (show ¬ q ≥ 0 from hz)]
  · rw [few1_not _ _ _ _ hva, if_neg hva]
theorem own_step (out vs : List Int) (s : Int) (at_ i : Nat) (b : Int) (k : Nat) (hi : i < vs.length) (hn : vs.length ≤ 100) (v : Int) (hv : vs.getD i 0 = v) (h1 : 1 ≤ v) (h2 : v ≤ 1000000) (ho : out.length = at_) (ha : at_ ≤ 1000000) (hq : ∀ j, out.getD j 0 ≤ 1000000) :
    spec_l01Reach.l1 (k + 1) vs s out (at_ : Int) b (i : Int) = spec_l01Reach.l1 k vs s out (at_ : Int) (few1 out (at_ : Int) b v) ((i + 1 : Nat) : Int) := by
  have e1 : wrap64 ((i : Int) + 1) = ((i + 1 : Nat) : Int) := by rw [wrap_mid (by omega) (by omega)]; omega
  have e8 : rd vs (i : Int) = v := by unfold rd; rw [Int.toNat_natCast]; exact hv
  have e2 : wrap64 ((at_ : Int) - v) = (at_ : Int) - v := wrap_mid (by omega) (by omega)
  have c1 : (i : Int) < (vs.length : Int) := by omega
  have c2 : (0 : Int) ≤ (i : Int) := by omega
  rw [spec_l01Reach.l1, e8, e1, e2, if_pos c1, if_pos c2]
  by_cases hva : v ≤ (at_ : Int)
  · have c3 : 0 ≤ (at_ : Int) - v := by omega
    have c4 : (at_ : Int) - v < (out.length : Int) := by omega
    have hqq := hq ((at_ : Int) - v).toNat
    rw [few1_is _ _ _ _ hva, if_pos hva, if_pos c3, if_pos c4]
    have e9 : rd out ((at_ : Int) - v) = out.getD ((at_ : Int) - v).toNat 0 := rfl
    rw [e9]
    generalize out.getD ((at_ : Int) - v).toNat 0 = q at hqq ⊢
    by_cases hz : 0 ≤ q
    · have e3 : wrap64 (q + 1) = q + 1 := wrap_mid (by omega) (by omega)
      rw [if_pos hz, if_pos (show q ≥ 0 from hz), e3]
      by_cases hb : b < 0
      · rw [if_pos hb, if_pos hb]
      · rw [if_neg hb, if_neg hb]
        by_cases hl : q + 1 < b
        · rw [if_pos hl, if_pos hl]
        · rw [if_neg hl, if_neg hl]
    · rw [if_neg hz, if_neg (show ¬ q ≥ 0 from hz)]
  · rw [few1_not _ _ _ _ hva, if_neg hva]
theorem fewRow_le {vs : List Int} (hv : ∀ v ∈ vs, 1 ≤ v) (a : Nat) (ha : a ≤ 1000000) (j : Nat) : (fewRow vs a).getD j 0 ≤ 1000000 := by
  rcases Nat.lt_or_ge a j with h | h
  · rw [List.getD_eq_getElem?_getD, List.getElem?_eq_none (by rw [fewRow_length]; omega)]
    simp
  · rw [fewRow_get vs j a h]
    have := (few_bound hv j).2
    omega
theorem mem_at {vs : List Int} {i : Nat} (h : i < vs.length) : vs.getD i 0 ∈ vs := by
  rw [List.getD_eq_getElem?_getD, List.getElem?_eq_getElem h]
  exact List.getElem_mem _
theorem leastFor_is {vs : List Int} (hv : ∀ v ∈ vs, 1 ≤ v ∧ v ≤ 1000000) (hn : vs.length ≤ 100) (a : Nat) (ha : a + 1 ≤ 1000000) : Ev (fun k => impl_leastFor.f k vs (fewRow vs a) ((a + 1 : Nat) : Int)) (few vs (a + 1)) := by
  have hq := fewRow_le (fun v h => (hv v h).1) a (by omega)
  have hl := fewRow_length vs a
  rw [few_succ]
  unfold fewFor
  generalize fewRow vs a = out at hq hl
  have key : ∀ (d i : Nat) (b : Int), vs.length - i = d → i ≤ vs.length → Ev (fun k => impl_leastFor.l0 k out ((a + 1 : Nat) : Int) b vs (vs.length : Int) (i : Int)) ((vs.drop i).foldl (few1 out ((a + 1 : Nat) : Int)) b) := by
    intro d
    induction d with
    | zero =>
      intro i b hd hi
      rw [List.drop_of_length_le (by omega)]
      refine Ev.step (f := fun _ => some b) (fun k => ?_) (Ev.now _)
      simp only [impl_leastFor.l0]
      rw [if_neg (by omega)]
    | succ d ih =>
      intro i b hd hi
      have hi2 : i < vs.length := by omega
      have hm := hv _ (mem_at hi2)
      rw [drop_at vs 0 i hi2, List.foldl_cons]
      exact Ev.step (fun k => leastFor_step out vs (a + 1) i b k hi2 hn _ rfl hm.1 hm.2 hl ha hq) (ih (i + 1) _ (by omega) (by omega))
  exact key _ 0 (-1) rfl (Nat.zero_le _)
/-- The last amount up to which all can be paid with so many stamps. -/
def reachN (vs : List Int) (s : Int) : Nat → Nat → Nat
  | 0, a => a
  | f + 1, a => if few vs (a + 1) < 0 ∨ few vs (a + 1) > s then a else reachN vs s f (a + 1)
theorem wrap_pred (a : Nat) (ha : a ≤ 1000000) : wrap64 (((a + 1 : Nat) : Int) - 1) = (a : Int) := by rw [wrap_mid (by omega) (by omega)]; omega
theorem wrap_next (a : Nat) (ha : a ≤ 1000000) : wrap64 ((a : Int) + 1) = ((a + 1 : Nat) : Int) := by rw [wrap_mid (by omega) (by omega)]; omega
theorem reach_stop {vs : List Int} (hv : ∀ v ∈ vs, 1 ≤ v ∧ v ≤ 1000000) (hn : vs.length ≤ 100) {s : Int} {a : Nat} (ha : a ≤ 900000) (hbad : few vs (a + 1) < 0 ∨ few vs (a + 1) > s) : Ev (fun k => impl_reach.l0 k vs s (fewRow vs a) ((a + 1 : Nat) : Int)) (a : Int) := by
  obtain ⟨k0, h0⟩ := leastFor_is hv hn a (by omega)
  refine ⟨k0 + 1, fun k hk => ?_⟩
  obtain ⟨j, rfl⟩ : ∃ j, k = j + 1 := ⟨k - 1, by omega⟩
  have h9 := h0 j (by omega)
  simp only at h9 ⊢
  rw [impl_reach.l0, h9, Option.bind_some, wrap_pred a (by omega)]
  by_cases h : few vs (a + 1) < 0
  · rw [if_pos h]
  · rw [if_neg h, if_pos (hbad.resolve_left h)]
theorem reach_go {vs : List Int} (hv : ∀ v ∈ vs, 1 ≤ v ∧ v ≤ 1000000) (hn : vs.length ≤ 100) {s : Int} {a : Nat} (ha : a ≤ 900000) (hbad : ¬ (few vs (a + 1) < 0 ∨ few vs (a + 1) > s)) {r : Int} (hr : Ev (fun k => impl_reach.l0 k vs s (fewRow vs (a + 1)) ((a + 1 + 1 : Nat) : Int)) r) : Ev (fun k => impl_reach.l0 k vs s (fewRow vs a) ((a + 1 : Nat) : Int)) r := by
  obtain ⟨k0, h0⟩ := leastFor_is hv hn a (by omega)
  obtain ⟨k1, h1⟩ := hr
  refine ⟨k0 + k1 + 1, fun k hk => ?_⟩
  obtain ⟨j, rfl⟩ : ∃ j, k = j + 1 := ⟨k - 1, by omega⟩
  have h9 := h0 j (by omega)
  have h8 := h1 j (by omega)
  have hl := fewRow_length vs a
  have hlen : (fewRow vs a).length < 17592186044416 := by omega
  simp only at h9 h8 ⊢
  rw [fewRow, ← few_succ] at h8
  rw [impl_reach.l0, h9, Option.bind_some, if_neg (fun h => hbad (.inl h)), if_neg (fun h => hbad (.inr h)), if_pos hlen, wrap_next (a + 1) (by omega), h8]
theorem reach_is {vs : List Int} (hv : ∀ v ∈ vs, 1 ≤ v ∧ v ≤ 1000000) (hn : vs.length ≤ 100) {s : Int} {M : Nat} (hM : M ≤ 900000) (hb : ∀ b, 0 ≤ few vs b → few vs b ≤ s → b ≤ M) : ∀ (f a : Nat), M ≤ a + f → a ≤ M → Ev (fun k => impl_reach.l0 k vs s (fewRow vs a) ((a + 1 : Nat) : Int)) (reachN vs s (f + 1) a : Nat) := by
  intro f
  induction f with
  | zero =>
    intro a h1 h2
    have hbad : few vs (a + 1) < 0 ∨ few vs (a + 1) > s := by
      rcases Int.lt_or_le (few vs (a + 1)) 0 with h | h
      · exact .inl h
      · rcases Int.lt_or_le s (few vs (a + 1)) with h3 | h3
        · exact .inr h3
        · have := hb _ h h3
          omega
    rw [reachN, if_pos hbad]
    exact reach_stop hv hn (by omega) hbad
  | succ f ih =>
    intro a h1 h2
    by_cases hbad : few vs (a + 1) < 0 ∨ few vs (a + 1) > s
    · rw [reachN, if_pos hbad]
      exact reach_stop hv hn (by omega) hbad
    · rw [reachN, if_neg hbad]
      have hle := hb (a + 1) (by omega) (by omega)
      exact reach_go hv hn (by omega) hbad (ih (a + 1) (by omega) hle)
theorem own_is {vs : List Int} (hv : ∀ v ∈ vs, 1 ≤ v ∧ v ≤ 1000000) (hn : vs.length ≤ 100) (s : Int) (a : Nat) (ha : a + 1 ≤ 1000000) {r : Int} (hr : Ev (fun k => spec_l01Reach.l1 k vs s (fewRow vs a) ((a + 1 : Nat) : Int) (few vs (a + 1)) (vs.length : Int)) r) : Ev (fun k => spec_l01Reach.l0 k vs s (fewRow vs a) ((a + 1 : Nat) : Int)) r := by
  have hq := fewRow_le (fun v h => (hv v h).1) a (by omega)
  have hl := fewRow_length vs a
  rw [few_succ] at hr
  unfold fewFor at hr
  generalize fewRow vs a = out at hq hl hr
  have key : ∀ (d i : Nat) (b : Int), vs.length - i = d → i ≤ vs.length → (vs.drop i).foldl (few1 out ((a + 1 : Nat) : Int)) b = vs.foldl (few1 out ((a + 1 : Nat) : Int)) (-1) → Ev (fun k => spec_l01Reach.l1 k vs s out ((a + 1 : Nat) : Int) b (i : Int)) r := by
    intro d
    induction d with
    | zero =>
      intro i b hd hi he
      rw [List.drop_of_length_le (by omega), List.foldl_nil] at he
      obtain rfl : i = vs.length := by omega
      rw [he]
      exact hr
    | succ d ih =>
      intro i b hd hi he
      have hi2 : i < vs.length := by omega
      have hm := hv _ (mem_at hi2)
      rw [drop_at vs 0 i hi2, List.foldl_cons] at he
      exact Ev.step (fun k => own_step out vs s (a + 1) i b k hi2 hn _ rfl hm.1 hm.2 hl ha hq) (ih (i + 1) _ (by omega) (by omega) he)
  refine Ev.step (fun k => ?_) (key _ 0 (-1) rfl (Nat.zero_le _) rfl)
  rw [spec_l01Reach.l0]
  rfl
theorem sreach_stop {vs : List Int} (hv : ∀ v ∈ vs, 1 ≤ v ∧ v ≤ 1000000) (hn : vs.length ≤ 100) {s : Int} {a : Nat} (ha : a ≤ 900000) (hbad : few vs (a + 1) < 0 ∨ few vs (a + 1) > s) : Ev (fun k => spec_l01Reach.l0 k vs s (fewRow vs a) ((a + 1 : Nat) : Int)) (a : Int) := by
  refine own_is hv hn s a (by omega) (Ev.step (f := fun _ => some (a : Int)) (fun k => ?_) (Ev.now _))
  rw [spec_l01Reach.l1, if_neg (by omega), wrap_pred a (by omega)]
  by_cases h : few vs (a + 1) < 0
  · rw [if_pos h]
  · rw [if_neg h, if_pos (hbad.resolve_left h)]
theorem sreach_go {vs : List Int} (hv : ∀ v ∈ vs, 1 ≤ v ∧ v ≤ 1000000) (hn : vs.length ≤ 100) {s : Int} {a : Nat} (ha : a ≤ 900000) (hbad : ¬ (few vs (a + 1) < 0 ∨ few vs (a + 1) > s)) {r : Int} (hr : Ev (fun k => spec_l01Reach.l0 k vs s (fewRow vs (a + 1)) ((a + 1 + 1 : Nat) : Int)) r) : Ev (fun k => spec_l01Reach.l0 k vs s (fewRow vs a) ((a + 1 : Nat) : Int)) r := by
  refine own_is hv hn s a (by omega) (Ev.step (fun k => ?_) hr)
  have hl := fewRow_length vs a
  have hlen : (fewRow vs a).length < 17592186044416 := by omega
  rw [spec_l01Reach.l1, if_neg (by omega), if_neg (fun h => hbad (.inl h)), if_neg (fun h => hbad (.inr h)), if_pos hlen, wrap_next (a + 1) (by omega), few_succ, fewRow]
theorem sreach_is {vs : List Int} (hv : ∀ v ∈ vs, 1 ≤ v ∧ v ≤ 1000000) (hn : vs.length ≤ 100) {s : Int} {M : Nat} (hM : M ≤ 900000) (hb : ∀ b, 0 ≤ few vs b → few vs b ≤ s → b ≤ M) : ∀ (f a : Nat), M ≤ a + f → a ≤ M → Ev (fun k => spec_l01Reach.l0 k vs s (fewRow vs a) ((a + 1 : Nat) : Int)) (reachN vs s (f + 1) a : Nat) := by
  intro f
  induction f with
  | zero =>
    intro a h1 h2
    have hbad : few vs (a + 1) < 0 ∨ few vs (a + 1) > s := by
      rcases Int.lt_or_le (few vs (a + 1)) 0 with h | h
      · exact .inl h
      · rcases Int.lt_or_le s (few vs (a + 1)) with h3 | h3
        · exact .inr h3
        · have := hb _ h h3
          omega
    rw [reachN, if_pos hbad]
    exact sreach_stop hv hn (by omega) hbad
  | succ f ih =>
    intro a h1 h2
    by_cases hbad : few vs (a + 1) < 0 ∨ few vs (a + 1) > s
    · rw [reachN, if_pos hbad]
      exact sreach_stop hv hn (by omega) hbad
    · rw [reachN, if_neg hbad]
      have hle := hb (a + 1) (by omega) (by omega)
      exact sreach_go hv hn (by omega) hbad (ih (a + 1) (by omega) hle)
end Go.Proofs.Ytlcnjpibfjhibaa.Q
