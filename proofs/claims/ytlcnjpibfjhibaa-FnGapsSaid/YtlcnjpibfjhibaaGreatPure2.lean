/- The greatest gap: spec's search among the residues ends, at a table that tells it. -/
import Derived.Test.YtlcnjpibfjhibaaGreatPure
set_option linter.unusedVariables false
set_option linter.unusedSimpArgs false
namespace Go.Proofs.Ytlcnjpibfjhibaa.Q
open Go.RowKit Go.Proofs.YtlcnjpibfjhibaaW.PrintWords Go.Proofs.Ytlcnjpibfjhibaa.Loops
open Go.Proofs.Ytlcnjpibfjhibaa.Pay
attribute [local irreducible] payL
/-- What is closed of a table: all residues below r, and at r all values below place i. -/
def Closed (vs : List Int) (n : Nat) (L : List Int) (r i : Nat) : Prop := ∀ r' i', (r' < r ∨ (r' = r ∧ i' < i)) → 1 ≤ i' → i' < vs.length → r' < n → 0 ≤ L.getD r' 0 → 0 ≤ L.getD (to_ n r' (vs.getD i' 0)) 0 ∧ L.getD (to_ n r' (vs.getD i' 0)) 0 ≤ L.getD r' 0 + vs.getD i' 0
/-- A table that is closed is the one of the least amounts. -/
theorem Tab.least {vs : List Int} {n : Nat} {L : List Int} (h : Tab vs n L) (hn : 0 < n) (h0 : vs.getD 0 0 = n) (hv : ∀ v ∈ vs, 1 ≤ v) (hc : Closed vs n L n 0) : Least (n : Int) vs (fun r => L.getD r.toNat 0) := by
  refine ⟨h.zero, fun r h1 h2 h3 => ?_, fun r h1 h2 h3 v hm => ?_⟩
  · rcases h.at_ r.toNat (by omega) with h4 | ⟨_, h5, h6, _⟩
    · omega
    · exact ⟨h5, by rw [h6]; omega⟩
  · obtain ⟨i, hi, rfl⟩ := List.getElem_of_mem hm
    have hgi := getD_at vs 0 i hi
    rw [← hgi]
    cases i with
    | zero =>
      rw [h0, Int.add_emod_right, Int.emod_eq_of_lt h1 h2]
      exact ⟨h3, by omega⟩
    | succ i =>
      have := hc r.toNat (i + 1) (.inl (by omega)) (by omega) hi (by omega) h3
      unfold to_ at this
      rw [Int.toNat_of_nonneg h1] at this
      exact this
/-- The greatest of a list, 0 or more. -/
def greatTo (L : List Int) : Nat → Int
  | 0 => 0
  | i + 1 => if greatTo L i > L.getD i 0 then greatTo L i else L.getD i 0
theorem greatTo_spec (L : List Int) : ∀ i, (∀ j, j < i → L.getD j 0 ≤ greatTo L i) ∧ (greatTo L i = 0 ∨ ∃ j, j < i ∧ L.getD j 0 = greatTo L i) ∧ 0 ≤ greatTo L i
  | 0 => ⟨fun j hj => by omega, .inl rfl, Int.le_refl _⟩
  | i + 1 => by
    obtain ⟨h1, h2, h3⟩ := greatTo_spec L i
    rw [greatTo]
    split
    · refine ⟨fun j hj => ?_, ?_, h3⟩
      · rcases Nat.lt_or_ge j i with hlt | hge
        · exact h1 j hlt
        · have : j = i := by omega
          subst this
          omega
      · rcases h2 with h2 | ⟨j, hj, e⟩
        · exact .inl h2
        · exact .inr ⟨j, by omega, e⟩
    · refine ⟨fun j hj => ?_, .inr ⟨i, by omega, rfl⟩, by omega⟩
      rcases Nat.lt_or_ge j i with hlt | hge
      · have := h1 j hlt
        omega
      · have : j = i := by omega
        subst this
        exact Int.le_refl _
/-- spec's last loop. -/
theorem great_loop {n : Nat} {L : List Int} (hl : L.length = n) (hn : n ≤ 1000) : Ev (fun k => spec_GreatestGap.l5 k (n : Int) L 0 0) (wrap64 (greatTo L n - n), 0) := by
  have key : ∀ (d i : Nat), n - i = d → i ≤ n → Ev (fun k => spec_GreatestGap.l5 k (n : Int) L (greatTo L i) (i : Int)) (wrap64 (greatTo L n - n), 0) := by
    intro d
    induction d with
    | zero =>
      intro i hd hi
      have e : i = n := by omega
      refine Ev.step (f := fun _ => some (wrap64 (greatTo L n - n), 0)) (fun k => ?_) (Ev.now _)
      simp only [spec_GreatestGap.l5]
      rw [if_neg (by omega), e]
    | succ d ih =>
      intro i hd hi
      have e2 : wrap64 ((i : Int) + 1) = ((i + 1 : Nat) : Int) := by rw [wrap_mid (by omega) (by omega)]; omega
      have hi2 := ih (i + 1) (by omega) (by omega)
      rw [greatTo] at hi2
      refine Ev.step (fun k => ?_) hi2
      simp only [spec_GreatestGap.l5]
      rw [if_pos (by omega), if_pos (by omega), if_pos (by omega), rd_nat, e2]
      unfold spec_l00Max.f
      split <;> rfl
  exact key _ 0 rfl (Nat.zero_le _)
/-- A closed table tells the greatest gap. -/
theorem closed_gap {vs : List Int} (h : Vals vs) {n : Nat} {L : List Int} (hT : Tab vs n L) (h0 : vs.getD 0 0 = n) (h2 : vs.getD 0 0 ≠ 1) (hg : gcdL vs = 1) (hc : Closed vs n L n 0) : ∃ g, Ev (fun k => spec_GreatestGap.l2 k vs (n : Int) L false) (g, 0) ∧ GapIs vs g := by
  have h1 := h.len1
  have hm0 := getD_mem vs 0 h1
  have hb := h.mem _ hm0
  have hle := hT.least (by omega) h0 h.pos hc
  obtain ⟨g1, g2, g3⟩ := greatTo_spec L n
  have hall := hle.all (by omega) (fun v hv => by have := h.pos v hv; omega) hg
  have hbound : ∀ r, r < n → L.getD r 0 ≤ 250000 := by
    intro r hr
    have hs := setN_le L
    rw [hT.len] at hs
    rcases hT.at_ r hr with h5 | ⟨_, _, _, h5⟩ <;> omega
  have hgreat : greatTo L n ≤ 250000 := by
    rcases g2 with h5 | ⟨j, hj, h5⟩
    · omega
    · have := hbound j hj
      omega
  have hgap := hle.gap (by omega) (by rw [← h0]; exact hm0) (h.two h2) hg (greatTo L n) (fun r r1 r2 => g1 r.toNat (by omega)) (by
    rcases g2 with h5 | ⟨j, hj, h5⟩
    · exact ⟨0, Int.le_refl _, by omega, by rw [h5]; exact hT.zero⟩
    · exact ⟨(j : Int), by omega, by omega, by simp only [Int.toNat_natCast]; exact h5⟩)
  have e1 : wrap64 (greatTo L n - n) = greatTo L n - n := wrap_mid (by omega) (by omega)
  refine ⟨greatTo L n - n, Ev.step (fun k => ?_) (by have := great_loop hT.len (by omega); rw [e1] at this; exact this), ⟨hgap.1, by omega, hgap.2.1, hgap.2.2⟩⟩
  simp only [spec_GreatestGap.l2]
  rw [if_neg (by simp)]
/-- The rounds of spec's search. -/
theorem round2 (vs L : List Int) (n : Nat) (k : Nat) : spec_GreatestGap.l2 (k + 1) vs (n : Int) L true = spec_GreatestGap.l3 k vs (n : Int) L false ((0 : Nat) : Int) := by
  simp only [spec_GreatestGap.l2]
  rw [if_pos trivial]
  exact congrArg _ rfl
theorem round3 (vs L : List Int) (n r : Nat) (more : Bool) (hr : r < n) (k : Nat) : spec_GreatestGap.l3 (k + 1) vs (n : Int) L more (r : Int) = spec_GreatestGap.l4 k vs (n : Int) L more (r : Int) ((1 : Nat) : Int) := by
  simp only [spec_GreatestGap.l3]
  rw [if_pos (by omega)]
  exact congrArg _ rfl
theorem round3_end (vs L : List Int) (n : Nat) (more : Bool) (k : Nat) : spec_GreatestGap.l3 (k + 1) vs (n : Int) L more (n : Int) = spec_GreatestGap.l2 k vs (n : Int) L more := by
  simp only [spec_GreatestGap.l3]
  rw [if_neg (by omega)]
theorem round4 (vs L : List Int) (n r i : Nat) (more q : Bool) (hr : r < L.length) (hi : i < vs.length) (hq : decide (L.getD r 0 ≥ 0) = q) (k : Nat) : spec_GreatestGap.l4 (k + 1) vs (n : Int) L more (r : Int) (i : Int) = spec_GreatestGap.j5 k vs (n : Int) L more (r : Int) (i : Int) q := by
  simp only [spec_GreatestGap.l4]
  rw [if_pos (by omega), if_pos (by omega), if_pos (by omega), rd_nat, hq]
theorem round4_end (vs L : List Int) (n r : Nat) (more : Bool) (k : Nat) : spec_GreatestGap.l4 (k + 1) vs (n : Int) L more (r : Int) (vs.length : Int) = spec_GreatestGap.j5 k vs (n : Int) L more (r : Int) (vs.length : Int) false := by
  simp only [spec_GreatestGap.l4]
  rw [if_neg (by omega)]
theorem round5_end (vs L : List Int) (n r i : Nat) (more : Bool) (hr : r ≤ 1048576) (k : Nat) : spec_GreatestGap.j5 (k + 1) vs (n : Int) L more (r : Int) (i : Int) false = spec_GreatestGap.l3 k vs (n : Int) L more ((r + 1 : Nat) : Int) := by
  have e2 : wrap64 ((r : Int) + 1) = ((r + 1 : Nat) : Int) := by rw [wrap_mid (by omega) (by omega)]; omega
  simp only [spec_GreatestGap.j5]
  rw [if_neg (by simp), e2]
theorem round5_set (vs L : List Int) (n r i : Nat) (more : Bool) (v : Int) (hn : 0 < n) (hl : L.length = n) (hr : r < n) (hn2 : n ≤ 1000) (hi : i < vs.length) (hvl : vs.length ≤ 8) (hv : vs.getD i 0 = v) (hv1 : 1 ≤ v) (hv5 : v ≤ 500) (hL : L.getD r 0 ≤ 250000) (h0 : 0 ≤ L.getD r 0)
    (hc : L.getD (to_ n r v) 0 < 0 ∨ L.getD r 0 + v < L.getD (to_ n r v) 0) (k : Nat) : spec_GreatestGap.j5 (k + 1) vs (n : Int) L more (r : Int) (i : Int) true = spec_GreatestGap.l4 k vs (n : Int) (L.set (to_ n r v) (L.getD r 0 + v)) true (r : Int) ((i + 1 : Nat) : Int) := by
  have htl := to_lt (r := r) (v := v) hn
  have e2 : wrap64 ((i : Int) + 1) = ((i + 1 : Nat) : Int) := by rw [wrap_mid (by omega) (by omega)]; omega
  have e3 : wrap64 ((r : Int) + v) = (r : Int) + v := wrap_mid (by omega) (by omega)
  have e4 : wrap64 (L.getD r 0 + v) = L.getD r 0 + v := wrap_mid (by omega) (by omega)
  have e5 : Int.tmod ((r : Int) + v) (n : Int) = (to_ n r v : Int) := by
    unfold to_
    rw [Int.tmod_eq_emod_of_nonneg (by omega), Int.toNat_of_nonneg (Int.emod_nonneg _ (by omega))]
  simp only [spec_GreatestGap.j5]
  rw [if_pos trivial, if_pos (by omega), if_pos (by omega), if_neg (by omega)]
  simp only [rd_nat, hv, e3, e4, e5, Int.toNat_natCast, e2]
  rw [if_pos (by omega), if_pos (by omega)]
  by_cases h6 : L.getD (to_ n r v) 0 < 0
  · rw [if_pos h6, if_pos (by omega), if_pos (by omega)]
  · rw [if_neg h6, if_pos (by omega), if_pos (by omega), if_pos (hc.resolve_left h6)]
theorem round5_keep (vs L : List Int) (n r i : Nat) (more : Bool) (v : Int) (hn : 0 < n) (hl : L.length = n) (hr : r < n) (hn2 : n ≤ 1000) (hi : i < vs.length) (hvl : vs.length ≤ 8) (hv : vs.getD i 0 = v) (hv1 : 1 ≤ v) (hv5 : v ≤ 500) (hL : L.getD r 0 ≤ 250000) (h0 : 0 ≤ L.getD r 0)
    (h7 : ¬ L.getD (to_ n r v) 0 < 0) (h8 : ¬ L.getD r 0 + v < L.getD (to_ n r v) 0) (k : Nat) : spec_GreatestGap.j5 (k + 1) vs (n : Int) L more (r : Int) (i : Int) true = spec_GreatestGap.l4 k vs (n : Int) L more (r : Int) ((i + 1 : Nat) : Int) := by
  have htl := to_lt (r := r) (v := v) hn
  have e2 : wrap64 ((i : Int) + 1) = ((i + 1 : Nat) : Int) := by rw [wrap_mid (by omega) (by omega)]; omega
  have e3 : wrap64 ((r : Int) + v) = (r : Int) + v := wrap_mid (by omega) (by omega)
  have e4 : wrap64 (L.getD r 0 + v) = L.getD r 0 + v := wrap_mid (by omega) (by omega)
  have e5 : Int.tmod ((r : Int) + v) (n : Int) = (to_ n r v : Int) := by
    unfold to_
    rw [Int.tmod_eq_emod_of_nonneg (by omega), Int.toNat_of_nonneg (Int.emod_nonneg _ (by omega))]
  simp only [spec_GreatestGap.j5]
  rw [if_pos trivial, if_pos (by omega), if_pos (by omega), if_neg (by omega)]
  simp only [rd_nat, hv, e3, e4, e5, Int.toNat_natCast, e2]
  rw [if_pos (by omega), if_pos (by omega), if_neg h7, if_pos (by omega), if_pos (by omega), if_neg h8]
/-- The search ends, at a closed table. -/
def Ends (vs : List Int) (n : Nat) (g : Nat → Option (Int × Int)) : Prop := ∃ x, Ev g (x, 0) ∧ GapIs vs x
theorem Ends.step {vs : List Int} {n : Nat} {g f : Nat → Option (Int × Int)} (h : Ends vs n f) (hs : ∀ k, g (k + 1) = f k) : Ends vs n g := by
  obtain ⟨x, h1, h2⟩ := h
  exact ⟨x, Ev.step hs h1, h2⟩
theorem Closed.below {vs : List Int} {n : Nat} {L : List Int} {r i j : Nat} (h : Closed vs n L r i) (hj : j ≤ i) : Closed vs n L r j := fun r' i' hh i1 i2 i3 i4 =>
  h r' i' (by rcases hh with hh | ⟨h1, h2⟩; exact .inl hh; exact .inr ⟨h1, by omega⟩) i1 i2 i3 i4
theorem Closed.unset {vs : List Int} {n : Nat} {L : List Int} {r : Nat} (h : Closed vs n L r 1) (hs : ¬ 0 ≤ L.getD r 0) (i : Nat) : Closed vs n L r i := fun r' i' hh i1 i2 i3 i4 => by
  rcases hh with hh | ⟨h1, h2⟩
  · exact h r' i' (.inl hh) i1 i2 i3 i4
  · subst h1
    exact absurd i4 hs
theorem Closed.row {vs : List Int} {n : Nat} {L : List Int} {r : Nat} (h : Closed vs n L r vs.length) (j : Nat) (hj : j ≤ 1) : Closed vs n L (r + 1) j := fun r' i' hh i1 i2 i3 i4 => by
  rcases hh with hh | ⟨h1, h2⟩
  · rcases Nat.lt_or_ge r' r with hlt | hge
    · exact h r' i' (.inl hlt) i1 i2 i3 i4
    · exact h r' i' (.inr ⟨by omega, i2⟩) i1 i2 i3 i4
  · omega
theorem Closed.next {vs : List Int} {n : Nat} {L : List Int} {r i : Nat} (h : Closed vs n L r i) (h7 : ¬ L.getD (to_ n r (vs.getD i 0)) 0 < 0) (h8 : ¬ L.getD r 0 + vs.getD i 0 < L.getD (to_ n r (vs.getD i 0)) 0) : Closed vs n L r (i + 1) := fun r' i' hh i1 i2 i3 i4 => by
  rcases hh with hh | ⟨h1, h2⟩
  · exact h r' i' (.inl hh) i1 i2 i3 i4
  · rcases Nat.lt_or_ge i' i with hlt | hge
    · exact h r' i' (.inr ⟨h1, hlt⟩) i1 i2 i3 i4
    · have : i' = i := by omega
      subst this h1
      omega
/-- The state within a pass that began below m. -/
structure In (vs : List Int) (n m : Nat) (L : List Int) (more : Bool) (r i : Nat) : Prop where
  tab : Tab vs n L
  fell : more = true → leftL L < m
  same : more = false → leftL L ≤ m ∧ Closed vs n L r i
theorem In.le {vs : List Int} {n m : Nat} {L : List Int} {more : Bool} {r i : Nat} (h : In vs n m L more r i) : leftL L ≤ m := by
  cases hm : more with
  | true => have := h.fell hm; omega
  | false => exact (h.same hm).1
theorem row_ends {vs : List Int} (h : Vals vs) {n : Nat} (h0 : vs.getD 0 0 = n) {m r : Nat} (hr : r < n)
    (IH : ∀ (L : List Int) (more : Bool), In vs n m L more (r + 1) 1 → Ends vs n (fun k => spec_GreatestGap.l3 k vs (n : Int) L more ((r + 1 : Nat) : Int))) :
    ∀ (di i : Nat), vs.length - i = di → 1 ≤ i → i ≤ vs.length → ∀ (L : List Int) (more : Bool), In vs n m L more r i → Ends vs n (fun k => spec_GreatestGap.l4 k vs (n : Int) L more (r : Int) (i : Int)) := by
  have hb := h.mem _ (getD_mem vs 0 h.len1)
  have h8 := h.len8
  intro di
  induction di with
  | zero =>
    intro i hd hi hil L more hI
    have e : i = vs.length := by omega
    subst e
    refine Ends.step (Ends.step (IH L more ⟨hI.tab, hI.fell, fun hm => ⟨(hI.same hm).1, (hI.same hm).2.row 1 (Nat.le_refl _)⟩⟩) (round5_end vs L n r vs.length more (by omega))) (round4_end vs L n r more)
  | succ di ih =>
    intro i hd hi hil L more hI
    have hT := hI.tab
    have hrl : r < L.length := by rw [hT.len]; exact hr
    by_cases hset : L.getD r 0 ≥ 0
    · refine Ends.step ?_ (round4 vs L n r i more true hrl (by omega) (decide_eq_true hset))
      have hvm := getD_mem vs i (by omega)
      have hvb := h.mem _ hvm
      have hLr : L.getD r 0 ≤ 250000 := by
        have hs := setN_le L
        rw [hT.len] at hs
        rcases hT.at_ r hr with h5 | ⟨_, _, _, h5⟩ <;> omega
      by_cases hc : L.getD (to_ n r (vs.getD i 0)) 0 < 0 ∨ L.getD r 0 + vs.getD i 0 < L.getD (to_ n r (vs.getD i 0)) 0
      · obtain ⟨hT2, hlt⟩ := hT.set (by omega) (by omega) hr hvm hvb.1 hvb.2 hset hc
        have hle := hI.le
        exact Ends.step (ih (i + 1) (by omega) (by omega) (by omega) _ true ⟨hT2, fun _ => by omega, fun hm => by cases hm⟩) (round5_set vs L n r i more _ (by omega) hT.len hr (by omega) (by omega) h8 rfl hvb.1 hvb.2 hLr hset hc)
      · have h7 : ¬ L.getD (to_ n r (vs.getD i 0)) 0 < 0 := fun h7 => hc (.inl h7)
        have h9 : ¬ L.getD r 0 + vs.getD i 0 < L.getD (to_ n r (vs.getD i 0)) 0 := fun h8 => hc (.inr h8)
        exact Ends.step (ih (i + 1) (by omega) (by omega) (by omega) L more ⟨hT, hI.fell, fun hm => ⟨(hI.same hm).1, (hI.same hm).2.next h7 h9⟩⟩) (round5_keep vs L n r i more _ (by omega) hT.len hr (by omega) (by omega) h8 rfl hvb.1 hvb.2 hLr hset h7 h9)
    · refine Ends.step (Ends.step (IH L more ⟨hT, hI.fell, fun hm => ⟨(hI.same hm).1, (((hI.same hm).2.below hi).unset hset vs.length).row 1 (Nat.le_refl _)⟩⟩) (round5_end vs L n r i more (by omega))) (round4 vs L n r i more false hrl (by omega) (decide_eq_false hset))
theorem pass_ends {vs : List Int} (h : Vals vs) {n : Nat} (h0 : vs.getD 0 0 = n) (h2 : vs.getD 0 0 ≠ 1) (hg : gcdL vs = 1) {m : Nat}
    (IH : ∀ L : List Int, Tab vs n L → leftL L < m → Ends vs n (fun k => spec_GreatestGap.l2 k vs (n : Int) L true)) :
    ∀ (dr r : Nat), n - r = dr → r ≤ n → ∀ (L : List Int) (more : Bool), In vs n m L more r 1 → Ends vs n (fun k => spec_GreatestGap.l3 k vs (n : Int) L more (r : Int)) := by
  intro dr
  induction dr with
  | zero =>
    intro r hd hr L more hI
    have e : r = n := by omega
    subst e
    refine Ends.step ?_ (round3_end vs L r more)
    cases hm : more with
    | true => exact IH L hI.tab (hI.fell hm)
    | false => exact closed_gap h hI.tab h0 h2 hg ((hI.same hm).2.below (by omega))
  | succ dr ih =>
    intro r hd hr L more hI
    exact Ends.step (row_ends h h0 (by omega) (fun L more hI => ih (r + 1) (by omega) (by omega) L more hI) _ 1 rfl (Nat.le_refl _) h.len1 L more hI) (round3 vs L n r more (by omega))
theorem search_ends {vs : List Int} (h : Vals vs) {n : Nat} (h0 : vs.getD 0 0 = n) (h2 : vs.getD 0 0 ≠ 1) (hg : gcdL vs = 1) :
    ∀ (m : Nat) (L : List Int), Tab vs n L → leftL L = m → Ends vs n (fun k => spec_GreatestGap.l2 k vs (n : Int) L true) := by
  intro m
  induction m using Nat.strongRecOn with
  | ind m IH =>
    intro L hT hm
    refine Ends.step (pass_ends h h0 h2 hg (m := m) (fun L hT hlt => IH (leftL L) hlt L hT rfl) _ 0 rfl (Nat.zero_le _) L false ⟨hT, (fun hh => by cases hh), fun _ => ⟨by omega, fun r' i' hh i1 i2 i3 i4 => by omega⟩⟩) (round2 vs L n)
/-- The table at the start. -/
def startT (n i : Nat) : List Int := (List.range n).map fun j => if 1 ≤ j ∧ j < i then -1 else 0
theorem startT_get (n i j : Nat) (h : j < n) : (startT n i).getD j 0 = if 1 ≤ j ∧ j < i then -1 else 0 := by
  rw [getD_at _ _ _ (by simp [startT, h])]
  simp [startT]
theorem startT_length (n i : Nat) : (startT n i).length = n := by simp [startT]
theorem startT_set (n i : Nat) (h1 : 1 ≤ i) (h2 : i < n) : (startT n i).set i (-1) = startT n (i + 1) := by
  apply List.ext_getElem (by rw [List.length_set, startT_length, startT_length])
  intro j h3 h4
  rw [startT_length] at h4
  rw [← getD_at _ 0 _ h3, ← getD_at _ 0 _ (by rw [startT_length]; exact h4), getD_set _ _ _ _ (by rw [startT_length]; exact h2), startT_get _ _ _ h4, startT_get _ _ _ h4]
  by_cases hj : j = i
  · rw [if_pos hj, if_pos ⟨by omega, by omega⟩]
  · rw [if_neg hj]
    by_cases h5 : 1 ≤ j ∧ j < i
    · rw [if_pos h5, if_pos ⟨h5.1, by omega⟩]
    · rw [if_neg h5, if_neg (fun h6 => h5 ⟨h6.1, by omega⟩)]
theorem startT_tab {vs : List Int} {n : Nat} (hn : 1 ≤ n) : Tab vs n (startT n n) := by
  refine ⟨startT_length _ _, ?_, fun r hr => ?_⟩
  · rw [startT_get _ _ _ (by omega), if_neg (by omega)]
  · rw [startT_get _ _ _ hr]
    by_cases h0 : 1 ≤ r ∧ r < n
    · rw [if_pos h0]
      exact .inl rfl
    · rw [if_neg h0]
      have : r = 0 := by omega
      subst this
      exact .inr ⟨Int.le_refl _, .zero, by simp, by omega⟩
theorem sGreatestGap_is {vs : List Int} (h : Vals vs) : (1 < gcdL vs → Ev (fun k => spec_GreatestGap.f k vs) (0, 4)) ∧ (gcdL vs = 1 → vs.getD 0 0 = 1 → Ev (fun k => spec_GreatestGap.f k vs) (0, 6)) ∧
    (gcdL vs = 1 → vs.getD 0 0 ≠ 1 → ∃ g, GapIs vs g ∧ Ev (fun k => spec_GreatestGap.f k vs) (g, 0)) := by
  have h1 := h.len1
  have h8 := h.len8
  have start : ∀ r, Ev (fun k => spec_GreatestGap.l0 k vs ((gcdTo vs vs.length : Nat) : Int) ((vs.length : Nat) : Int)) r → Ev (fun k => spec_GreatestGap.f k vs) r := by
    intro r hr
    have key : ∀ (d i : Nat), vs.length - i = d → i ≤ vs.length → Ev (fun k => spec_GreatestGap.l0 k vs ((gcdTo vs i : Nat) : Int) (i : Int)) r := by
      intro d
      induction d with
      | zero =>
        intro i hd hi
        have e : i = vs.length := by omega
        rw [e]
        exact hr
      | succ d ih =>
        intro i hd hi
        have hm := h.mem _ (getD_mem vs i (by omega))
        have e2 : wrap64 ((i : Int) + 1) = ((i + 1 : Nat) : Int) := by rw [wrap_mid (by omega) (by omega)]; omega
        have hi2 := ih (i + 1) (by omega) (by omega)
        have hdv := common_is (vs.getD i 0).toNat (gcdTo vs i)
        rw [Nat.gcd_comm, ← gcdTo_succ vs i (by omega), show (((vs.getD i 0).toNat : Nat) : Int) = vs.getD i 0 by omega] at hdv
        refine Ev.step (f := fun k => (spec_l01Common.f k ((gcdTo vs i : Nat) : Int) (vs.getD i 0)).bind fun t => spec_GreatestGap.l0 k vs t ((i + 1 : Nat) : Int)) (fun k => ?_) ?_
        · simp only [spec_GreatestGap.l0]
          rw [if_pos (by omega), if_pos (by omega), rd_nat, e2]
        · exact Ev.bind (Ev.congr (fun k => rfl) hdv) hi2
    unfold spec_GreatestGap.f
    refine Ev.bind (l01Values_is h) (Ev.congr (fun k => ?_) (key _ 0 rfl (Nat.zero_le _)))
    rw [if_pos rfl]
    rfl
  rw [gcdTo_all] at start
  have hb := h.mem _ (getD_mem vs 0 h1)
  have hr0 : rd vs 0 = vs.getD 0 0 := rd_nat vs 0
  refine ⟨fun hg => ?_, fun hg h0 => ?_, fun hg h0 => ?_⟩
  · refine start _ (Ev.step (f := fun _ => some (0, 4)) (fun k => ?_) (Ev.now _))
    simp only [spec_GreatestGap.l0]
    rw [if_neg (by omega), if_pos (by omega)]
  · refine start _ (Ev.step (f := fun _ => some (0, 6)) (fun k => ?_) (Ev.now _))
    simp only [spec_GreatestGap.l0]
    rw [if_neg (by omega), if_neg (by omega), if_pos (by omega), if_pos (by rw [hr0]; exact h0)]
  · obtain ⟨n, hn⟩ : ∃ n : Nat, vs.getD 0 0 = n := ⟨(vs.getD 0 0).toNat, by omega⟩
    obtain ⟨g, hE, hG⟩ := search_ends h hn h0 hg _ (startT n n) (startT_tab (by omega)) rfl
    have init : ∀ (d i : Nat), n - i = d → 1 ≤ i → i ≤ n → Ev (fun k => spec_GreatestGap.l1 k vs (n : Int) (startT n i) (i : Int)) (g, 0) := by
      intro d
      induction d with
      | zero =>
        intro i hd hi hi2
        have e : i = n := by omega
        refine Ev.step (fun k => ?_) hE
        simp only [spec_GreatestGap.l1]
        rw [if_neg (by omega), e]
      | succ d ih =>
        intro i hd hi hi2
        have e2 : wrap64 ((i : Int) + 1) = ((i + 1 : Nat) : Int) := by rw [wrap_mid (by omega) (by omega)]; omega
        refine Ev.step (fun k => ?_) (ih (i + 1) (by omega) (by omega) (by omega))
        simp only [spec_GreatestGap.l1]
        rw [if_pos (by omega), if_pos (by omega), if_pos (by rw [startT_length]; omega), Int.toNat_natCast, startT_set n i hi (by omega), e2]
    refine ⟨g, hG, start _ (Ev.step (fun k => ?_) (init _ 1 rfl (Nat.le_refl _) (by omega)))⟩
    simp only [spec_GreatestGap.l0]
    rw [if_neg (by omega), if_neg (by omega), if_pos (by omega), hr0, if_neg h0, if_pos (by omega), if_pos (by omega), hn, Int.toNat_natCast]
    have e : List.replicate n (0 : Int) = startT n 1 := by
      apply List.ext_getElem (by rw [startT_length, List.length_replicate])
      intro j h3 h4
      have h5 : j < n := by rw [startT_length] at h4; exact h4
      rw [List.getElem_replicate, ← getD_at (startT n 1) 0 j h4, startT_get _ _ _ h5, if_neg (by omega)]
    rw [e]
    exact congrArg _ rfl
end Go.Proofs.Ytlcnjpibfjhibaa.Q
