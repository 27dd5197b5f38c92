/- The pure statement of FnGaps: gaps are just the amounts that cannot be paid, all amounts behind the greatest gap can be paid, and the least amount over a postage is the least one. -/
import Derived.Test.YtlcnjpibfjhibaaGreatPure2
import Derived.Test.YtlcnjpibfjhibaaQL
import Derived.OpenShut
set_option linter.unusedVariables false
set_option linter.unusedSimpArgs false
namespace Go.Proofs.Ytlcnjpibfjhibaa.Q
open Go.RowKit Go.Proofs.YtlcnjpibfjhibaaW.PrintWords Go.Proofs.Ytlcnjpibfjhibaa.Loops
open Go.Proofs.Ytlcnjpibfjhibaa.Pay
attribute [local irreducible] payL
/-- What both sides tell of the greatest gap. -/
structure Told (vs : List Int) (g c : Int) : Prop where
  code : c = 0 ∨ c = 4 ∨ c = 6
  gap : c = 0 → GapIs vs g
  none_ : c = 6 → ∀ a : Nat, payB vs a = true
theorem gcd_pos {vs : List Int} (h : Vals vs) : 1 ≤ gcdL vs := by
  have := gcdTo_pos h.pos vs.length h.len1 (Nat.le_refl _)
  rwa [gcdTo_all] at this
theorem told_is {vs : List Int} (h : Vals vs) : ∃ g c, Ev (fun k => impl_GreatestGap.f k vs) (g, c) ∧ Ev (fun k => spec_GreatestGap.f k vs) (g, c) ∧ Told vs g c := by
  have hg := gcd_pos h
  obtain ⟨i1, i2, i3⟩ := GreatestGap_is h
  obtain ⟨s1, s2, s3⟩ := sGreatestGap_is h
  by_cases hg1 : 1 < gcdL vs
  · exact ⟨0, 4, i1 hg1, s1 hg1, ⟨.inr (.inl rfl), by omega, by omega⟩⟩
  · have hg2 : gcdL vs = 1 := by omega
    by_cases h0 : vs.getD 0 0 = 1
    · refine ⟨0, 6, i2 hg2 h0, s2 hg2 h0, ⟨.inr (.inr rfl), by omega, fun _ a => ?_⟩⟩
      have hm := getD_mem vs 0 h.len1
      rw [h0] at hm
      have := Paid.mul hm a
      rw [Int.one_mul] at this
      exact (payB_iff h.pos a).2 this
    · obtain ⟨g, hG, hE⟩ := s3 hg2 h0
      exact ⟨g, 0, i3 hg2 h0 g hG, hE, ⟨.inl rfl, fun _ => hG, by omega⟩⟩
/-- The last of the gaps below most + 1. -/
theorem last_gap {vs : List Int} (h : Vals vs) {g : Nat} (hG : GapIs vs (g : Int)) {n : Nat} (hn : g ≤ n) : ∃ xs, gapsTo vs (n + 1) = xs ++ [(g : Int)] := by
  refine ⟨gapsTo vs g, ?_⟩
  rw [gapsTo_keep vs g (n + 1) (by omega) (fun a h1 h2 => (payB_iff h.pos a).2 (hG.all _ (by omega))), gapsTo, if_neg]
  intro hp
  exact hG.not ((payB_iff h.pos g).1 hp)
/-- The law's last loop. -/
theorem loop1 {vs : List Int} (h : Vals vs) (p m : Nat) (hm : m ≤ 1000) (hp : payB vs m = true) (hq : ∀ a, p ≤ a → a < m → payB vs a = false) : Ev (fun k => laws_FnGaps.l1 k vs (m : Int) (p : Int)) true := by
  have key : ∀ (d i : Nat), m + 1 - i = d → p ≤ i → Ev (fun k => laws_FnGaps.l1 k vs (m : Int) (i : Int)) true := by
    intro d
    induction d with
    | zero =>
      intro i hd hi
      refine Ev.step (f := fun _ => some true) (fun k => ?_) (Ev.now _)
      simp only [laws_FnGaps.l1]
      rw [if_neg (by omega)]
    | succ d ih =>
      intro i hd hi
      have e2 : wrap64 ((i : Int) + 1) = ((i + 1 : Nat) : Int) := by rw [wrap_mid (by omega) (by omega)]; omega
      refine Ev.step (f := fun k => (impl_CanPay.f k vs (i : Int)).bind fun bt => if bt.2 = 0 then (if (bt.1 != ((i : Int) == (m : Int))) = true then some false else laws_FnGaps.l1 k vs (m : Int) ((i + 1 : Nat) : Int)) else some false) (fun k => ?_) (Ev.bind (CanPay_is h i (by omega)) ?_)
      · simp only [laws_FnGaps.l1]
        rw [if_pos (by omega), e2]
      · refine Ev.congr (fun k => ?_) (ih (i + 1) (by omega) (by omega))
        have e : payB vs i = ((i : Int) == (m : Int)) := by
          by_cases him : i = m
          · subst him
            rw [hp]
            simp
          · rw [hq i hi (by omega)]
            symm
            rw [beq_eq_false_iff_ne]
            omega
        rw [if_pos rfl, e, if_neg (by simp)]
  exact key _ p rfl (Nat.le_refl _)
/-- What stands behind the loop over the amounts. -/
theorem over_all {vs : List Int} (h : Vals vs) {c0 : List Int} (hc : Byts c0) : Ev (fun k => laws_FnGaps.j3 k c0 vs false) true := by
  obtain ⟨p, hp, p0, p1⟩ := P6Pick_is hc 70 (by omega)
  obtain ⟨q, rfl⟩ := Int.eq_ofNat_of_zero_le p0
  obtain ⟨m, m1, m2, m3, m4⟩ := over_ex h q
  have h0 := h.mem _ (getD_mem vs 0 h.len1)
  have hl := h.len1
  refine Ev.step (f := fun k => (impl_LeastOver.f k vs (q : Int)).bind fun a => (spec_LeastOver.f k vs (q : Int)).bind fun b => if a.2 = b.2 then (if a.2 = 0 then (if a.1 = b.1 then (if b.1 < (q : Int) then laws_FnGaps.j4 k vs (q : Int) b.1 true else (if 0 < (vs.length : Int) then laws_FnGaps.j4 k vs (q : Int) b.1 (decide (wrap64 (b.1 - (q : Int)) ≥ rd vs 0)) else none)) else laws_FnGaps.j4 k vs (q : Int) b.1 true) else laws_FnGaps.j4 k vs (q : Int) b.1 true) else laws_FnGaps.j4 k vs (q : Int) b.1 true) (fun k => ?_) ?_
  · simp only [laws_FnGaps.j3]
    rw [if_neg (by simp), hp, Option.bind_some]
  · refine Ev.bind (LeastOver_is h q m (by omega) m1 (by omega) m3 m4) (Ev.bind (sLeastOver_is h q m (by omega) m1 (by omega) m3 m4) ?_)
    have e1 : wrap64 ((m : Int) - (q : Int)) = (m : Int) - (q : Int) := wrap_mid (by omega) (by omega)
    have e2 : rd vs 0 = vs.getD 0 0 := rd_nat vs 0
    refine Ev.congr (f := fun k => laws_FnGaps.j4 k vs (q : Int) (m : Int) false) (fun k => ?_) (Ev.step (fun k => ?_) (loop1 h q m (by omega) m3 m4))
    · rw [if_pos rfl, if_pos rfl, if_pos rfl, if_neg (by omega), if_pos (by omega), e1, e2, decide_eq_false (by omega)]
    · simp only [laws_FnGaps.j4]
      rw [if_neg (by simp)]
/-- The loop over the amounts. -/
theorem loop0 {vs : List Int} (h : Vals vs) {c0 : List Int} (hc : Byts c0) {n : Nat} (hn : n ≤ 80) {g c : Int} (hT : Told vs g c) : Ev (fun k => laws_FnGaps.l0 k c0 vs (n : Int) (gapsTo vs (n + 1)) c g 0) true := by
  have hlen := gapsTo_length vs (n + 1)
  have key : ∀ (d i : Nat), n + 1 - i = d → i ≤ n + 1 → Ev (fun k => laws_FnGaps.l0 k c0 vs (n : Int) (gapsTo vs (n + 1)) c g (i : Int)) true := by
    intro d
    induction d with
    | zero =>
      intro i hd hi
      have e : i = n + 1 := by omega
      refine Ev.step (fun k => ?_) (over_all h hc)
      simp only [laws_FnGaps.l0]
      rw [if_neg (by omega)]
      by_cases hc0 : c = 0
      · rw [if_pos hc0]
        have hG := hT.gap hc0
        by_cases hgn : g ≤ (n : Int)
        · obtain ⟨q, hq⟩ : ∃ q : Nat, g = q := ⟨g.toNat, by have := hG.low; omega⟩
          subst hq
          obtain ⟨xs, hx⟩ := last_gap h hG (n := n) (by omega)
          have hxl : (gapsTo vs (n + 1)).length = xs.length + 1 := by rw [hx, List.length_append, List.length_singleton]
          have e1 : wrap64 (((gapsTo vs (n + 1)).length : Int) - 1) = ((xs.length : Nat) : Int) := by rw [wrap_mid (by omega) (by omega)]; omega
          have e2 : rd (gapsTo vs (n + 1)) ((xs.length : Nat) : Int) = (q : Int) := by rw [rd_nat, hx]; simp [List.getD_eq_getElem?_getD]
          rw [if_pos hgn, if_neg (by omega), e1, if_pos (by omega), if_pos (by omega), e2]
          simp
        · rw [if_neg hgn]
      · rw [if_neg hc0]
    | succ d ih =>
      intro i hd hi
      have e2 : wrap64 ((i : Int) + 1) = ((i + 1 : Nat) : Int) := by rw [wrap_mid (by omega) (by omega)]; omega
      have hi2 := ih (i + 1) (by omega) (by omega)
      have hh := HasNumber_is (gapsTo vs (n + 1)) (i : Int) (by omega)
      rw [gapsTo_mem, decide_eq_true (by omega), Bool.true_and] at hh
      have hcp := CanPay_is h i (by omega)
      obtain ⟨pb, hpb⟩ : ∃ pb, payB vs i = pb := ⟨_, rfl⟩
      have hpp := payB_iff h.pos i
      rw [hpb] at hh hcp hpp
      have hne : ¬ (pb == !pb) = true := by cases pb <;> simp
      have hall : c = 6 → pb = true := fun h6 => by rw [← hpb]; exact hT.none_ h6 i
      have hgt : c = 0 → (i : Int) > g → pb = true := fun h0 h1 => hpp.2 ((hT.gap h0).all _ h1)
      have heq : c = 0 → (i : Int) = g → pb = false := fun h0 h1 => by
        cases hq : pb with
        | false => rfl
        | true => exact absurd (hpp.1 hq) (by rw [h1]; exact (hT.gap h0).not)
      refine Ev.step (f := fun k => (impl_CanPay.f k vs (i : Int)).bind fun bt => if bt.2 = 0 then ((spec_HasNumber.f k (gapsTo vs (n + 1)) (i : Int)).bind fun t => if (bt.1 == t) = true then some false else (if c = 0 then (if (i : Int) > g then (if bt.1 = true then (if (i : Int) = g then some false else (if c = 6 then laws_FnGaps.l0 k c0 vs (n : Int) (gapsTo vs (n + 1)) c g ((i + 1 : Nat) : Int) else laws_FnGaps.l0 k c0 vs (n : Int) (gapsTo vs (n + 1)) c g ((i + 1 : Nat) : Int))) else some false) else (if (i : Int) = g then (if bt.1 = true then some false else (if c = 6 then some false else laws_FnGaps.l0 k c0 vs (n : Int) (gapsTo vs (n + 1)) c g ((i + 1 : Nat) : Int))) else (if c = 6 then (if bt.1 = true then laws_FnGaps.l0 k c0 vs (n : Int) (gapsTo vs (n + 1)) c g ((i + 1 : Nat) : Int) else some false) else laws_FnGaps.l0 k c0 vs (n : Int) (gapsTo vs (n + 1)) c g ((i + 1 : Nat) : Int)))) else (if c = 6 then (if bt.1 = true then laws_FnGaps.l0 k c0 vs (n : Int) (gapsTo vs (n + 1)) c g ((i + 1 : Nat) : Int) else some false) else laws_FnGaps.l0 k c0 vs (n : Int) (gapsTo vs (n + 1)) c g ((i + 1 : Nat) : Int)))) else some false) (fun k => ?_) (Ev.bind hcp ?_)
      · simp only [laws_FnGaps.l0]
        rw [if_pos (by omega), e2]
      · simp only [if_true]
        refine Ev.bind hh (Ev.congr (fun k => ?_) hi2)
        rw [if_neg hne]
        by_cases h0 : c = 0
        · rw [if_pos h0]
          by_cases h1 : (i : Int) > g
          · rw [if_pos h1, if_pos (hgt h0 h1), if_neg (by omega), if_neg (by omega)]
          · rw [if_neg h1]
            by_cases h3 : (i : Int) = g
            · rw [if_pos h3, if_neg (by rw [heq h0 h3]; simp), if_neg (by omega)]
            · rw [if_neg h3, if_neg (by omega)]
        · rw [if_neg h0]
          by_cases h6 : c = 6
          · rw [if_pos h6, if_pos (hall h6)]
          · rw [if_neg h6]
  exact key _ 0 rfl (Nat.zero_le _)
theorem Pure.FnGaps (y0 : List Int) (y1 : List Int) (w0 : (y0.length ≤ maxLen ∧ ∀ x ∈ y0, (Lit.int .u8 x).wf = true)) (w1 : (y1.length ≤ maxLen ∧ ∀ x ∈ y1, (Lit.int .u8 x).wf = true)) : ∃ k, laws_FnGaps.f k y0 y1 = some true := by
  have byts : ∀ l : List Int, (∀ x ∈ l, (Lit.int .u8 x).wf = true) → Byts l := fun l hl x hx => by
    have := bounds_u8 (hl x hx)
    omega
  have hb0 := byts y0 w0.2
  have hb1 := byts y1 w1.2
  by_cases h1 : (y0.length : Int) > 4096 ∨ (y1.length : Int) > 4096
  · refine ⟨1, ?_⟩
    unfold laws_FnGaps.f
    simp only [laws_f6big.f, Option.bind_some, laws_FnGaps.j0]
    by_cases h2 : (y0.length : Int) > 4096
    · rw [if_pos (decide_eq_true h2)]
      rfl
    · rw [if_neg (by rw [decide_eq_false h2]; simp), if_pos (decide_eq_true (h1.resolve_left h2))]
  · obtain ⟨vs, hE, hD⟩ := P6Values_is hb0
    have h := hD.vals
    obtain ⟨p, hp, p0, p1⟩ := P6Pick_is hb1 60 (by omega)
    obtain ⟨q, rfl⟩ := Int.eq_ofNat_of_zero_le p0
    have en : wrap64 (20 + (q : Int)) = ((20 + q : Nat) : Int) := by rw [wrap_mid (by omega) (by omega)]; omega
    obtain ⟨g, c, hI, hS, hT⟩ := told_is h
    have hgl := gapsTo_length vs (20 + q + 1)
    apply Ev.rounds (g := fun k => laws_FnGaps.f k y0 y1)
    refine Ev.congr (f := fun k => laws_FnGaps.j0 k y0 y1 false) (fun k => ?_) ?_
    · unfold laws_FnGaps.f
      simp only [laws_f6big.f, Option.bind_some]
      rw [if_neg (by rw [decide_eq_false (fun h => h1 (.inl h))]; simp), decide_eq_false (fun h => h1 (.inr h))]
    · have last : Ev (fun k => laws_FnGaps.j1 k y0 vs ((20 + q : Nat) : Int) (gapsTo vs (20 + q + 1)) c g false) true := Ev.step (fun k => by
        simp only [laws_FnGaps.j1]
        rw [if_neg (by simp)]) (loop0 h hb0 (by omega) hT)
      refine Ev.step (f := fun k => (spec_P6Values.f k y0).bind fun t240 => (impl_GapsUpTo.f k t240 ((20 + q : Nat) : Int)).bind fun bt244 => (spec_GapsUpTo.f k t240 ((20 + q : Nat) : Int)).bind fun bt248 => (impl_GreatestGap.f k t240).bind fun bt252 => (spec_GreatestGap.f k t240).bind fun bt254 =>
        (if bt244.2 = bt248.2 then (if bt244.2 = 0 then ((spec_SameNumbers.f k bt244.1 bt248.1).bind fun t256 => (if t256 = true then (if bt252.2 = bt254.2 then (if bt252.1 = bt254.1 then (if bt252.2 = 0 then (laws_FnGaps.j1 k y0 t240 ((20 + q : Nat) : Int) bt248.1 bt252.2 bt254.1 false) else (if bt252.2 = 4 then (laws_FnGaps.j1 k y0 t240 ((20 + q : Nat) : Int) bt248.1 bt252.2 bt254.1 false) else (laws_FnGaps.j1 k y0 t240 ((20 + q : Nat) : Int) bt248.1 bt252.2 bt254.1 (bt252.2 != 6)))) else (laws_FnGaps.j1 k y0 t240 ((20 + q : Nat) : Int) bt248.1 bt252.2 bt254.1 true)) else (laws_FnGaps.j1 k y0 t240 ((20 + q : Nat) : Int) bt248.1 bt252.2 bt254.1 true)) else (laws_FnGaps.j1 k y0 t240 ((20 + q : Nat) : Int) bt248.1 bt252.2 bt254.1 true))) else (laws_FnGaps.j1 k y0 t240 ((20 + q : Nat) : Int) bt248.1 bt252.2 bt254.1 true)) else (laws_FnGaps.j1 k y0 t240 ((20 + q : Nat) : Int) bt248.1 bt252.2 bt254.1 true))) (fun k => ?_) ?_
      · simp only [laws_FnGaps.j0]
        rw [if_neg (by simp), hp]
        simp only [Option.bind_some, en]
      · refine Ev.bind hE (Ev.bind (GapsUpTo_is h (20 + q) (by omega)) (Ev.bind (sGapsUpTo_is h (20 + q) (by omega)) (Ev.bind hI (Ev.bind hS ?_))))
        simp only [if_true]
        refine Ev.bind (SameNumbers_is (gapsTo vs (20 + q + 1)) (by omega)) (Ev.congr (fun k => ?_) last)
        simp only [if_true]
        rcases hT.code with hc | hc | hc
        · rw [if_pos hc]
        · rw [if_neg (by omega), if_pos hc]
        · rw [if_neg (by omega), if_neg (by omega), hc]
          rfl
end Go.Proofs.Ytlcnjpibfjhibaa.Q
