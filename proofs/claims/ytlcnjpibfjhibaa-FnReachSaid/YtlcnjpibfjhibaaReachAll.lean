/- ReachOf, BestValue, FewestStamps: what the printed functions answer. -/
import Derived.Test.YtlcnjpibfjhibaaReachMath
import Derived.Test.YtlcnjpibfjhibaaTabMath
import Derived.Test.YtlcnjpibfjhibaaDraw
import Derived.Test.YtlcnjpibfjhibaaHFewS
set_option linter.unusedVariables false
set_option linter.unusedSimpArgs false
namespace Go.Proofs.Ytlcnjpibfjhibaa.Q
open Go.RowKit Go.Proofs.YtlcnjpibfjhibaaW.PrintWords Go.Proofs.Ytlcnjpibfjhibaa.Loops
open Go.Proofs.Ytlcnjpibfjhibaa.Pay
theorem Val5.wide {vs : List Int} (h : Val5 vs) : ∀ v ∈ vs, 1 ≤ v ∧ v ≤ 1000000 := fun v hv => by have := h v hv; omega
theorem implReach_is {vs : List Int} (hv : Val5 vs) (hn : vs.length ≤ 100) {s : Int} (hs : s ≤ 12) : Ev (fun k => impl_reach.f k vs s) (reachV vs s : Nat) := by
  refine Ev.congr (fun k => ?_) (reach_is hv.wide hn (s := s) (M := 6000) (by omega) (fun b h0 h1 => few_high hv hs b h0 h1) 6000 0 (by omega) (by omega))
  unfold impl_reach.f
  rfl
theorem specReach_is {vs : List Int} (hv : Val5 vs) (hn : vs.length ≤ 100) {s : Int} (hs : s ≤ 12) : Ev (fun k => spec_l01Reach.f k vs s) (reachV vs s : Nat) := by
  refine Ev.congr (fun k => ?_) (sreach_is hv.wide hn (s := s) (M := 6000) (by omega) (fun b h0 h1 => few_high hv hs b h0 h1) 6000 0 (by omega) (by omega))
  unfold spec_l01Reach.f
  rfl
theorem Vals.val5 {vs : List Int} (h : Vals vs) : Val5 vs := h.mem
theorem stamps_is (s : Int) (h0 : 0 ≤ s) (h1 : s ≤ 12) : spec_l01Stamps.f s = some true := by
  unfold spec_l01Stamps.f spec_l00In.f
  rw [if_pos h0, decide_eq_true h1]
  rfl
theorem ReachOf_is {vs : List Int} (h : Vals vs) (s : Int) (h0 : 0 ≤ s) (h1 : s ≤ 12) : Ev (fun k => impl_ReachOf.f k vs s) ((reachV vs s : Nat), 0) := by
  have hl := h.len8
  unfold impl_ReachOf.f
  refine Ev.bind (valuesCode_is h s 12 h0 h1) (Ev.congr (f := fun k => (impl_reach.f k vs s).bind fun t => some (t, (0 : Int))) (fun k => ?_) (Ev.bind (implReach_is h.val5 (by omega) h1) (Ev.now _)))
  rw [if_pos rfl]
theorem sReachOf_is {vs : List Int} (h : Vals vs) (s : Int) (h0 : 0 ≤ s) (h1 : s ≤ 12) : Ev (fun k => spec_ReachOf.f k vs s) ((reachV vs s : Nat), 0) := by
  have hl := h.len8
  unfold spec_ReachOf.f
  rw [stamps_is s h0 h1]
  simp only [Option.bind_some]
  refine Ev.bind (l01Asked_is h) (Ev.congr (f := fun k => (spec_l01Reach.f k vs s).bind fun t => some (t, (0 : Int))) (fun k => ?_) (Ev.bind (specReach_is h.val5 (by omega) h1) (Ev.now _)))
  rw [if_pos rfl]
theorem Index_is (l : List Int) (x : Int) (hl : l.length ≤ 1000) : ∃ r, Ev (fun k => slices_Index_int64_int64.f k l x) r ∧ (decide (r ≥ 0) = l.contains x) := by
  have key : ∀ (d i : Nat), l.length - i = d → i ≤ l.length → ∃ r, Ev (fun k => slices_Index_int64_int64.l0 k l x (l.length : Int) (i : Int)) r ∧ (decide (r ≥ 0) = (l.drop i).contains x) := by
    intro d
    induction d with
    | zero =>
      intro i hd hi
      refine ⟨-1, Ev.step (f := fun _ => some (-1)) (fun k => ?_) (Ev.now _), ?_⟩
      · simp only [slices_Index_int64_int64.l0]
        rw [if_neg (by omega)]
      · rw [List.drop_of_length_le (by omega)]
        rfl
    | succ d ih =>
      intro i hd hi
      have e2 : wrap64 ((i : Int) + 1) = ((i + 1 : Nat) : Int) := by rw [wrap_mid (by omega) (by omega)]; omega
      have e8 : rd l (i : Int) = l.getD i 0 := by unfold rd; rw [Int.toNat_natCast]
      rw [drop_at l 0 i (by omega)]
      by_cases hx : x = l.getD i 0
      · refine ⟨i, Ev.step (f := fun _ => some (i : Int)) (fun k => ?_) (Ev.now _), ?_⟩
        · simp only [slices_Index_int64_int64.l0]
          rw [if_pos (by omega), if_pos (by omega), if_pos (by omega), e8, if_pos hx]
        · rw [← hx]
          simp
      · obtain ⟨r, h1, h2⟩ := ih (i + 1) (by omega) (by omega)
        have hx2 : (x == l.getD i 0) = false := by simpa using hx
        refine ⟨r, Ev.step (fun k => ?_) h1, by rw [List.contains_cons, hx2, Bool.false_or]; exact h2⟩
        simp only [slices_Index_int64_int64.l0]
        rw [if_pos (by omega), if_pos (by omega), if_pos (by omega), e8, if_neg hx, e2]
  obtain ⟨r, h1, h2⟩ := key _ 0 rfl (Nat.zero_le _)
  exact ⟨r, h1, h2⟩
theorem Contains_is (l : List Int) (x : Int) (hl : l.length ≤ 1000) : Ev (fun k => slices_Contains_int64_int64.f k l x) (l.contains x) := by
  obtain ⟨r, h1, h2⟩ := Index_is l x hl
  unfold slices_Contains_int64_int64.f
  refine Ev.bind h1 ?_
  rw [h2]
  exact Ev.now _
theorem bestLoop {vs : List Int} (h : Vals vs) (s : Int) (h1 : s ≤ 12) : ∀ (f v : Nat) (b m : Int), v + f = 501 → 1 ≤ v → Ev (fun k => impl_BestValue.l0 k vs s b m (v : Int)) ((bestN vs s f v b m).1, (bestN vs s f v b m).2, 0)
  | 0, v, b, m, hv, _ => by
    refine Ev.step (f := fun _ => some (b, m, 0)) (fun k => ?_) (Ev.now _)
    simp only [impl_BestValue.l0]
    rw [if_neg (by omega)]
  | f + 1, v, b, m, hv, hv1 => by
    have hl := h.len8
    have e2 : wrap64 ((v : Int) + 1) = ((v + 1 : Nat) : Int) := by rw [wrap_mid (by omega) (by omega)]; omega
    have hle : (v : Int) ≤ 500 := by omega
    have hc := Contains_is vs (v : Int) (by omega)
    have hcl : slices_Clone_int64_int64.f vs = some vs := by unfold slices_Clone_int64_int64.f; rw [if_pos (by omega)]
    have hlen : vs.length < 17592186044416 := by omega
    rw [bestN]
    refine Ev.step (f := fun k => (slices_Contains_int64_int64.f k vs (v : Int)).bind fun t => if t = true then impl_BestValue.l0 k vs s b m ((v + 1 : Nat) : Int) else (impl_reach.f k (vs ++ [(v : Int)]) s).bind fun t2 => if t2 > m then impl_BestValue.l0 k vs s (v : Int) t2 ((v + 1 : Nat) : Int) else impl_BestValue.l0 k vs s b m ((v + 1 : Nat) : Int)) (fun k => ?_) (Ev.bind hc ?_)
    · simp only [impl_BestValue.l0]
      rw [if_pos hle, e2, hcl]
      simp only [Option.bind_some]
      rw [if_pos hlen]
    · by_cases hb : vs.contains (v : Int) = true
      · simp only [if_pos hb]
        exact bestLoop h s h1 f (v + 1) b m (by omega) (by omega)
      · simp only [if_neg hb]
        refine Ev.bind (implReach_is (val5_snoc h.val5 (by omega) hle) (by rw [List.length_append, List.length_singleton]; omega) h1) ?_
        by_cases hr : (reachV (vs ++ [(v : Int)]) s : Int) > m
        · simp only [if_pos hr]
          exact bestLoop h s h1 f (v + 1) _ _ (by omega) (by omega)
        · simp only [if_neg hr]
          exact bestLoop h s h1 f (v + 1) b m (by omega) (by omega)
theorem sbestLoop {vs : List Int} (h : Vals vs) (s : Int) (h1 : s ≤ 12) : ∀ (f v : Nat) (b m : Int), v + f = 501 → 1 ≤ v → Ev (fun k => spec_BestValue.l0 k vs s b m (v : Int)) ((bestN vs s f v b m).1, (bestN vs s f v b m).2, 0)
  | 0, v, b, m, hv, _ => by
    refine Ev.step (f := fun _ => some (b, m, 0)) (fun k => ?_) (Ev.now _)
    simp only [spec_BestValue.l0]
    rw [if_neg (by omega)]
  | f + 1, v, b, m, hv, hv1 => by
    have hl := h.len8
    have e2 : wrap64 ((v : Int) + 1) = ((v + 1 : Nat) : Int) := by rw [wrap_mid (by omega) (by omega)]; omega
    have hle : (v : Int) ≤ 500 := by omega
    have hc := Has_is vs (v : Int) (by omega)
    have hlen : vs.length < 17592186044416 := by omega
    have hlen2 : ([] : List Int).length + vs.length < 17592186044416 := by simp; omega
    rw [bestN]
    refine Ev.step (f := fun k => (spec_l00Has.f k vs (v : Int)).bind fun t => if t = true then spec_BestValue.l0 k vs s b m ((v + 1 : Nat) : Int) else (spec_l01Reach.f k (vs ++ [(v : Int)]) s).bind fun t2 => if t2 > m then spec_BestValue.l0 k vs s (v : Int) t2 ((v + 1 : Nat) : Int) else spec_BestValue.l0 k vs s b m ((v + 1 : Nat) : Int)) (fun k => ?_) (Ev.bind hc ?_)
    · simp only [spec_BestValue.l0]
      rw [if_pos hle, e2]
      simp only [Option.bind_some]
      rw [if_pos hlen2, List.nil_append, if_pos hlen]
    · by_cases hb : vs.contains (v : Int) = true
      · simp only [if_pos hb]
        exact sbestLoop h s h1 f (v + 1) b m (by omega) (by omega)
      · simp only [if_neg hb]
        refine Ev.bind (specReach_is (val5_snoc h.val5 (by omega) hle) (by rw [List.length_append, List.length_singleton]; omega) h1) ?_
        by_cases hr : (reachV (vs ++ [(v : Int)]) s : Int) > m
        · simp only [if_pos hr]
          exact sbestLoop h s h1 f (v + 1) _ _ (by omega) (by omega)
        · simp only [if_neg hr]
          exact sbestLoop h s h1 f (v + 1) b m (by omega) (by omega)
theorem BestValue_is {vs : List Int} (h : Vals vs) (h7 : vs.length ≤ 7) (s : Int) (h0 : 0 ≤ s) (h1 : s ≤ 12) : Ev (fun k => impl_BestValue.f k vs s) ((bestN vs s 500 1 0 (-1)).1, (bestN vs s 500 1 0 (-1)).2, 0) := by
  unfold impl_BestValue.f
  refine Ev.bind (valuesCode_is h s 12 h0 h1) (Ev.congr (f := fun k => impl_BestValue.j0 k vs s 0 false) (fun k => ?_) (Ev.step (f := fun k => impl_BestValue.j1 k vs s 0) (fun k => ?_) (Ev.step (fun k => ?_) (bestLoop h s h1 500 1 0 (-1) rfl (by omega)))))
  · have e : ((vs.length : Int) == 8) = false := by rw [beq_eq_false_iff_ne]; omega
    rw [if_pos rfl, e]
  · simp only [impl_BestValue.j0]
    rw [if_neg (by simp)]
  · simp only [impl_BestValue.j1]
    rw [if_pos trivial]
    rfl
theorem sBestValue_is {vs : List Int} (h : Vals vs) (h7 : vs.length ≤ 7) (s : Int) (h0 : 0 ≤ s) (h1 : s ≤ 12) : Ev (fun k => spec_BestValue.f k vs s) ((bestN vs s 500 1 0 (-1)).1, (bestN vs s 500 1 0 (-1)).2, 0) := by
  unfold spec_BestValue.f
  rw [stamps_is s h0 h1]
  simp only [Option.bind_some]
  refine Ev.bind (l01Asked_is h) (Ev.congr (fun k => ?_) (sbestLoop h s h1 500 1 0 (-1) rfl (by omega)))
  rw [if_pos rfl, if_neg (by omega)]
  rfl
theorem FewestStamps_is {vs : List Int} (h : Vals vs) (h5 : vs.length ≤ 5) (a : Nat) (ha : a ≤ 1000) : ∃ r1 r2 r3, impl_FewestStamps.f vs (a : Int) = some (r1, r2, r3) ∧ ((few vs a = -1 ∧ r3 = 6) ∨ (0 ≤ few vs a ∧ r3 = 0 ∧ r2 = few vs a)) := by
  unfold impl_FewestStamps.f
  rw [if_pos ⟨(valsB_iff vs).2 ⟨h, h5⟩, by omega, by omega⟩, Int.toNat_natCast]
  rcases tab_few (fun x hx => (h.mem x hx).1) (a + 1) a (by omega) (by omega) with ⟨t1, t2⟩ | ⟨t1, t2, t3⟩
  · refine ⟨_, _, _, by unfold fewS; rw [if_pos t1], .inl ⟨t2, rfl⟩⟩
  · refine ⟨_, _, _, by unfold fewS; rw [if_neg t1], .inr ⟨t2, rfl, t3⟩⟩
end Go.Proofs.Ytlcnjpibfjhibaa.Q
