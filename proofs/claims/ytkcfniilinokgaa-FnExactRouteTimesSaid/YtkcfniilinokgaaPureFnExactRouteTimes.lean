/- The pure statement of FnExactRouteTimes: both sides tell the same hours and the same code, for all nets, routes and hours. -/
import Derived.Test.YtkcfniilinokgaaHelpR
import Derived.Test.YtkcfniilinokgaaQFit
import Derived.Test.YtkcfniilinokgaaNet
import Derived.Test.YtkcfniilinokgaaQ3
set_option linter.unusedVariables false
set_option linter.unusedSimpArgs false
namespace Go.Proofs.Ytkcfniilinokgaa.Q
open Go.RowKit Go.Proofs.YtkcfniilinokgaaW.PrintWords Go.Proofs.Ytkcfniilinokgaa.Loops
theorem okNet_of {y : S26} (w : wf26 y) : okNet y.f0 y.f1 (y.f2.map cvLane) = true := by
  obtain ⟨h0, h1, _, h2⟩ := w
  rw [okNet_iff]
  have := bounds_i8 h0
  have := bounds_i16 h1
  refine ⟨by omega, fun x hx => ?_⟩
  obtain ⟨z, hz, rfl⟩ := List.mem_map.1 hx
  obtain ⟨g0, g1, g2, g3⟩ := h2 z hz
  have := bounds_i8 g0
  have := bounds_i8 g1
  have := bounds_i16 g2
  have := bounds_i16 g3
  rw [okLane_iff]
  simp only [cvLane]
  omega
theorem toInt64S_is (l : List Int) (hl : l.length ≤ 1048576) (k : Nat) (hk : l.length < k) : laws_toInt64S.f k l = some l := by
  unfold laws_toInt64S.f
  rw [if_pos (by omega), if_pos (by omega)]
  have := fill_all laws_toInt64S.l0 id 0 (fun k l xs i => by simp only [laws_toInt64S.l0]; rfl) l hl k hk (List.replicate ((l.length : Int) : Int).toNat 0) (by simp)
  rw [List.map_id] at this
  exact this
theorem goR_len (l : List S55) (stay : Int) (r : List Int) : ∀ (p low high : Int) (acc : List Two2), (goR l stay p low high r acc).1.length ≤ acc.length + r.length := by
  induction r with
  | nil => intro p low high acc; simp [goR]
  | cons q r ih =>
    intro p low high acc
    rw [goR]
    split
    · simp
    · refine Nat.le_trans (ih _ _ _ _) ?_
      simp only [List.length_append, List.length_cons, List.length_nil]
      omega
theorem routeR_len (s t : Int) (l : List S55) (route : List Int) (hour : Int) : (routeR s t l route hour).1.length ≤ 12 := by
  unfold routeR
  split
  · split
    · simp
    · rename_i h
      cases route with
      | nil => simp [timesR]
      | cons x r =>
        have := goR_len l t r x hour hour [⟨hour, hour⟩]
        simp only [timesR, List.length_cons, List.length_nil] at this h ⊢
        omega
  · simp
theorem Pure.FnExactRouteTimes (y0 : S26) (y1 : List Int) (x2 : Int) (w0 : wf26 y0) (w1 : (y1.length ≤ maxLen ∧ ∀ x ∈ y1, (Lit.int .i64 x).wf = true)) (w2 : (Lit.int .i64 x2).wf = true) : ∃ k, laws_FnExactRouteTimes.f k y0.f0 y0.f1 y0.f2 y1 x2 = some true := by
  have hok := okNet_of w0
  obtain ⟨a, b, l⟩ := y0
  obtain ⟨_, _, hl, _⟩ := w0
  simp only at hl hok ⊢
  by_cases h0 : (y1.length : Int) > 1048576
  · refine ⟨0, ?_⟩
    unfold laws_FnExactRouteTimes.f
    rw [if_pos h0]
  by_cases h1 : (1048576 : Int) - l.length < 0
  · refine ⟨0, ?_⟩
    unfold laws_FnExactRouteTimes.f
    rw [if_neg h0, szNet_is a b l _ hl (by omega) (by omega), Option.bind_some]
    simp [h1]
  · have hl' : (l.map cvLane).length ≤ 1048576 := by rw [List.length_map]; omega
    have hlm : (l.map cvLane).length = l.length := List.length_map ..
    have hy : y1.length ≤ 1048576 := by omega
    have T : ∀ k, l.length < k → laws_toNet.f k a b l = some (a, b, l.map cvLane) := fun k hk => toNet_is a b l (by omega) k hk
    have T2 : ∀ k, y1.length < k → laws_toInt64S.f k y1 = some y1 := fun k hk => toInt64S_is y1 hy k hk
    have Q : ∀ k, l.length < k → laws_eqNet.f k a b (l.map cvLane) a b (l.map cvLane) = some true := fun k hk => eqNet_same a b _ hl' k (by omega)
    have Q2 : ∀ k, y1.length < k → laws_eqInt64S.f k y1 y1 = some true := fun k hk => eqInt64S_same y1 hy k hk
    obtain ⟨r, c, hr⟩ : ∃ r c, routeR a b (l.map cvLane) y1 x2 = (r, c) := ⟨_, _, rfl⟩
    have hs : spec_RouteTimes.f a b (l.map cvLane) y1 x2 = some (r, c) := by unfold spec_RouteTimes.f; rw [if_pos hok, hr]
    have hi : impl_RouteTimes.f a b (l.map cvLane) y1 x2 = some (r, c) := by unfold impl_RouteTimes.f; rw [if_pos hok, hr]
    have hrl : r.length ≤ 12 := by
      have h := routeR_len a b (l.map cvLane) y1 x2
      rw [hr] at h
      exact h
    have R : laws_eqInt64A2S.f r r = some true := by unfold laws_eqInt64A2S.f; simp
    have M : laws_markInt64A2S.f r 1 = some (1 + 2 * (r.length : Int), marks2 1 r.length) := by unfold laws_markInt64A2S.f; rw [if_pos ⟨by omega, by omega, by omega⟩]
    have H : laws_heldInt64A2S.f (marks2 1 r.length) 1 = some (1 + 2 * (r.length : Int)) := by unfold laws_heldInt64A2S.f; rw [marks2_length, if_pos ⟨by omega, by omega, by omega, rfl⟩]
    obtain ⟨l', hm⟩ := markNet_is a b (l.map cvLane) hl' (l.length + y1.length + 9) (by omega)
    have M2 := markInt64S_is y1 hy (l.length + y1.length + 9) (by omega) (1 + 4 * ((l.map cvLane).length : Int)) (by omega) (by omega)
    refine ⟨l.length + y1.length + 10, ?_⟩
    unfold laws_FnExactRouteTimes.f
    rw [if_neg h0, szNet_is a b l _ hl (by omega) (by omega), Option.bind_some, if_neg h1, if_neg h1]
    rw [T _ (by omega)]
    simp only [Option.bind_some]
    rw [T2 _ (by omega)]
    simp only [Option.bind_some, hs, hi, R, bne_self_eq_false, if_true]
    rw [laws_FnExactRouteTimes.j0, if_neg (by simp), T _ (by omega)]
    simp only [Option.bind_some]
    rw [Q _ (by omega)]
    simp only [Option.bind_some, if_true]
    rw [T2 _ (by omega)]
    simp only [Option.bind_some]
    rw [Q2 _ (by omega)]
    simp only [Option.bind_some, if_true]
    rw [hm]
    simp only [Option.bind_some]
    rw [M2]
    simp only [Option.bind_some]
    rw [if_neg (by omega)]
    simp only [R, Option.bind_some, if_true, bne_self_eq_false]
    rw [laws_FnExactRouteTimes.j1, if_neg (by simp)]
    simp only [M, H, Option.bind_some]
    rw [if_neg (by omega)]
    simp only [if_true]
    rw [T _ (by omega)]
    simp only [Option.bind_some]
    rw [T2 _ (by omega)]
    simp only [Option.bind_some, hi, R, if_true, bne_self_eq_false]
    rw [laws_FnExactRouteTimes.j2, if_neg (by simp)]
    simp only [H, Option.bind_some]
    rw [if_neg (by omega)]
    simp only [if_true]
end Go.Proofs.Ytkcfniilinokgaa.Q
