/- The pure statement of FnExactIsLate: both sides tell the same answer and the same code, for all nets and lists of scans. -/
import Derived.Test.YtgchiepnodoohaaFit7
import Derived.Test.YtgchiepnodoohaaQ16
set_option linter.unusedVariables false
set_option linter.unusedSimpArgs false
namespace Go.Proofs.Ytgchiepnodoohaa.Q
open Go.RowKit Go.Proofs.YtgchiepnodoohaaW.PrintWords Go.Proofs.Ytgchiepnodoohaa.Loops
theorem Pure.FnExactIsLate (y0 : S26) (y1 : List (S44)) (x2 : Int) (x3 : Int) (w0 : wf26 y0) (w1 : (y1.length ≤ maxLen ∧ ∀ x ∈ y1, wf44 x)) (w2 : (Lit.int .i64 x2).wf = true) (w3 : (Lit.int .i64 x3).wf = true) : ∃ k, laws_FnExactIsLate.f k y0.f0 y0.f1 y0.f2 y1 x2 x3 = some true := by
  have hok := okNet_of w0
  have ho1 : (y1.map cvScan).all okScan = true := by
    rw [List.all_eq_true]
    intro x hx
    obtain ⟨z, hz, rfl⟩ := List.mem_map.1 hx
    obtain ⟨g0, g1⟩ := w1.2 z hz
    have := bounds_i8 g0
    have := bounds_i16 g1
    rw [okScan_iff]
    simp only [cvScan]
    omega
  obtain ⟨a, b, l⟩ := y0
  obtain ⟨_, _, hl, _⟩ := w0
  obtain ⟨hs1, _⟩ := w1
  simp only at hl hok ⊢
  by_cases h1 : (1048576 : Int) - l.length < 0
  · refine ⟨0, ?_⟩
    unfold laws_FnExactIsLate.f
    rw [szNet_is a b l _ hl (by omega) (by omega), Option.bind_some]
    simp [h1]
  · by_cases h2 : (1048576 : Int) - l.length - y1.length < 0
    · refine ⟨0, ?_⟩
      unfold laws_FnExactIsLate.f
      rw [szNet_is a b l _ hl (by omega) (by omega), Option.bind_some, if_neg h1, if_neg h1, szScanS_is y1 _ hs1 (by omega) (by omega), Option.bind_some]
      simp [h2]
    · have hl' : (l.map cvLane).length ≤ 1048576 := by rw [List.length_map]; omega
      have hlm : (l.map cvLane).length = l.length := List.length_map ..
      have hsl' : (y1.map cvScan).length ≤ 1048576 := by rw [List.length_map]; omega
      have hslm : (y1.map cvScan).length = y1.length := List.length_map ..
      have T : ∀ k, l.length < k → laws_toNet.f k a b l = some (a, b, l.map cvLane) := fun k hk => toNet_is a b l (by omega) k hk
      have Q : ∀ k, l.length < k → laws_eqNet.f k a b (l.map cvLane) a b (l.map cvLane) = some true := fun k hk => eqNet_same a b _ hl' k (by omega)
      have TS : ∀ k, y1.length < k → laws_toScanS.f k y1 = some (y1.map cvScan) := fun k hk => toScanS_is y1 (by omega) k hk
      have QS : ∀ k, y1.length < k → laws_eqScanS.f k (y1.map cvScan) (y1.map cvScan) = some true := fun k hk => by rw [eqScanS_is _ _ hsl' k (by omega)]; simp
      obtain ⟨r, c, hr⟩ : ∃ r c, lateRes a b (l.map cvLane) (y1.map cvScan) x2 x3 = (r, c) := ⟨_, _, rfl⟩
      have hs : spec_IsLate.f a b (l.map cvLane) (y1.map cvScan) x2 x3 = some (r, c) := by unfold spec_IsLate.f; rw [if_pos ⟨hok, hsl', ho1⟩, hr]
      have hi : impl_IsLate.f a b (l.map cvLane) (y1.map cvScan) x2 x3 = some (r, c) := by unfold impl_IsLate.f; rw [if_pos ⟨hok, hsl', ho1⟩, hr]
      refine ⟨l.length + y1.length + 4, ?_⟩
      unfold laws_FnExactIsLate.f
      rw [szNet_is a b l _ hl (by omega) (by omega), Option.bind_some, if_neg h1, if_neg h1, szScanS_is y1 _ hs1 (by omega) (by omega), Option.bind_some, if_neg h2, if_neg h2]
      rw [T _ (by omega)]
      simp only [Option.bind_some]
      rw [TS _ (by omega)]
      simp only [Option.bind_some, hs, hi, bne_self_eq_false]
      rw [if_neg (by simp)]
      rw [laws_FnExactIsLate.j0, if_neg (by simp), T _ (by omega)]
      simp only [Option.bind_some]
      rw [Q _ (by omega)]
      simp only [Option.bind_some, if_true]
      rw [TS _ (by omega)]
      simp only [Option.bind_some]
      rw [QS _ (by omega)]
      simp only [Option.bind_some, if_true]
end Go.Proofs.Ytgchiepnodoohaa.Q
