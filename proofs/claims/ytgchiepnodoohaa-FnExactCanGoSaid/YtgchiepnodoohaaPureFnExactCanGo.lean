/- The pure statement of FnExactCanGo: both sides tell the same answer and the same code, for all nets and scans. -/
import Derived.Test.YtgchiepnodoohaaFit7
import Derived.Test.YtgchiepnodoohaaQ9
set_option linter.unusedVariables false
set_option linter.unusedSimpArgs false
namespace Go.Proofs.Ytgchiepnodoohaa.Q
open Go.RowKit Go.Proofs.YtgchiepnodoohaaW.PrintWords Go.Proofs.Ytgchiepnodoohaa.Loops
theorem okScan_of {y : S44} (w : wf44 y) : okScan ⟨y.f0, y.f1⟩ = true := by
  obtain ⟨h0, h1⟩ := w
  rw [okScan_iff]
  have := bounds_i8 h0
  have := bounds_i16 h1
  simp only
  omega
theorem Pure.FnExactCanGo (y0 : S26) (y1 : S44) (y2 : S44) (w0 : wf26 y0) (w1 : wf44 y1) (w2 : wf44 y2) : ∃ k, laws_FnExactCanGo.f k y0.f0 y0.f1 y0.f2 y1.f0 y1.f1 y2.f0 y2.f1 = some true := by
  have hok := okNet_of w0
  have ho1 := okScan_of w1
  have ho2 := okScan_of w2
  obtain ⟨a, b, l⟩ := y0
  obtain ⟨p, q⟩ := y1
  obtain ⟨u, v⟩ := y2
  obtain ⟨_, _, hl, _⟩ := w0
  simp only at hl hok ho1 ho2 ⊢
  by_cases h1 : (1048576 : Int) - l.length < 0
  · refine ⟨0, ?_⟩
    unfold laws_FnExactCanGo.f
    rw [szNet_is a b l _ hl (by omega) (by omega), Option.bind_some]
    simp [h1]
  · have hl' : (l.map cvLane).length ≤ 1048576 := by rw [List.length_map]; omega
    have hlm : (l.map cvLane).length = l.length := List.length_map ..
    have T : ∀ k, l.length < k → laws_toNet.f k a b l = some (a, b, l.map cvLane) := fun k hk => toNet_is a b l (by omega) k hk
    have Q : ∀ k, l.length < k → laws_eqNet.f k a b (l.map cvLane) a b (l.map cvLane) = some true := fun k hk => eqNet_same a b _ hl' k (by omega)
    obtain ⟨r, c, hr⟩ : ∃ r c, canGoRes a b (l.map cvLane) ⟨p, q⟩ ⟨u, v⟩ = (r, c) := ⟨_, _, rfl⟩
    have hs : spec_CanGo.f a b (l.map cvLane) p q u v = some (r, c) := by unfold spec_CanGo.f; rw [if_pos ⟨hok, ho1, ho2⟩, hr]
    have hi : impl_CanGo.f a b (l.map cvLane) p q u v = some (r, c) := by unfold impl_CanGo.f; rw [if_pos ⟨hok, ho1, ho2⟩, hr]
    refine ⟨l.length + 4, ?_⟩
    unfold laws_FnExactCanGo.f
    rw [szNet_is a b l _ hl (by omega) (by omega), Option.bind_some, if_neg h1, if_neg h1]
    rw [T _ (by omega)]
    simp only [Option.bind_some, laws_toScan.f, hs, hi, bne_self_eq_false]
    rw [if_neg (by simp)]
    rw [laws_FnExactCanGo.j0, if_neg (by simp), T _ (by omega)]
    simp only [Option.bind_some]
    rw [Q _ (by omega)]
    simp only [Option.bind_some, if_true]
end Go.Proofs.Ytgchiepnodoohaa.Q
