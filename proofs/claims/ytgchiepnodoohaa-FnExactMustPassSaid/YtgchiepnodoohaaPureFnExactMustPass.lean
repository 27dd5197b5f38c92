/- The pure statement of FnExactMustPass: both sides tell the same hours and the same code, for all nets and scans. -/
import Derived.Test.YtgchiepnodoohaaFit7
import Derived.Test.YtgchiepnodoohaaQ14
set_option linter.unusedVariables false
set_option linter.unusedSimpArgs false
namespace Go.Proofs.Ytgchiepnodoohaa.Q
open Go.RowKit Go.Proofs.YtgchiepnodoohaaW.PrintWords Go.Proofs.Ytgchiepnodoohaa.Loops
theorem Pure.FnExactMustPass (y0 : S26) (y1 : S44) (y2 : S44) (w0 : wf26 y0) (w1 : wf44 y1) (w2 : wf44 y2) : ∃ k, laws_FnExactMustPass.f k y0.f0 y0.f1 y0.f2 y1.f0 y1.f1 y2.f0 y2.f1 = some true := by
  have hok := okNet_of w0
  have ho1 : okScan ⟨y1.f0, y1.f1⟩ = true := by
    obtain ⟨h0, h1⟩ := w1
    rw [okScan_iff]
    have := bounds_i8 h0
    have := bounds_i16 h1
    simp only
    omega
  have ho2 : okScan ⟨y2.f0, y2.f1⟩ = true := by
    obtain ⟨h0, h1⟩ := w2
    rw [okScan_iff]
    have := bounds_i8 h0
    have := bounds_i16 h1
    simp only
    omega
  obtain ⟨p, q⟩ := y1
  obtain ⟨p2, q2⟩ := y2
  obtain ⟨a, b, l⟩ := y0
  obtain ⟨_, _, hl, _⟩ := w0
  simp only at hl hok ho1 ho2 ⊢
  by_cases h1 : (1048576 : Int) - l.length < 0
  · refine ⟨0, ?_⟩
    unfold laws_FnExactMustPass.f
    rw [szNet_is a b l _ hl (by omega) (by omega), Option.bind_some]
    simp [h1]
  · have hl' : (l.map cvLane).length ≤ 1048576 := by rw [List.length_map]; omega
    have hlm : (l.map cvLane).length = l.length := List.length_map ..
    have T : ∀ k, l.length < k → laws_toNet.f k a b l = some (a, b, l.map cvLane) := fun k hk => toNet_is a b l (by omega) k hk
    have Q : ∀ k, l.length < k → laws_eqNet.f k a b (l.map cvLane) a b (l.map cvLane) = some true := fun k hk => eqNet_same a b _ hl' k (by omega)
    obtain ⟨r, c, hr⟩ : ∃ r c, mustRes a b (l.map cvLane) ⟨p, q⟩ ⟨p2, q2⟩ = (r, c) := ⟨_, _, rfl⟩
    have hs : spec_MustPass.f a b (l.map cvLane) p q p2 q2 = some (r, c) := by unfold spec_MustPass.f; rw [if_pos ⟨hok, ho1, ho2⟩, hr]
    have hi : impl_MustPass.f a b (l.map cvLane) p q p2 q2 = some (r, c) := by unfold impl_MustPass.f; rw [if_pos ⟨hok, ho1, ho2⟩, hr]
    have ha : a ≤ 127 := by
      have := (okNet_iff.1 hok).1
      omega
    have hrl : r.length ≤ 127 := by
      have h : r = (mustRes a b (l.map cvLane) ⟨p, q⟩ ⟨p2, q2⟩).1 := by rw [hr]
      rw [h]
      unfold mustRes
      split
      · split
        · refine Nat.le_trans (mustL_length _ _ _ _ _ _ _) (by omega)
        · simp
      · simp
    have R : ∀ k, 128 < k → laws_eqInt64S.f k r r = some true := fun k hk => eqInt64S_same r (by omega) k (by omega)
    have M : ∀ k, 128 < k → laws_markInt64S.f k r 1 = some (1 + (r.length : Int), marks 1 r.length) := fun k hk => markInt64S_is r (by omega) k (by omega) 1 (by omega) (by omega)
    have H : ∀ k, 128 < k → laws_heldInt64S.f k (marks 1 r.length) 1 = some (1 + (r.length : Int)) := fun k hk => heldInt64S_is r.length (by omega) k (by omega) 1 (by omega) (by omega)
    obtain ⟨l', hm⟩ := markNet_is a b (l.map cvLane) hl' (l.length + 136) (by omega)
    refine ⟨l.length + 137, ?_⟩
    unfold laws_FnExactMustPass.f
    rw [szNet_is a b l _ hl (by omega) (by omega), Option.bind_some, if_neg h1, if_neg h1]
    rw [T _ (by omega)]
    simp only [Option.bind_some, laws_toScan.f, hs, hi]
    rw [R _ (by omega)]
    simp only [Option.bind_some, bne_self_eq_false, if_true]
    rw [laws_FnExactMustPass.j0, if_neg (by simp), T _ (by omega)]
    simp only [Option.bind_some]
    rw [Q _ (by omega)]
    simp only [Option.bind_some, if_true]
    rw [hm]
    simp only [Option.bind_some]
    rw [if_neg (by omega), R _ (by omega)]
    simp only [Option.bind_some, if_true]
    rw [laws_FnExactMustPass.j1, if_neg (by simp), M _ (by omega)]
    simp only [Option.bind_some]
    rw [H _ (by omega)]
    simp only [Option.bind_some, if_true]
    rw [if_neg (by omega), T _ (by omega)]
    simp only [Option.bind_some, laws_toScan.f, hi]
    rw [R _ (by omega)]
    simp only [Option.bind_some, if_true]
    rw [laws_FnExactMustPass.j2, if_neg (by simp), H _ (by omega)]
    simp only [Option.bind_some, if_true]
    rw [if_neg (by omega)]
end Go.Proofs.Ytgchiepnodoohaa.Q
