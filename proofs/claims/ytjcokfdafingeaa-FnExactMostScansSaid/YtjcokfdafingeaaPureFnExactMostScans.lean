/- The pure statement of FnExactMostScans: both sides tell the same list and the same code, for all nets and lists of scans. -/
import Derived.Test.YtjcokfdafingeaaMarkScan
import Derived.Test.YtjcokfdafingeaaQ6
set_option linter.unusedVariables false
set_option linter.unusedSimpArgs false
namespace Go.Proofs.Ytjcokfdafingeaa.Q
open Go.RowKit Go.Proofs.YtjcokfdafingeaaW.PrintWords Go.Proofs.Ytjcokfdafingeaa.Loops
theorem Pure.FnExactMostScans (y0 : S26) (y1 : List (S44)) (w0 : wf26 y0) (w1 : (y1.length ≤ maxLen ∧ ∀ x ∈ y1, wf44 x)) : ∃ k, laws_FnExactMostScans.f k y0.f0 y0.f1 y0.f2 y1 = some true := by
  have hok := okNet_of w0
  have ho1 : (y1.map cvScan).all okScan = true := by
    rw [List.all_eq_true]
    intro x hx
    obtain ⟨z, hz, rfl⟩ := List.mem_map.1 hx
    obtain ⟨g0, g1⟩ := w1.2 z hz
    have := bounds_i8 g0
    have := bounds_i16 g1
    rw [okScan_iff]
    simp only [cvScan]
    omega
  obtain ⟨a, b, l⟩ := y0
  obtain ⟨_, _, hl, _⟩ := w0
  obtain ⟨hs1, _⟩ := w1
  simp only at hl hok ⊢
  by_cases h1 : (1048576 : Int) - l.length < 0
  · refine ⟨0, ?_⟩
    unfold laws_FnExactMostScans.f
    rw [szNet_is a b l _ hl (by omega) (by omega), Option.bind_some]
    simp [h1]
  · by_cases h2 : (1048576 : Int) - l.length - y1.length < 0
    · refine ⟨0, ?_⟩
      unfold laws_FnExactMostScans.f
      rw [szNet_is a b l _ hl (by omega) (by omega), Option.bind_some, if_neg h1, if_neg h1, szScanS_is y1 _ hs1 (by omega) (by omega), Option.bind_some]
      simp [h2]
    · have hl' : (l.map cvLane).length ≤ 1048576 := by rw [List.length_map]; omega
      have hlm : (l.map cvLane).length = l.length := List.length_map ..
      have hsl' : (y1.map cvScan).length ≤ 1048576 := by rw [List.length_map]; omega
      have hslm : (y1.map cvScan).length = y1.length := List.length_map ..
      have T : ∀ k, l.length < k → laws_toNet.f k a b l = some (a, b, l.map cvLane) := fun k hk => toNet_is a b l (by omega) k hk
      have Q : ∀ k, l.length < k → laws_eqNet.f k a b (l.map cvLane) a b (l.map cvLane) = some true := fun k hk => eqNet_same a b _ hl' k (by omega)
      have TS : ∀ k, y1.length < k → laws_toScanS.f k y1 = some (y1.map cvScan) := fun k hk => toScanS_is y1 (by omega) k hk
      have QS : ∀ k, y1.length < k → laws_eqScanS.f k (y1.map cvScan) (y1.map cvScan) = some true := fun k hk => by rw [eqScanS_is _ _ hsl' k (by omega)]; simp
      obtain ⟨r, c, hr⟩ : ∃ r c, mostRes a b (l.map cvLane) (y1.map cvScan) = (r, c) := ⟨_, _, rfl⟩
      have hs : spec_MostScans.f a b (l.map cvLane) (y1.map cvScan) = some (r, c) := by unfold spec_MostScans.f; rw [if_pos ⟨hok, hsl', ho1⟩, hr]
      have hi : impl_MostScans.f a b (l.map cvLane) (y1.map cvScan) = some (r, c) := by unfold impl_MostScans.f; rw [if_pos ⟨hok, hsl', ho1⟩, hr]
      have hrl : r.length ≤ y1.length := by
        have h : r = (mostRes a b (l.map cvLane) (y1.map cvScan)).1 := by rw [hr]
        rw [h]
        unfold mostRes coded
        split
        · rw [← Most.most_same]
          exact Nat.le_trans (Most.pick_length _ _ _ _) (by omega)
        · simp
      have R : ∀ k, y1.length < k → laws_eqInt64S.f k r r = some true := fun k hk => eqInt64S_same r (by omega) k (by omega)
      have M : ∀ k, y1.length < k → laws_markInt64S.f k r 1 = some (1 + (r.length : Int), marks 1 r.length) := fun k hk => markInt64S_is r (by omega) k (by omega) 1 (by omega) (by omega)
      have H : ∀ k, y1.length < k → laws_heldInt64S.f k (marks 1 r.length) 1 = some (1 + (r.length : Int)) := fun k hk => heldInt64S_is r.length (by omega) k (by omega) 1 (by omega) (by omega)
      obtain ⟨l', hm⟩ := markNet_is a b (l.map cvLane) hl' (l.length + y1.length + 5) (by omega)
      obtain ⟨l2, hm2⟩ := markScanS_is (y1.map cvScan) hsl' (l.length + y1.length + 5) (by omega) (1 + 4 * ((l.map cvLane).length : Int)) (by omega) (by omega)
      refine ⟨l.length + y1.length + 6, ?_⟩
      unfold laws_FnExactMostScans.f
      rw [szNet_is a b l _ hl (by omega) (by omega), Option.bind_some, if_neg h1, if_neg h1, szScanS_is y1 _ hs1 (by omega) (by omega), Option.bind_some, if_neg h2, if_neg h2]
      rw [T _ (by omega)]
      simp only [Option.bind_some]
      rw [TS _ (by omega)]
      simp only [Option.bind_some, hs, hi]
      rw [R _ (by omega)]
      simp only [Option.bind_some, bne_self_eq_false, if_true]
      rw [laws_FnExactMostScans.j0, if_neg (by simp), T _ (by omega)]
      simp only [Option.bind_some]
      rw [Q _ (by omega)]
      simp only [Option.bind_some, if_true]
      rw [TS _ (by omega)]
      simp only [Option.bind_some]
      rw [QS _ (by omega)]
      simp only [Option.bind_some, if_true]
      rw [hm]
      simp only [Option.bind_some]
      rw [hm2]
      simp only [Option.bind_some]
      rw [if_neg (by omega), R _ (by omega)]
      simp only [Option.bind_some, if_true, bne_self_eq_false]
      rw [laws_FnExactMostScans.j1, if_neg (by simp), M _ (by omega)]
      simp only [Option.bind_some]
      rw [H _ (by omega)]
      simp only [Option.bind_some, if_true]
      rw [if_neg (by omega), T _ (by omega)]
      simp only [Option.bind_some]
      rw [TS _ (by omega)]
      simp only [Option.bind_some, hi]
      rw [R _ (by omega)]
      simp only [Option.bind_some, if_true, bne_self_eq_false]
      rw [laws_FnExactMostScans.j2, if_neg (by simp), H _ (by omega)]
      simp only [Option.bind_some, if_true]
      rw [if_neg (by omega)]
end Go.Proofs.Ytjcokfdafingeaa.Q
