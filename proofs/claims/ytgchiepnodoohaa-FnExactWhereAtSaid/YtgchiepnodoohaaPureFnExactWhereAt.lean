/- The pure statement of FnExactWhereAt: both sides tell the same stations, lanes and code, for all nets, scans and hours. -/
import Derived.Test.YtgchiepnodoohaaFit7
import Derived.Test.YtgchiepnodoohaaQ15
set_option linter.unusedVariables false
set_option linter.unusedSimpArgs false
namespace Go.Proofs.Ytgchiepnodoohaa.Q
open Go.RowKit Go.Proofs.YtgchiepnodoohaaW.PrintWords Go.Proofs.Ytgchiepnodoohaa.Loops
theorem Pure.FnExactWhereAt (y0 : S26) (y1 : S44) (x2 : Int) (w0 : wf26 y0) (w1 : wf44 y1) (w2 : (Lit.int .i64 x2).wf = true) : ∃ k, laws_FnExactWhereAt.f k y0.f0 y0.f1 y0.f2 y1.f0 y1.f1 x2 = some true := by
  have hok := okNet_of w0
  have ho1 : okScan ⟨y1.f0, y1.f1⟩ = true := by
    obtain ⟨h0, h1⟩ := w1
    rw [okScan_iff]
    have := bounds_i8 h0
    have := bounds_i16 h1
    simp only
    omega
  obtain ⟨p, q⟩ := y1
  obtain ⟨a, b, l⟩ := y0
  obtain ⟨_, _, hl, _⟩ := w0
  simp only at hl hok ho1 ⊢
  by_cases h1 : (1048576 : Int) - l.length < 0
  · refine ⟨0, ?_⟩
    unfold laws_FnExactWhereAt.f
    rw [szNet_is a b l _ hl (by omega) (by omega), Option.bind_some]
    simp [h1]
  · have hl' : (l.map cvLane).length ≤ 1048576 := by rw [List.length_map]; omega
    have hlm : (l.map cvLane).length = l.length := List.length_map ..
    have T : ∀ k, l.length < k → laws_toNet.f k a b l = some (a, b, l.map cvLane) := fun k hk => toNet_is a b l (by omega) k hk
    have Q : ∀ k, l.length < k → laws_eqNet.f k a b (l.map cvLane) a b (l.map cvLane) = some true := fun k hk => eqNet_same a b _ hl' k (by omega)
    obtain ⟨r, r2, c, hr⟩ : ∃ r r2 c, whereRes a b (l.map cvLane) ⟨p, q⟩ x2 = (r, r2, c) := ⟨_, _, _, rfl⟩
    have hs : spec_WhereAt.f a b (l.map cvLane) p q x2 = some (r, r2, c) := by unfold spec_WhereAt.f; rw [if_pos ⟨hok, ho1⟩, hr]
    have hi : impl_WhereAt.f a b (l.map cvLane) p q x2 = some (r, r2, c) := by unfold impl_WhereAt.f; rw [if_pos ⟨hok, ho1⟩, hr]
    have ha : a ≤ 127 := by
      have := (okNet_iff.1 hok).1
      omega
    have hrl : r.length ≤ 127 ∧ r2.length ≤ l.length := by
      have h : r = (whereRes a b (l.map cvLane) ⟨p, q⟩ x2).1 := by rw [hr]
      have h2 : r2 = (whereRes a b (l.map cvLane) ⟨p, q⟩ x2).2.1 := by rw [hr]
      rw [h, h2]
      unfold whereRes
      split
      · have e1 := selL_length (statB b (l.map cvLane) p.toNat q.toNat x2) a.toNat
        have e2 := selL_length (laneB b (l.map cvLane) p.toNat q.toNat x2) (l.map cvLane).length
        simp only
        omega
      · simp
    obtain ⟨hr1, hr2⟩ := hrl
    have R : ∀ k, 128 < k → laws_eqInt64S.f k r r = some true := fun k hk => eqInt64S_same r (by omega) k (by omega)
    have R2 : ∀ k, l.length < k → laws_eqInt64S.f k r2 r2 = some true := fun k hk => eqInt64S_same r2 (by omega) k (by omega)
    have M : ∀ k, 128 < k → laws_markInt64S.f k r 1 = some (1 + (r.length : Int), marks 1 r.length) := fun k hk => markInt64S_is r (by omega) k (by omega) 1 (by omega) (by omega)
    have M2 : ∀ k, l.length < k → laws_markInt64S.f k r2 (1 + (r.length : Int)) = some (1 + (r.length : Int) + (r2.length : Int), marks (1 + (r.length : Int)) r2.length) := fun k hk => markInt64S_is r2 (by omega) k (by omega) _ (by omega) (by omega)
    have H : ∀ k, 128 < k → laws_heldInt64S.f k (marks 1 r.length) 1 = some (1 + (r.length : Int)) := fun k hk => heldInt64S_is r.length (by omega) k (by omega) 1 (by omega) (by omega)
    have H2 : ∀ k, l.length < k → laws_heldInt64S.f k (marks (1 + (r.length : Int)) r2.length) (1 + (r.length : Int)) = some (1 + (r.length : Int) + (r2.length : Int)) := fun k hk => heldInt64S_is r2.length (by omega) k (by omega) _ (by omega) (by omega)
    obtain ⟨l', hm⟩ := markNet_is a b (l.map cvLane) hl' (l.length + 136) (by omega)
    refine ⟨l.length + 137, ?_⟩
    unfold laws_FnExactWhereAt.f
    rw [szNet_is a b l _ hl (by omega) (by omega), Option.bind_some, if_neg h1, if_neg h1]
    rw [T _ (by omega)]
    simp only [Option.bind_some, laws_toScan.f, hs, hi]
    rw [R _ (by omega)]
    simp only [Option.bind_some, if_true]
    rw [R2 _ (by omega)]
    simp only [Option.bind_some, bne_self_eq_false, if_true]
    rw [laws_FnExactWhereAt.j0, if_neg (by simp), T _ (by omega)]
    simp only [Option.bind_some]
    rw [Q _ (by omega)]
    simp only [Option.bind_some, if_true]
    rw [hm]
    simp only [Option.bind_some]
    rw [if_neg (by omega), R _ (by omega)]
    simp only [Option.bind_some, if_true]
    rw [R2 _ (by omega)]
    simp only [Option.bind_some, if_true, bne_self_eq_false]
    rw [laws_FnExactWhereAt.j1, if_neg (by simp), M _ (by omega)]
    simp only [Option.bind_some]
    rw [M2 _ (by omega)]
    simp only [Option.bind_some]
    rw [H _ (by omega)]
    simp only [Option.bind_some]
    rw [if_neg (by omega), H2 _ (by omega)]
    simp only [Option.bind_some, if_true]
    rw [if_neg (by omega), T _ (by omega)]
    simp only [Option.bind_some, laws_toScan.f, hi]
    rw [R _ (by omega)]
    simp only [Option.bind_some, if_true]
    rw [R2 _ (by omega)]
    simp only [Option.bind_some, if_true, bne_self_eq_false]
    rw [laws_FnExactWhereAt.j2, if_neg (by simp), H _ (by omega)]
    simp only [Option.bind_some]
    rw [if_neg (by omega), H2 _ (by omega)]
    simp only [Option.bind_some, if_true]
    rw [if_neg (by omega)]
end Go.Proofs.Ytgchiepnodoohaa.Q
