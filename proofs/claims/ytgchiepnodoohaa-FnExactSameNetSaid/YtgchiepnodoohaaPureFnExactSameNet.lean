/- The pure statement of FnExactSameNet: both sides tell whether two nets are equal, for all nets. -/
import Derived.Test.YtgchiepnodoohaaHelp7
import Derived.Test.YtgchiepnodoohaaQ4
import Derived.Test.YtgchiepnodoohaaQFit
set_option linter.unusedVariables false
set_option linter.unusedSimpArgs false
namespace Go.Proofs.Ytgchiepnodoohaa.Q
open Go.RowKit Go.Proofs.YtgchiepnodoohaaW.PrintWords Go.Proofs.YtgchiepnodoohaaW.PrintLast Go.Proofs.YtgchiepnodoohaaW.PrintMore Go.Proofs.Ytgchiepnodoohaa.Loops

theorem neq4 (x y : S82) : ((!(x.f0 == y.f0) || (!(x.f1 == y.f1) || (!(x.f2 == y.f2) || (!(x.f3 == y.f3))))) = true) ↔ ¬ x = y := by
  rw [lane_eq]
  simp
  omega
theorem spec_SameNet_l0 (a b c d : Int) (l m : List S82) (hm : l.length = m.length) (hl : l.length ≤ 1048576) (k : Nat) (hk : l.length < k) : spec_SameNet.l0 k 0 a b l c d m = some (decide (l = m)) := by
  refine same_all (fun k l m i => spec_SameNet.l0 k i a b l c d m) z82 (fun k l m i h0 h1 h2 => ?_) (fun k l m i h => ?_) l m hm hl k hk
  · simp only [spec_SameNet.l0]
    rw [if_pos h1, if_pos h0, if_pos (by omega)]
    simp only [neq4, rd_T82, ite_not]
  · simp only [spec_SameNet.l0]
    rw [if_neg (by omega)]
theorem impl_Lane_is (l m : List S82) (hl : l.length ≤ 1048576) (k : Nat) (hk : l.length < k) : impl_Lane.f k l m = some (decide (l = m)) := by
  unfold impl_Lane.f
  by_cases h : l.length = m.length
  · rw [if_pos (by omega)]
    have e : impl_Lane.l0 k l m (l.length : Int) 0 = (fun k (l m : List S82) (i : Int) => impl_Lane.l0 k l m (l.length : Int) i) k l m 0 := rfl
    rw [e]
    refine same_all (fun k (l m : List S82) (i : Int) => impl_Lane.l0 k l m (l.length : Int) i) z82 (fun k l m i h0 h1 h2 => ?_) (fun k l m i h => ?_) l m h hl k hk
    · simp only [impl_Lane.l0]
      rw [if_pos h1, if_pos h0, if_pos h1, if_pos (by omega)]
      simp only [neq4, rd_T82, ite_not]
    · simp only [impl_Lane.l0]
      rw [if_neg (by omega)]
  · rw [if_neg (by omega)]
    have : l ≠ m := fun e => h (by rw [e])
    simp [this]
theorem same_sides (a b c d : Int) (l m : List S82) (hl : l.length ≤ 1048576) (k : Nat) (hk : l.length < k) : ∃ r, spec_SameNet.f (k + 1) a b l c d m = some r ∧ impl_SameNet.f (k + 1) a b l c d m = some r := by
  unfold spec_SameNet.f impl_SameNet.f
  rw [impl_Lane_is l m hl (k + 1) (by omega)]
  by_cases h1 : a = c
  · by_cases h2 : b = d
    · rw [if_pos h1, if_pos h2, if_pos h1, if_pos h2]
      simp only [spec_SameNet.j0]
      by_cases h3 : l.length = m.length
      · refine ⟨_, ?_, rfl⟩
        rw [if_neg (by simp [h3]), spec_SameNet_l0 a b c d l m h3 hl k hk]
      · refine ⟨_, ?_, rfl⟩
        have : l ≠ m := fun e => h3 (by rw [e])
        rw [if_pos (by simp; omega)]
        simp [this]
    · rw [if_pos h1, if_neg h2, if_pos h1, if_neg h2]
      exact ⟨_, by simp only [spec_SameNet.j0, if_true], rfl⟩
  · rw [if_neg h1, if_neg h1]
    exact ⟨_, by simp only [spec_SameNet.j0, if_true], rfl⟩
theorem Pure.FnExactSameNet (y0 : S26) (y1 : S26) (w0 : wf26 y0) (w1 : wf26 y1) : ∃ k, laws_FnExactSameNet.f k y0.f0 y0.f1 y0.f2 y1.f0 y1.f1 y1.f2 = some true := by
  obtain ⟨a, b, l⟩ := y0
  obtain ⟨c, d, m⟩ := y1
  obtain ⟨_, _, hl, _⟩ := w0
  obtain ⟨_, _, hm, _⟩ := w1
  simp only at hl hm ⊢
  refine ⟨l.length + m.length + 2, ?_⟩
  unfold laws_FnExactSameNet.f
  rw [szNet_is a b l _ hl (by omega) (by omega), Option.bind_some]
  by_cases h1 : (1048576 : Int) - l.length < 0
  · simp [h1]
  · rw [if_neg h1, if_neg h1, szNet_is c d m _ hm (by omega) (by omega), Option.bind_some]
    by_cases h2 : (1048576 : Int) - l.length - m.length < 0
    · simp [h2]
    · rw [if_neg h2, if_neg h2]
      have hl' : (l.map cvLane).length ≤ 1048576 := by rw [List.length_map]; omega
      have hm' : (m.map cvLane).length ≤ 1048576 := by rw [List.length_map]; omega
      obtain ⟨r, hs, hi⟩ := same_sides a b c d (l.map cvLane) (m.map cvLane) hl' (l.length + m.length + 1) (by rw [List.length_map]; omega)
      simp only [toNet_is a b l (by omega) _ (show l.length < l.length + m.length + 2 by omega), toNet_is c d m (by omega) _ (show m.length < l.length + m.length + 2 by omega), Option.bind_some, hs, hi,
        eqNet_same a b _ hl' _ (show (l.map cvLane).length < l.length + m.length + 2 by rw [List.length_map]; omega), eqNet_same c d _ hm' _ (show (m.map cvLane).length < l.length + m.length + 2 by rw [List.length_map]; omega)]
      simp
end Go.Proofs.Ytgchiepnodoohaa.Q
