/- The laws' marks in whole numbers. -/
import Derived.Test.YtlefddghiiigeaaMarksO
import Derived.Test.YtlefddghiiigeaaQ4
set_option linter.unusedVariables false
set_option linter.unusedSimpArgs false
namespace Go.Proofs.Ytlefddghiiigeaa.Q
open Go.RowKit Go.Proofs.YtlefddghiiigeaaW.PrintWords Go.Proofs.YtlefddghiiigeaaW.PrintLast Go.Proofs.YtlefddghiiigeaaW.PrintMore Go.Proofs.Ytlefddghiiigeaa.Loops
theorem eqInt64S_is (l m : List Int) (hl : l.length ≤ 1048576) (k : Nat) (hk : l.length < k) : laws_eqInt64S.f k l m = some (decide (l = m)) := by
  unfold laws_eqInt64S.f
  by_cases h : l.length = m.length
  · rw [if_pos (by omega)]
    refine same_all laws_eqInt64S.l0 0 (fun k l m i h0 h1 h2 => ?_) (fun k l m i h => ?_) l m h hl k hk
    · simp only [laws_eqInt64S.l0]
      rw [if_pos h1, if_pos h0, if_pos (by omega)]
      by_cases hq : l.getD i.toNat 0 = m.getD i.toNat 0 <;> simp [rd, hq]
    · simp only [laws_eqInt64S.l0]
      rw [if_neg (by omega)]
  · rw [if_neg (by omega)]
    have : l ≠ m := fun e => h (by rw [e])
    simp [this]
theorem markInt64S_is (l : List Int) (hl : l.length ≤ 1048576) (k : Nat) (hk : l.length < k) (a : Int) (ha : 0 ≤ a) (hb : a ≤ 1048576 * 1048576) : laws_markInt64S.f k l a = some (a + l.length, marks a l.length) := by
  unfold laws_markInt64S.f
  exact mark64_all laws_markInt64S.l0 (fun k l a i => by simp only [laws_markInt64S.l0]) l hl k hk a ha hb
theorem heldInt64S_is (n : Nat) (hn : n ≤ 1048576) (k : Nat) (hk : n < k) (a : Int) (ha : 0 ≤ a) (hb : a ≤ 1048576 * 1048576) : laws_heldInt64S.f k (marks a n) a = some (a + n) := by
  unfold laws_heldInt64S.f
  exact held64_all laws_heldInt64S.l0 (fun k l a i => by simp only [laws_heldInt64S.l0]) n hn a ha hb k hk
end Go.Proofs.Ytlefddghiiigeaa.Q
