import Derived.Test.YtcekifhkbdjpdaaDoorLoops
import Derived.Test.YtcekifhkbdjpdaaDoorQ2
set_option linter.unusedVariables false
set_option linter.unusedSimpArgs false
namespace Go.Proofs.YtcekifhkbdjpdaaDoor.Q
open Go.RowKit Go.Proofs.YtcekifhkbdjpdaaDoorW.PrintWords Go.Proofs.YtcekifhkbdjpdaaDoorW.PrintLast Go.Proofs.YtcekifhkbdjpdaaDoorW.PrintMore Go.Proofs.YtcekifhkbdjpdaaDoor.Loops

def cvLane (x : S102) : S81 := ⟨x.f0, x.f1, x.f2, x.f3⟩
instance : DecidableEq S81 := fun x y => decidable_of_iff (x.f0 = y.f0 ∧ x.f1 = y.f1 ∧ x.f2 = y.f2 ∧ x.f3 = y.f3) (by cases x; cases y; simp)
theorem lane_eq (x y : S81) : x = y ↔ x.f0 = y.f0 ∧ x.f1 = y.f1 ∧ x.f2 = y.f2 ∧ x.f3 = y.f3 := by cases x; cases y; simp
theorem szLaneS_is (l : List S102) (a : Int) (hl : l.length ≤ maxLen) (h0 : 0 ≤ a) (ha : a ≤ 1048576) : laws_szLaneS.f l a = some (if a - l.length < 0 then -1 else a - l.length) := by
  unfold laws_szLaneS.f
  have e : wrap64 (a - (l.length : Int)) = a - l.length := by
    unfold maxLen at hl
    unfold wrap64
    omega
  rw [e]
  split <;> rfl
theorem szNet_is (x y : Int) (l : List S102) (a : Int) (hl : l.length ≤ maxLen) (h0 : 0 ≤ a) (ha : a ≤ 1048576) : laws_szNet.f x y l a = some (if a - l.length < 0 then -1 else a - l.length) := by
  unfold laws_szNet.f
  rw [szLaneS_is l a hl h0 ha, Option.bind_some]
  by_cases h : a - (l.length : Int) < 0
  · simp [h]
  · simp [h]
theorem toLaneS_is (l : List S102) (hl : l.length ≤ 1048576) (k : Nat) (hk : l.length < k) : laws_toLaneS.f k l = some (l.map cvLane) := by
  unfold laws_toLaneS.f
  rw [if_pos (by omega), if_pos (by omega)]
  exact fill_all laws_toLaneS.l0 cvLane z102 (fun k l xs i => by simp only [laws_toLaneS.l0, laws_toLane.f, Option.bind_some]; rfl) l hl k hk _ (by simp)
theorem toNet_is (x y : Int) (l : List S102) (hl : l.length ≤ 1048576) (k : Nat) (hk : l.length < k) : laws_toNet.f k x y l = some (x, y, l.map cvLane) := by
  unfold laws_toNet.f
  rw [toLaneS_is l hl k hk]
  rfl
theorem eqLane_is (x y : S81) : laws_eqLane.f x.f0 x.f1 x.f2 x.f3 y.f0 y.f1 y.f2 y.f3 = some (decide (x = y)) := by
  unfold laws_eqLane.f
  simp only [lane_eq]
  repeat' split
  all_goals simp [*]
theorem eqLaneS_is (l m : List S81) (hl : l.length ≤ 1048576) (k : Nat) (hk : l.length < k) : laws_eqLaneS.f k l m = some (decide (l = m)) := by
  unfold laws_eqLaneS.f
  by_cases h : l.length = m.length
  · rw [if_pos (by omega)]
    refine same_all laws_eqLaneS.l0 z81 (fun k l m i h0 h1 h2 => ?_) (fun k l m i h => ?_) l m h hl k hk
    · simp only [laws_eqLaneS.l0]
      rw [if_pos h1, if_pos h0, if_pos (by omega), eqLane_is, Option.bind_some]
      by_cases hq : l.getD i.toNat z81 = m.getD i.toNat z81 <;> simp [rd_T81, hq]
    · simp only [laws_eqLaneS.l0]
      rw [if_neg (by omega)]
  · rw [if_neg (by omega)]
    have : l ≠ m := fun e => h (by rw [e])
    simp [this]
theorem eqNet_same (x y : Int) (l : List S81) (hl : l.length ≤ 1048576) (k : Nat) (hk : l.length < k) : laws_eqNet.f k x y l x y l = some true := by
  unfold laws_eqNet.f
  rw [if_pos rfl, if_pos rfl, eqLaneS_is l l hl k hk]
  simp
end Go.Proofs.YtcekifhkbdjpdaaDoor.Q
