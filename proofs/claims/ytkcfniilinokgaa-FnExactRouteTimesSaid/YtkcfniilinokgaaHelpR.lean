/- What the helpers of the law on routes' times come to, over lists alone. -/
import Derived.Test.YtkcfniilinokgaaLoops
import Derived.Test.YtkcfniilinokgaaQ1
import Derived.Test.YtkcfniilinokgaaQ2
set_option linter.unusedVariables false
set_option linter.unusedSimpArgs false
namespace Go.Proofs.Ytkcfniilinokgaa.Q
open Go.RowKit Go.Proofs.YtkcfniilinokgaaW.PrintWords Go.Proofs.YtkcfniilinokgaaW.PrintLast Go.Proofs.YtkcfniilinokgaaW.PrintMore Go.Proofs.Ytkcfniilinokgaa.Loops

def cvLane (x : S63) : S55 := ⟨x.f0, x.f1, x.f2, x.f3⟩
instance : DecidableEq S55 := fun x y => decidable_of_iff (x.f0 = y.f0 ∧ x.f1 = y.f1 ∧ x.f2 = y.f2 ∧ x.f3 = y.f3) (by cases x; cases y; simp)
theorem lane_eq (x y : S55) : x = y ↔ x.f0 = y.f0 ∧ x.f1 = y.f1 ∧ x.f2 = y.f2 ∧ x.f3 = y.f3 := by cases x; cases y; simp
theorem szLaneS_is (l : List S63) (a : Int) (hl : l.length ≤ maxLen) (h0 : 0 ≤ a) (ha : a ≤ 1048576) : laws_szLaneS.f l a = some (if a - l.length < 0 then -1 else a - l.length) := by
  unfold laws_szLaneS.f
  have e : wrap64 (a - (l.length : Int)) = a - l.length := by
    unfold maxLen at hl
    unfold wrap64
    omega
  rw [e]
  split <;> rfl
theorem szNet_is (x y : Int) (l : List S63) (a : Int) (hl : l.length ≤ maxLen) (h0 : 0 ≤ a) (ha : a ≤ 1048576) : laws_szNet.f x y l a = some (if a - l.length < 0 then -1 else a - l.length) := by
  unfold laws_szNet.f
  rw [szLaneS_is l a hl h0 ha, Option.bind_some]
  by_cases h : a - (l.length : Int) < 0
  · simp [h]
  · simp [h]
theorem toLaneS_is (l : List S63) (hl : l.length ≤ 1048576) (k : Nat) (hk : l.length < k) : laws_toLaneS.f k l = some (l.map cvLane) := by
  unfold laws_toLaneS.f
  rw [if_pos (by omega), if_pos (by omega)]
  exact fill_all laws_toLaneS.l0 cvLane z63 (fun k l xs i => by simp only [laws_toLaneS.l0, laws_toLane.f, Option.bind_some]; rfl) l hl k hk _ (by simp)
theorem toNet_is (x y : Int) (l : List S63) (hl : l.length ≤ 1048576) (k : Nat) (hk : l.length < k) : laws_toNet.f k x y l = some (x, y, l.map cvLane) := by
  unfold laws_toNet.f
  rw [toLaneS_is l hl k hk]
  rfl
theorem eqLane_is (x y : S55) : laws_eqLane.f x.f0 x.f1 x.f2 x.f3 y.f0 y.f1 y.f2 y.f3 = some (decide (x = y)) := by
  unfold laws_eqLane.f
  simp only [lane_eq]
  repeat' split
  all_goals simp [*]
theorem eqLaneS_is (l m : List S55) (hl : l.length ≤ 1048576) (k : Nat) (hk : l.length < k) : laws_eqLaneS.f k l m = some (decide (l = m)) := by
  unfold laws_eqLaneS.f
  by_cases h : l.length = m.length
  · rw [if_pos (by omega)]
    refine same_all laws_eqLaneS.l0 z55 (fun k l m i h0 h1 h2 => ?_) (fun k l m i h => ?_) l m h hl k hk
    · simp only [laws_eqLaneS.l0]
      rw [if_pos h1, if_pos h0, if_pos (by omega), eqLane_is, Option.bind_some]
      by_cases hq : l.getD i.toNat z55 = m.getD i.toNat z55 <;> simp [rd_T55, hq]
    · simp only [laws_eqLaneS.l0]
      rw [if_neg (by omega)]
  · rw [if_neg (by omega)]
    have : l ≠ m := fun e => h (by rw [e])
    simp [this]
theorem eqNet_same (x y : Int) (l : List S55) (hl : l.length ≤ 1048576) (k : Nat) (hk : l.length < k) : laws_eqNet.f k x y l x y l = some true := by
  unfold laws_eqNet.f
  rw [if_pos rfl, if_pos rfl, eqLaneS_is l l hl k hk]
  simp
theorem eqInt64S_same (l : List Int) (hl : l.length ≤ 1048576) (k : Nat) (hk : l.length < k) : laws_eqInt64S.f k l l = some true := by
  unfold laws_eqInt64S.f
  rw [if_pos rfl]
  have := same_all laws_eqInt64S.l0 0 (fun k l m i h0 h1 h2 => ?_) (fun k l m i h => ?_) l l rfl hl k hk
  · simpa using this
  · simp only [laws_eqInt64S.l0]
    rw [if_pos h1, if_pos h0, if_pos (by omega)]
    rfl
  · simp only [laws_eqInt64S.l0]
    rw [if_neg (by omega)]
theorem markLaneS_is (l : List S55) (hl : l.length ≤ 1048576) (k : Nat) (hk : l.length < k) (a : Int) (ha : 0 ≤ a) (hb : a ≤ 1048576) : ∃ l', laws_markLaneS.f k l a = some (a + 4 * l.length, l') := by
  unfold laws_markLaneS.f
  refine mark_loop laws_markLaneS.l0 4 (by omega) (fun k l a i h0 h1 ha hb => ?_) (fun k l a i h => ?_) l.length k l a 0 hl (by omega) (by omega) hk ha (by omega)
  · simp only [laws_markLaneS.l0]
    rw [if_pos h1, if_pos h0]
    simp only [Option.bind_some]
    have e1 : wrap64 (a + 1) = a + 1 := wrap_mid (by omega) (by omega)
    have e2 : wrap64 (a + 1 + 1) = a + 1 + 1 := wrap_mid (by omega) (by omega)
    have e3 : wrap64 (a + 1 + 1 + 1) = a + 1 + 1 + 1 := wrap_mid (by omega) (by omega)
    have e4 : wrap64 (a + 1 + 1 + 1 + 1) = a + ((4 : Nat) : Int) := by rw [wrap_mid (by omega) (by omega)]; omega
    rw [e1, e2, e3, e4]
    exact ⟨_, by simp only [List.length_set], rfl⟩
  · simp only [laws_markLaneS.l0]
    rw [if_neg (by omega)]
theorem markNet_is (x y : Int) (l : List S55) (hl : l.length ≤ 1048576) (k : Nat) (hk : l.length < k) : ∃ l', laws_markNet.f k x y l 1 = some (1 + 4 * (l.length : Int), l') := by
  obtain ⟨l', h⟩ := markLaneS_is l hl k hk 1 (by omega) (by omega)
  refine ⟨l', ?_⟩
  unfold laws_markNet.f
  rw [h]
  rfl
theorem markInt64S_is (l : List Int) (hl : l.length ≤ 1048576) (k : Nat) (hk : l.length < k) (a : Int) (ha : 0 ≤ a) (hb : a ≤ 1048576 * 1048576) : laws_markInt64S.f k l a = some (a + l.length, marks a l.length) := by
  unfold laws_markInt64S.f
  exact mark64_all laws_markInt64S.l0 (fun k l a i => by simp only [laws_markInt64S.l0]) l hl k hk a ha hb
end Go.Proofs.Ytkcfniilinokgaa.Q
