/- What the helpers of the laws come to (sz.., to.., eq..), over lists alone. -/
import Derived.Test.YtlefddghiiigeaaQ1
import Derived.Test.YtlefddghiiigeaaQ2
import Derived.Test.YtlefddghiiigeaaQ3
import Derived.Test.YtlefddghiiigeaaQ4
import Derived.Test.YtlefddghiiigeaaQ5
import Derived.Test.YtlefddghiiigeaaQFit
import Derived.Test.YtlefddghiiigeaaMC
import Derived.Test.YtlefddghiiigeaaMA
set_option linter.unusedVariables false
set_option linter.unusedSimpArgs false
namespace Go.Proofs.Ytlefddghiiigeaa.Q
open Go.RowKit Go.Proofs.YtlefddghiiigeaaW.PrintWords Go.Proofs.YtlefddghiiigeaaW.PrintLast Go.Proofs.YtlefddghiiigeaaW.PrintMore Go.Proofs.Ytlefddghiiigeaa.Loops
def cvOrder (x : S57) : S55 := ⟨x.f0, x.f1, x.f2, x.f3, x.f4⟩
instance : DecidableEq S55 := fun x y => decidable_of_iff (x.f0 = y.f0 ∧ x.f1 = y.f1 ∧ x.f2 = y.f2 ∧ x.f3 = y.f3 ∧ x.f4 = y.f4) (by cases x; cases y; simp)
theorem order_eq (x y : S55) : x = y ↔ x.f0 = y.f0 ∧ x.f1 = y.f1 ∧ x.f2 = y.f2 ∧ x.f3 = y.f3 ∧ x.f4 = y.f4 := by cases x; cases y; simp
theorem szOrderS_is (l : List S57) (a : Int) (hl : l.length ≤ maxLen) (h0 : 0 ≤ a) (ha : a ≤ 1048576) : laws_szOrderS.f l a = some (if a - l.length < 0 then -1 else a - l.length) := by
  unfold laws_szOrderS.f
  have e : wrap64 (a - (l.length : Int)) = a - l.length := by
    unfold maxLen at hl
    unfold wrap64
    omega
  rw [e]
  split <;> rfl
theorem toOrderS_is (l : List S57) (hl : l.length ≤ 1048576) (k : Nat) (hk : l.length < k) : laws_toOrderS.f k l = some (l.map cvOrder) := by
  unfold laws_toOrderS.f
  rw [if_pos (by omega), if_pos (by omega)]
  exact fill_all laws_toOrderS.l0 cvOrder z57 (fun k l xs i => by simp only [laws_toOrderS.l0, laws_toOrder.f, Option.bind_some]; rfl) l hl k hk _ (by simp)
theorem eqOrder_is (x y : S55) : laws_eqOrder.f x.f0 x.f1 x.f2 x.f3 x.f4 y.f0 y.f1 y.f2 y.f3 y.f4 = some (decide (x = y)) := by
  unfold laws_eqOrder.f
  simp only [order_eq]
  repeat' split
  all_goals simp [*]
theorem eqOrderS_is (l m : List S55) (hl : l.length ≤ 1048576) (k : Nat) (hk : l.length < k) : laws_eqOrderS.f k l m = some (decide (l = m)) := by
  unfold laws_eqOrderS.f
  by_cases h : l.length = m.length
  · rw [if_pos (by omega)]
    refine same_all laws_eqOrderS.l0 z55 (fun k l m i h0 h1 h2 => ?_) (fun k l m i h => ?_) l m h hl k hk
    · simp only [laws_eqOrderS.l0]
      rw [if_pos h1, if_pos h0, if_pos (by omega), eqOrder_is, Option.bind_some]
      by_cases hq : l.getD i.toNat z55 = m.getD i.toNat z55 <;> simp [rd_T55, hq]
    · simp only [laws_eqOrderS.l0]
      rw [if_neg (by omega)]
  · rw [if_neg (by omega)]
    have : l ≠ m := fun e => h (by rw [e])
    simp [this]
theorem okOrder_all (l : List S57) (w : l.length ≤ maxLen ∧ ∀ x ∈ l, wf57 x) : (l.map cvOrder).all okOrder = true := by
  rw [List.all_eq_true]
  intro x hx
  obtain ⟨z, hz, rfl⟩ := List.mem_map.1 hx
  obtain ⟨g0, g1, g2, g3, g4⟩ := w.2 z hz
  have := bounds_i8 g0
  have := bounds_i8 g1
  have := bounds_i16 g2
  have := bounds_i16 g3
  have := bounds_i16 g4
  rw [okOrder_iff]
  simp only [cvOrder]
  omega
def cvReturn (x : S59) : S50 := ⟨x.f0, x.f1, x.f2, x.f3⟩
instance : DecidableEq S50 := fun x y => decidable_of_iff (x.f0 = y.f0 ∧ x.f1 = y.f1 ∧ x.f2 = y.f2 ∧ x.f3 = y.f3) (by cases x; cases y; simp)
theorem return_eq (x y : S50) : x = y ↔ x.f0 = y.f0 ∧ x.f1 = y.f1 ∧ x.f2 = y.f2 ∧ x.f3 = y.f3 := by cases x; cases y; simp
theorem szReturnS_is (l : List S59) (a : Int) (hl : l.length ≤ maxLen) (h0 : 0 ≤ a) (ha : a ≤ 1048576) : laws_szReturnS.f l a = some (if a - l.length < 0 then -1 else a - l.length) := by
  unfold laws_szReturnS.f
  have e : wrap64 (a - (l.length : Int)) = a - l.length := by
    unfold maxLen at hl
    unfold wrap64
    omega
  rw [e]
  split <;> rfl
theorem toReturnS_is (l : List S59) (hl : l.length ≤ 1048576) (k : Nat) (hk : l.length < k) : laws_toReturnS.f k l = some (l.map cvReturn) := by
  unfold laws_toReturnS.f
  rw [if_pos (by omega), if_pos (by omega)]
  exact fill_all laws_toReturnS.l0 cvReturn z59 (fun k l xs i => by simp only [laws_toReturnS.l0, laws_toReturn.f, Option.bind_some]; rfl) l hl k hk _ (by simp)
theorem eqReturn_is (x y : S50) : laws_eqReturn.f x.f0 x.f1 x.f2 x.f3 y.f0 y.f1 y.f2 y.f3 = some (decide (x = y)) := by
  unfold laws_eqReturn.f
  simp only [return_eq]
  repeat' split
  all_goals simp [*]
theorem eqReturnS_is (l m : List S50) (hl : l.length ≤ 1048576) (k : Nat) (hk : l.length < k) : laws_eqReturnS.f k l m = some (decide (l = m)) := by
  unfold laws_eqReturnS.f
  by_cases h : l.length = m.length
  · rw [if_pos (by omega)]
    refine same_all laws_eqReturnS.l0 z50 (fun k l m i h0 h1 h2 => ?_) (fun k l m i h => ?_) l m h hl k hk
    · simp only [laws_eqReturnS.l0]
      rw [if_pos h1, if_pos h0, if_pos (by omega), eqReturn_is, Option.bind_some]
      by_cases hq : l.getD i.toNat z50 = m.getD i.toNat z50 <;> simp [rd_T50, hq]
    · simp only [laws_eqReturnS.l0]
      rw [if_neg (by omega)]
  · rw [if_neg (by omega)]
    have : l ≠ m := fun e => h (by rw [e])
    simp [this]
theorem okReturn_all (l : List S59) (w : l.length ≤ maxLen ∧ ∀ x ∈ l, wf59 x) : (l.map cvReturn).all okReturn = true := by
  rw [List.all_eq_true]
  intro x hx
  obtain ⟨z, hz, rfl⟩ := List.mem_map.1 hx
  obtain ⟨g0, g1, g2, g3⟩ := w.2 z hz
  have := bounds_i8 g0
  have := bounds_i8 g1
  have := bounds_i16 g2
  have := bounds_i16 g3
  rw [okReturn_iff]
  simp only [cvReturn]
  omega
end Go.Proofs.Ytlefddghiiigeaa.Q
