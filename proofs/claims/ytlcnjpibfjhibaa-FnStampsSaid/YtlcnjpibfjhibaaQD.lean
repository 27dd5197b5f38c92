-- By a program of this session (wip/pr.py) that turns the kit's printer.
import Derived.Test.YtlcnjpibfjhibaaHFewS
import Derived.Test.YtlcnjpibfjhibaaQ0
import Derived.Test.YtlcnjpibfjhibaaQ1
import Derived.Test.YtlcnjpibfjhibaaQ3
import Derived.Test.YtlcnjpibfjhibaaQ4
import Derived.Test.YtlcnjpibfjhibaaQ5
import Derived.Test.YtlcnjpibfjhibaaQ6
import Derived.Test.YtlcnjpibfjhibaaQ7
namespace Go.Proofs.Ytlcnjpibfjhibaa.Q
open Go.RowKit Go.Proofs.YtlcnjpibfjhibaaW.PrintWords Go.Proofs.YtlcnjpibfjhibaaW.PrintLast Go.Proofs.YtlcnjpibfjhibaaW.PrintMore
attribute [local go_sem] max2_int min2_int max_two min_two max_three min_three max_four min_four   -- for this text's walks alone
set_option linter.unusedVariables false
set_option linter.unusedSimpArgs false

/-! ### laws_FnStamps: function 5 -/
mutual
def laws_FnStamps.j0 : Nat → List Int → List Int → Bool → Option (Bool)
  | 0, _, _, _ => none
  | k + 1, x0, x1, x40 => if x40 = true then (some true) else ((spec_P6Values.f k x0).bind fun t329 => ((spec_P6Pick.f x1 60).bind fun t332 => ((impl_CanPay.f k t329 t332).bind fun bt333 => ((impl_FewestStamps.f t329 t332).bind fun bt335 => ((spec_FewestStamps.f k t329 t332).bind fun bt340 => ((impl_GreedyStamps.f k t329 t332).bind fun bt345 => ((spec_GreedyStamps.f k t329 t332).bind fun bt350 => ((impl_WaysToPay.f k t329 t332).bind fun bt355 => ((spec_WaysToPay.f k t329 t332).bind fun bt357 => (if bt333.2 = 0 then (if bt335.2.2 = bt340.2.2 then ((spec_SameNumbers.f k bt335.1 bt340.1).bind fun t359 => (if t359 = true then (if bt335.2.1 = bt340.2.1 then (if ((bt335.2.2 == 0) != bt333.1) = true then (laws_FnStamps.j1 k t329 t332 bt333.1 bt340.1 bt340.2.1 bt345.2.2 bt350.1 bt350.2.1 true) else (if bt345.2.2 = bt350.2.2 then ((spec_SameNumbers.f k bt345.1 bt350.1).bind fun t360 => (if t360 = true then (if bt345.2.1 = bt350.2.1 then (if bt355.2 = bt357.2 then (if bt355.2 = 0 then (if bt355.1 = bt357.1 then (if ((decide (bt357.1 > 0)) != bt333.1) = true then (laws_FnStamps.j1 k t329 t332 bt333.1 bt340.1 bt340.2.1 bt345.2.2 bt350.1 bt350.2.1 true) else ((impl_ValidValues.f k t329).bind fun t361 => (laws_FnStamps.j1 k t329 t332 bt333.1 bt340.1 bt340.2.1 bt345.2.2 bt350.1 bt350.2.1 (!t361)))) else (laws_FnStamps.j1 k t329 t332 bt333.1 bt340.1 bt340.2.1 bt345.2.2 bt350.1 bt350.2.1 true)) else (laws_FnStamps.j1 k t329 t332 bt333.1 bt340.1 bt340.2.1 bt345.2.2 bt350.1 bt350.2.1 true)) else (laws_FnStamps.j1 k t329 t332 bt333.1 bt340.1 bt340.2.1 bt345.2.2 bt350.1 bt350.2.1 true)) else (laws_FnStamps.j1 k t329 t332 bt333.1 bt340.1 bt340.2.1 bt345.2.2 bt350.1 bt350.2.1 true)) else (laws_FnStamps.j1 k t329 t332 bt333.1 bt340.1 bt340.2.1 bt345.2.2 bt350.1 bt350.2.1 true))) else (laws_FnStamps.j1 k t329 t332 bt333.1 bt340.1 bt340.2.1 bt345.2.2 bt350.1 bt350.2.1 true))) else (laws_FnStamps.j1 k t329 t332 bt333.1 bt340.1 bt340.2.1 bt345.2.2 bt350.1 bt350.2.1 true)) else (laws_FnStamps.j1 k t329 t332 bt333.1 bt340.1 bt340.2.1 bt345.2.2 bt350.1 bt350.2.1 true))) else (laws_FnStamps.j1 k t329 t332 bt333.1 bt340.1 bt340.2.1 bt345.2.2 bt350.1 bt350.2.1 true)) else (laws_FnStamps.j1 k t329 t332 bt333.1 bt340.1 bt340.2.1 bt345.2.2 bt350.1 bt350.2.1 true)))))))))))
def laws_FnStamps.j1 : Nat → List Int → Int → Bool → List Int → Int → Int → List Int → Int → Bool → Option (Bool)
  | 0, _, _, _, _, _, _, _, _, _ => none
  | k + 1, x5, x6, x7, x12, x13, x17, x18, x19, x155 => if x155 = true then (some false) else (if x7 = true then ((spec_PaidBy.f k x5 x12).bind fun t362 => (if t362 = x6 then ((spec_SumOf.f k x12).bind fun t363 => (if t363 = x13 then (laws_FnStamps.j2 k x5 x6 x7 x13 x17 x18 x19 ((x12.length : Int) != (x5.length : Int))) else (laws_FnStamps.j2 k x5 x6 x7 x13 x17 x18 x19 true))) else (laws_FnStamps.j2 k x5 x6 x7 x13 x17 x18 x19 true))) else (laws_FnStamps.j2 k x5 x6 x7 x13 x17 x18 x19 false))
def laws_FnStamps.j2 : Nat → List Int → Int → Bool → Int → Int → List Int → Int → Bool → Option (Bool)
  | 0, _, _, _, _, _, _, _, _ => none
  | k + 1, x5, x6, x7, x13, x17, x18, x19, x176 => if x176 = true then (some false) else (if x17 = 0 then (if x7 = true then ((spec_PaidBy.f k x5 x18).bind fun t364 => (if t364 = x6 then ((spec_SumOf.f k x18).bind fun t365 => (if t365 = x19 then (laws_FnStamps.j3 k x5 x6 x7 x13 x17 x19 (decide (x19 < x13))) else (laws_FnStamps.j3 k x5 x6 x7 x13 x17 x19 true))) else (laws_FnStamps.j3 k x5 x6 x7 x13 x17 x19 true))) else (laws_FnStamps.j3 k x5 x6 x7 x13 x17 x19 true)) else (laws_FnStamps.j3 k x5 x6 x7 x13 x17 x19 false))
def laws_FnStamps.j3 : Nat → List Int → Int → Bool → Int → Int → Int → Bool → Option (Bool)
  | 0, _, _, _, _, _, _, _ => none
  | k + 1, x5, x6, x7, x13, x17, x19, x200 => if x200 = true then (some false) else ((impl_FirstWrongGreedy.f k x5).bind fun bt366 => ((spec_FirstWrongGreedy.f k x5).bind fun bt368 => (if bt366.2 = bt368.2 then (if bt366.1 = bt368.1 then (if bt366.2 = 0 then (laws_FnStamps.j4 k x5 x6 x7 x13 x17 x19 bt366.2 bt368.1 false) else (laws_FnStamps.j4 k x5 x6 x7 x13 x17 x19 bt366.2 bt368.1 (bt366.2 != 6))) else (laws_FnStamps.j4 k x5 x6 x7 x13 x17 x19 bt366.2 bt368.1 true)) else (laws_FnStamps.j4 k x5 x6 x7 x13 x17 x19 bt366.2 bt368.1 true))))
def laws_FnStamps.j4 : Nat → List Int → Int → Bool → Int → Int → Int → Int → Int → Bool → Option (Bool)
  | 0, _, _, _, _, _, _, _, _, _ => none
  | k + 1, x5, x6, x7, x13, x17, x19, x26, x27, x226 => if x226 = true then (some false) else (if x7 = true then (if x6 > 0 then (if x17 = 0 then (if x26 = 0 then (if x6 = x27 then (laws_FnStamps.j5 k x5 x6 x7 x13 ((decide (x19 > x13)) != true)) else (if x6 > x27 then (laws_FnStamps.j5 k x5 x6 x7 x13 ((decide (x19 > x13)) != (decide (x19 > x13)))) else (laws_FnStamps.j5 k x5 x6 x7 x13 ((decide (x19 > x13)) != false)))) else (laws_FnStamps.j5 k x5 x6 x7 x13 ((decide (x19 > x13)) != false))) else (if x26 = 0 then (if x6 = x27 then (laws_FnStamps.j5 k x5 x6 x7 x13 (true != true)) else (if x6 > x27 then (laws_FnStamps.j5 k x5 x6 x7 x13 (true != true)) else (laws_FnStamps.j5 k x5 x6 x7 x13 (true != false)))) else (laws_FnStamps.j5 k x5 x6 x7 x13 (true != false)))) else (laws_FnStamps.j5 k x5 x6 x7 x13 false)) else (laws_FnStamps.j5 k x5 x6 x7 x13 false))
def laws_FnStamps.j5 : Nat → List Int → Int → Bool → Int → Bool → Option (Bool)
  | 0, _, _, _, _, _ => none
  | k + 1, x5, x6, x7, x13, x266 => if x266 = true then (some false) else (laws_FnStamps.l0 k x5 x6 x7 x13 0)
def laws_FnStamps.l0 : Nat → List Int → Int → Bool → Int → Int → Option (Bool)
  | 0, _, _, _, _, _ => none
  | k + 1, x5, x6, x7, x13, x29 => if x29 < (x5.length : Int) then (if 0 ≤ x29 then ((impl_CanPay.f k x5 (wrap64 (x6 + (rd x5 x29)))).bind fun bt371 => ((impl_FewestStamps.f x5 (wrap64 (x6 + (rd x5 x29)))).bind fun bt374 => (if x7 = true then (if bt371.2 = 0 then (if bt371.1 = true then (if bt374.2.2 = 0 then (if bt374.2.1 > (wrap64 (x13 + 1)) then (some false) else (laws_FnStamps.l0 k x5 x6 x7 x13 (wrap64 (x29 + 1)))) else (some false)) else (some false)) else (some false)) else (laws_FnStamps.l0 k x5 x6 x7 x13 (wrap64 (x29 + 1)))))) else (none)) else (some true)
end
def laws_FnStamps.f (k : Nat) (l0 : List Int) (l1 : List Int) : Option (Bool) := (laws_f6big.f l0).bind fun t327 => (if t327 = true then (laws_FnStamps.j0 k l0 l1 true) else ((laws_f6big.f l1).bind fun t328 => (laws_FnStamps.j0 k l0 l1 t328)))
theorem laws_FnStamps.mono_l : ∀ k, (∀ y0 y1 y2, LeO (laws_FnStamps.j0 k y0 y1 y2) (laws_FnStamps.j0 (k + 1) y0 y1 y2)) ∧ (∀ y0 y1 y2 y3 y4 y5 y6 y7 y8, LeO (laws_FnStamps.j1 k y0 y1 y2 y3 y4 y5 y6 y7 y8) (laws_FnStamps.j1 (k + 1) y0 y1 y2 y3 y4 y5 y6 y7 y8)) ∧ (∀ y0 y1 y2 y3 y4 y5 y6 y7, LeO (laws_FnStamps.j2 k y0 y1 y2 y3 y4 y5 y6 y7) (laws_FnStamps.j2 (k + 1) y0 y1 y2 y3 y4 y5 y6 y7)) ∧ (∀ y0 y1 y2 y3 y4 y5 y6, LeO (laws_FnStamps.j3 k y0 y1 y2 y3 y4 y5 y6) (laws_FnStamps.j3 (k + 1) y0 y1 y2 y3 y4 y5 y6)) ∧ (∀ y0 y1 y2 y3 y4 y5 y6 y7 y8, LeO (laws_FnStamps.j4 k y0 y1 y2 y3 y4 y5 y6 y7 y8) (laws_FnStamps.j4 (k + 1) y0 y1 y2 y3 y4 y5 y6 y7 y8)) ∧ (∀ y0 y1 y2 y3 y4, LeO (laws_FnStamps.j5 k y0 y1 y2 y3 y4) (laws_FnStamps.j5 (k + 1) y0 y1 y2 y3 y4)) ∧ (∀ y0 y1 y2 y3 y4, LeO (laws_FnStamps.l0 k y0 y1 y2 y3 y4) (laws_FnStamps.l0 (k + 1) y0 y1 y2 y3 y4))
  | 0 => ⟨fun _ _ _ r h => by simp [laws_FnStamps.j0] at h, fun _ _ _ _ _ _ _ _ _ r h => by simp [laws_FnStamps.j1] at h, fun _ _ _ _ _ _ _ _ r h => by simp [laws_FnStamps.j2] at h, fun _ _ _ _ _ _ _ r h => by simp [laws_FnStamps.j3] at h, fun _ _ _ _ _ _ _ _ _ r h => by simp [laws_FnStamps.j4] at h, fun _ _ _ _ _ r h => by simp [laws_FnStamps.j5] at h, fun _ _ _ _ _ r h => by simp [laws_FnStamps.l0] at h⟩
  | k + 1 => by
    obtain ⟨ih0, ih1, ih2, ih3, ih4, ih5, ih6⟩ := laws_FnStamps.mono_l k
    refine ⟨?_, ?_, ?_, ?_, ?_, ?_, ?_⟩
    · intro y0 y1 y2
      unfold laws_FnStamps.j0
      repeat' first
      | (with_reducible exact ih0 _ _ _)
      | (with_reducible exact ih1 _ _ _ _ _ _ _ _ _)
      | (with_reducible exact ih2 _ _ _ _ _ _ _ _)
      | (with_reducible exact ih3 _ _ _ _ _ _ _)
      | (with_reducible exact ih4 _ _ _ _ _ _ _ _ _)
      | (with_reducible exact ih5 _ _ _ _ _)
      | (with_reducible exact ih6 _ _ _ _ _)
      | (with_reducible exact impl_CanPay.mono _ _ _)
      | (with_reducible exact impl_FirstWrongGreedy.mono _ _)
      | (with_reducible exact impl_GreedyStamps.mono _ _ _)
      | (with_reducible exact impl_ValidValues.mono _ _)
      | (with_reducible exact impl_WaysToPay.mono _ _ _)
      | (with_reducible exact spec_FewestStamps.mono _ _ _)
      | (with_reducible exact spec_FirstWrongGreedy.mono _ _)
      | (with_reducible exact spec_GreedyStamps.mono _ _ _)
      | (with_reducible exact spec_P6Values.mono _ _)
      | (with_reducible exact spec_PaidBy.mono _ _ _)
      | (with_reducible exact spec_SameNumbers.mono _ _ _)
      | (with_reducible exact spec_SumOf.mono _ _)
      | (with_reducible exact spec_WaysToPay.mono _ _ _)
      | (with_reducible exact LeO.refl _)
      | (with_reducible exact LeO.none _)
      | (with_reducible refine LeO.ite ?_ ?_)
      | (with_reducible refine LeO.bind ?_ (fun _ => ?_))
      | exact ih0 _ _ _
      | exact ih1 _ _ _ _ _ _ _ _ _
      | exact ih2 _ _ _ _ _ _ _ _
      | exact ih3 _ _ _ _ _ _ _
      | exact ih4 _ _ _ _ _ _ _ _ _
      | exact ih5 _ _ _ _ _
      | exact ih6 _ _ _ _ _
      | exact impl_CanPay.mono _ _ _
      | exact impl_FirstWrongGreedy.mono _ _
      | exact impl_GreedyStamps.mono _ _ _
      | exact impl_ValidValues.mono _ _
      | exact impl_WaysToPay.mono _ _ _
      | exact spec_FewestStamps.mono _ _ _
      | exact spec_FirstWrongGreedy.mono _ _
      | exact spec_GreedyStamps.mono _ _ _
      | exact spec_P6Values.mono _ _
      | exact spec_PaidBy.mono _ _ _
      | exact spec_SameNumbers.mono _ _ _
      | exact spec_SumOf.mono _ _
      | exact spec_WaysToPay.mono _ _ _
      | exact LeO.none _
      | refine LeO.ite ?_ ?_
      | refine LeO.bind ?_ (fun _ => ?_)
    · intro y0 y1 y2 y3 y4 y5 y6 y7 y8
      unfold laws_FnStamps.j1
      repeat' first
      | (with_reducible exact ih0 _ _ _)
      | (with_reducible exact ih1 _ _ _ _ _ _ _ _ _)
      | (with_reducible exact ih2 _ _ _ _ _ _ _ _)
      | (with_reducible exact ih3 _ _ _ _ _ _ _)
      | (with_reducible exact ih4 _ _ _ _ _ _ _ _ _)
      | (with_reducible exact ih5 _ _ _ _ _)
      | (with_reducible exact ih6 _ _ _ _ _)
      | (with_reducible exact impl_CanPay.mono _ _ _)
      | (with_reducible exact impl_FirstWrongGreedy.mono _ _)
      | (with_reducible exact impl_GreedyStamps.mono _ _ _)
      | (with_reducible exact impl_ValidValues.mono _ _)
      | (with_reducible exact impl_WaysToPay.mono _ _ _)
      | (with_reducible exact spec_FewestStamps.mono _ _ _)
      | (with_reducible exact spec_FirstWrongGreedy.mono _ _)
      | (with_reducible exact spec_GreedyStamps.mono _ _ _)
      | (with_reducible exact spec_P6Values.mono _ _)
      | (with_reducible exact spec_PaidBy.mono _ _ _)
      | (with_reducible exact spec_SameNumbers.mono _ _ _)
      | (with_reducible exact spec_SumOf.mono _ _)
      | (with_reducible exact spec_WaysToPay.mono _ _ _)
      | (with_reducible exact LeO.refl _)
      | (with_reducible exact LeO.none _)
      | (with_reducible refine LeO.ite ?_ ?_)
      | (with_reducible refine LeO.bind ?_ (fun _ => ?_))
      | exact ih0 _ _ _
      | exact ih1 _ _ _ _ _ _ _ _ _
      | exact ih2 _ _ _ _ _ _ _ _
      | exact ih3 _ _ _ _ _ _ _
      | exact ih4 _ _ _ _ _ _ _ _ _
      | exact ih5 _ _ _ _ _
      | exact ih6 _ _ _ _ _
      | exact impl_CanPay.mono _ _ _
      | exact impl_FirstWrongGreedy.mono _ _
      | exact impl_GreedyStamps.mono _ _ _
      | exact impl_ValidValues.mono _ _
      | exact impl_WaysToPay.mono _ _ _
      | exact spec_FewestStamps.mono _ _ _
      | exact spec_FirstWrongGreedy.mono _ _
      | exact spec_GreedyStamps.mono _ _ _
      | exact spec_P6Values.mono _ _
      | exact spec_PaidBy.mono _ _ _
      | exact spec_SameNumbers.mono _ _ _
      | exact spec_SumOf.mono _ _
      | exact spec_WaysToPay.mono _ _ _
      | exact LeO.none _
      | refine LeO.ite ?_ ?_
      | refine LeO.bind ?_ (fun _ => ?_)
    · intro y0 y1 y2 y3 y4 y5 y6 y7
      unfold laws_FnStamps.j2
      repeat' first
      | (with_reducible exact ih0 _ _ _)
      | (with_reducible exact ih1 _ _ _ _ _ _ _ _ _)
      | (with_reducible exact ih2 _ _ _ _ _ _ _ _)
      | (with_reducible exact ih3 _ _ _ _ _ _ _)
      | (with_reducible exact ih4 _ _ _ _ _ _ _ _ _)
      | (with_reducible exact ih5 _ _ _ _ _)
      | (with_reducible exact ih6 _ _ _ _ _)
      | (with_reducible exact impl_CanPay.mono _ _ _)
      | (with_reducible exact impl_FirstWrongGreedy.mono _ _)
      | (with_reducible exact impl_GreedyStamps.mono _ _ _)
      | (with_reducible exact impl_ValidValues.mono _ _)
      | (with_reducible exact impl_WaysToPay.mono _ _ _)
      | (with_reducible exact spec_FewestStamps.mono _ _ _)
      | (with_reducible exact spec_FirstWrongGreedy.mono _ _)
      | (with_reducible exact spec_GreedyStamps.mono _ _ _)
      | (with_reducible exact spec_P6Values.mono _ _)
      | (with_reducible exact spec_PaidBy.mono _ _ _)
      | (with_reducible exact spec_SameNumbers.mono _ _ _)
      | (with_reducible exact spec_SumOf.mono _ _)
      | (with_reducible exact spec_WaysToPay.mono _ _ _)
      | (with_reducible exact LeO.refl _)
      | (with_reducible exact LeO.none _)
      | (with_reducible refine LeO.ite ?_ ?_)
      | (with_reducible refine LeO.bind ?_ (fun _ => ?_))
      | exact ih0 _ _ _
      | exact ih1 _ _ _ _ _ _ _ _ _
      | exact ih2 _ _ _ _ _ _ _ _
      | exact ih3 _ _ _ _ _ _ _
      | exact ih4 _ _ _ _ _ _ _ _ _
      | exact ih5 _ _ _ _ _
      | exact ih6 _ _ _ _ _
      | exact impl_CanPay.mono _ _ _
      | exact impl_FirstWrongGreedy.mono _ _
      | exact impl_GreedyStamps.mono _ _ _
      | exact impl_ValidValues.mono _ _
      | exact impl_WaysToPay.mono _ _ _
      | exact spec_FewestStamps.mono _ _ _
      | exact spec_FirstWrongGreedy.mono _ _
      | exact spec_GreedyStamps.mono _ _ _
      | exact spec_P6Values.mono _ _
      | exact spec_PaidBy.mono _ _ _
      | exact spec_SameNumbers.mono _ _ _
      | exact spec_SumOf.mono _ _
      | exact spec_WaysToPay.mono _ _ _
      | exact LeO.none _
      | refine LeO.ite ?_ ?_
      | refine LeO.bind ?_ (fun _ => ?_)
    · intro y0 y1 y2 y3 y4 y5 y6
      unfold laws_FnStamps.j3
      repeat' first
      | (with_reducible exact ih0 _ _ _)
      | (with_reducible exact ih1 _ _ _ _ _ _ _ _ _)
      | (with_reducible exact ih2 _ _ _ _ _ _ _ _)
      | (with_reducible exact ih3 _ _ _ _ _ _ _)
      | (with_reducible exact ih4 _ _ _ _ _ _ _ _ _)
      | (with_reducible exact ih5 _ _ _ _ _)
      | (with_reducible exact ih6 _ _ _ _ _)
      | (with_reducible exact impl_CanPay.mono _ _ _)
      | (with_reducible exact impl_FirstWrongGreedy.mono _ _)
      | (with_reducible exact impl_GreedyStamps.mono _ _ _)
      | (with_reducible exact impl_ValidValues.mono _ _)
      | (with_reducible exact impl_WaysToPay.mono _ _ _)
      | (with_reducible exact spec_FewestStamps.mono _ _ _)
      | (with_reducible exact spec_FirstWrongGreedy.mono _ _)
      | (with_reducible exact spec_GreedyStamps.mono _ _ _)
      | (with_reducible exact spec_P6Values.mono _ _)
      | (with_reducible exact spec_PaidBy.mono _ _ _)
      | (with_reducible exact spec_SameNumbers.mono _ _ _)
      | (with_reducible exact spec_SumOf.mono _ _)
      | (with_reducible exact spec_WaysToPay.mono _ _ _)
      | (with_reducible exact LeO.refl _)
      | (with_reducible exact LeO.none _)
      | (with_reducible refine LeO.ite ?_ ?_)
      | (with_reducible refine LeO.bind ?_ (fun _ => ?_))
      | exact ih0 _ _ _
      | exact ih1 _ _ _ _ _ _ _ _ _
      | exact ih2 _ _ _ _ _ _ _ _
      | exact ih3 _ _ _ _ _ _ _
      | exact ih4 _ _ _ _ _ _ _ _ _
      | exact ih5 _ _ _ _ _
      | exact ih6 _ _ _ _ _
      | exact impl_CanPay.mono _ _ _
      | exact impl_FirstWrongGreedy.mono _ _
      | exact impl_GreedyStamps.mono _ _ _
      | exact impl_ValidValues.mono _ _
      | exact impl_WaysToPay.mono _ _ _
      | exact spec_FewestStamps.mono _ _ _
      | exact spec_FirstWrongGreedy.mono _ _
      | exact spec_GreedyStamps.mono _ _ _
      | exact spec_P6Values.mono _ _
      | exact spec_PaidBy.mono _ _ _
      | exact spec_SameNumbers.mono _ _ _
      | exact spec_SumOf.mono _ _
      | exact spec_WaysToPay.mono _ _ _
      | exact LeO.none _
      | refine LeO.ite ?_ ?_
      | refine LeO.bind ?_ (fun _ => ?_)
    · intro y0 y1 y2 y3 y4 y5 y6 y7 y8
      unfold laws_FnStamps.j4
      repeat' first
      | (with_reducible exact ih0 _ _ _)
      | (with_reducible exact ih1 _ _ _ _ _ _ _ _ _)
      | (with_reducible exact ih2 _ _ _ _ _ _ _ _)
      | (with_reducible exact ih3 _ _ _ _ _ _ _)
      | (with_reducible exact ih4 _ _ _ _ _ _ _ _ _)
      | (with_reducible exact ih5 _ _ _ _ _)
      | (with_reducible exact ih6 _ _ _ _ _)
      | (with_reducible exact impl_CanPay.mono _ _ _)
      | (with_reducible exact impl_FirstWrongGreedy.mono _ _)
      | (with_reducible exact impl_GreedyStamps.mono _ _ _)
      | (with_reducible exact impl_ValidValues.mono _ _)
      | (with_reducible exact impl_WaysToPay.mono _ _ _)
      | (with_reducible exact spec_FewestStamps.mono _ _ _)
      | (with_reducible exact spec_FirstWrongGreedy.mono _ _)
      | (with_reducible exact spec_GreedyStamps.mono _ _ _)
      | (with_reducible exact spec_P6Values.mono _ _)
      | (with_reducible exact spec_PaidBy.mono _ _ _)
      | (with_reducible exact spec_SameNumbers.mono _ _ _)
      | (with_reducible exact spec_SumOf.mono _ _)
      | (with_reducible exact spec_WaysToPay.mono _ _ _)
      | (with_reducible exact LeO.refl _)
      | (with_reducible exact LeO.none _)
      | (with_reducible refine LeO.ite ?_ ?_)
      | (with_reducible refine LeO.bind ?_ (fun _ => ?_))
      | exact ih0 _ _ _
      | exact ih1 _ _ _ _ _ _ _ _ _
      | exact ih2 _ _ _ _ _ _ _ _
      | exact ih3 _ _ _ _ _ _ _
      | exact ih4 _ _ _ _ _ _ _ _ _
      | exact ih5 _ _ _ _ _
      | exact ih6 _ _ _ _ _
      | exact impl_CanPay.mono _ _ _
      | exact impl_FirstWrongGreedy.mono _ _
      | exact impl_GreedyStamps.mono _ _ _
      | exact impl_ValidValues.mono _ _
      | exact impl_WaysToPay.mono _ _ _
      | exact spec_FewestStamps.mono _ _ _
      | exact spec_FirstWrongGreedy.mono _ _
      | exact spec_GreedyStamps.mono _ _ _
      | exact spec_P6Values.mono _ _
      | exact spec_PaidBy.mono _ _ _
      | exact spec_SameNumbers.mono _ _ _
      | exact spec_SumOf.mono _ _
      | exact spec_WaysToPay.mono _ _ _
      | exact LeO.none _
      | refine LeO.ite ?_ ?_
      | refine LeO.bind ?_ (fun _ => ?_)
    · intro y0 y1 y2 y3 y4
      unfold laws_FnStamps.j5
      repeat' first
      | (with_reducible exact ih0 _ _ _)
      | (with_reducible exact ih1 _ _ _ _ _ _ _ _ _)
      | (with_reducible exact ih2 _ _ _ _ _ _ _ _)
      | (with_reducible exact ih3 _ _ _ _ _ _ _)
      | (with_reducible exact ih4 _ _ _ _ _ _ _ _ _)
      | (with_reducible exact ih5 _ _ _ _ _)
      | (with_reducible exact ih6 _ _ _ _ _)
      | (with_reducible exact impl_CanPay.mono _ _ _)
      | (with_reducible exact impl_FirstWrongGreedy.mono _ _)
      | (with_reducible exact impl_GreedyStamps.mono _ _ _)
      | (with_reducible exact impl_ValidValues.mono _ _)
      | (with_reducible exact impl_WaysToPay.mono _ _ _)
      | (with_reducible exact spec_FewestStamps.mono _ _ _)
      | (with_reducible exact spec_FirstWrongGreedy.mono _ _)
      | (with_reducible exact spec_GreedyStamps.mono _ _ _)
      | (with_reducible exact spec_P6Values.mono _ _)
      | (with_reducible exact spec_PaidBy.mono _ _ _)
      | (with_reducible exact spec_SameNumbers.mono _ _ _)
      | (with_reducible exact spec_SumOf.mono _ _)
      | (with_reducible exact spec_WaysToPay.mono _ _ _)
      | (with_reducible exact LeO.refl _)
      | (with_reducible exact LeO.none _)
      | (with_reducible refine LeO.ite ?_ ?_)
      | (with_reducible refine LeO.bind ?_ (fun _ => ?_))
      | exact ih0 _ _ _
      | exact ih1 _ _ _ _ _ _ _ _ _
      | exact ih2 _ _ _ _ _ _ _ _
      | exact ih3 _ _ _ _ _ _ _
      | exact ih4 _ _ _ _ _ _ _ _ _
      | exact ih5 _ _ _ _ _
      | exact ih6 _ _ _ _ _
      | exact impl_CanPay.mono _ _ _
      | exact impl_FirstWrongGreedy.mono _ _
      | exact impl_GreedyStamps.mono _ _ _
      | exact impl_ValidValues.mono _ _
      | exact impl_WaysToPay.mono _ _ _
      | exact spec_FewestStamps.mono _ _ _
      | exact spec_FirstWrongGreedy.mono _ _
      | exact spec_GreedyStamps.mono _ _ _
      | exact spec_P6Values.mono _ _
      | exact spec_PaidBy.mono _ _ _
      | exact spec_SameNumbers.mono _ _ _
      | exact spec_SumOf.mono _ _
      | exact spec_WaysToPay.mono _ _ _
      | exact LeO.none _
      | refine LeO.ite ?_ ?_
      | refine LeO.bind ?_ (fun _ => ?_)
    · intro y0 y1 y2 y3 y4
      unfold laws_FnStamps.l0
      repeat' first
      | (with_reducible exact ih0 _ _ _)
      | (with_reducible exact ih1 _ _ _ _ _ _ _ _ _)
      | (with_reducible exact ih2 _ _ _ _ _ _ _ _)
      | (with_reducible exact ih3 _ _ _ _ _ _ _)
      | (with_reducible exact ih4 _ _ _ _ _ _ _ _ _)
      | (with_reducible exact ih5 _ _ _ _ _)
      | (with_reducible exact ih6 _ _ _ _ _)
      | (with_reducible exact impl_CanPay.mono _ _ _)
      | (with_reducible exact impl_FirstWrongGreedy.mono _ _)
      | (with_reducible exact impl_GreedyStamps.mono _ _ _)
      | (with_reducible exact impl_ValidValues.mono _ _)
      | (with_reducible exact impl_WaysToPay.mono _ _ _)
      | (with_reducible exact spec_FewestStamps.mono _ _ _)
      | (with_reducible exact spec_FirstWrongGreedy.mono _ _)
      | (with_reducible exact spec_GreedyStamps.mono _ _ _)
      | (with_reducible exact spec_P6Values.mono _ _)
      | (with_reducible exact spec_PaidBy.mono _ _ _)
      | (with_reducible exact spec_SameNumbers.mono _ _ _)
      | (with_reducible exact spec_SumOf.mono _ _)
      | (with_reducible exact spec_WaysToPay.mono _ _ _)
      | (with_reducible exact LeO.refl _)
      | (with_reducible exact LeO.none _)
      | (with_reducible refine LeO.ite ?_ ?_)
      | (with_reducible refine LeO.bind ?_ (fun _ => ?_))
      | exact ih0 _ _ _
      | exact ih1 _ _ _ _ _ _ _ _ _
      | exact ih2 _ _ _ _ _ _ _ _
      | exact ih3 _ _ _ _ _ _ _
      | exact ih4 _ _ _ _ _ _ _ _ _
      | exact ih5 _ _ _ _ _
      | exact ih6 _ _ _ _ _
      | exact impl_CanPay.mono _ _ _
      | exact impl_FirstWrongGreedy.mono _ _
      | exact impl_GreedyStamps.mono _ _ _
      | exact impl_ValidValues.mono _ _
      | exact impl_WaysToPay.mono _ _ _
      | exact spec_FewestStamps.mono _ _ _
      | exact spec_FirstWrongGreedy.mono _ _
      | exact spec_GreedyStamps.mono _ _ _
      | exact spec_P6Values.mono _ _
      | exact spec_PaidBy.mono _ _ _
      | exact spec_SameNumbers.mono _ _ _
      | exact spec_SumOf.mono _ _
      | exact spec_WaysToPay.mono _ _ _
      | exact LeO.none _
      | refine LeO.ite ?_ ?_
      | refine LeO.bind ?_ (fun _ => ?_)
theorem laws_FnStamps.mono : ∀ a0 a1 k, LeO (laws_FnStamps.f k a0 a1) (laws_FnStamps.f (k + 1) a0 a1) := by
  intro a0 a1 k
  obtain ⟨ih0, ih1, ih2, ih3, ih4, ih5, ih6⟩ := laws_FnStamps.mono_l k
  unfold laws_FnStamps.f
  repeat' first
      | (with_reducible exact ih0 _ _ _)
      | (with_reducible exact ih1 _ _ _ _ _ _ _ _ _)
      | (with_reducible exact ih2 _ _ _ _ _ _ _ _)
      | (with_reducible exact ih3 _ _ _ _ _ _ _)
      | (with_reducible exact ih4 _ _ _ _ _ _ _ _ _)
      | (with_reducible exact ih5 _ _ _ _ _)
      | (with_reducible exact ih6 _ _ _ _ _)
      | (with_reducible exact impl_CanPay.mono _ _ _)
      | (with_reducible exact impl_FirstWrongGreedy.mono _ _)
      | (with_reducible exact impl_GreedyStamps.mono _ _ _)
      | (with_reducible exact impl_ValidValues.mono _ _)
      | (with_reducible exact impl_WaysToPay.mono _ _ _)
      | (with_reducible exact spec_FewestStamps.mono _ _ _)
      | (with_reducible exact spec_FirstWrongGreedy.mono _ _)
      | (with_reducible exact spec_GreedyStamps.mono _ _ _)
      | (with_reducible exact spec_P6Values.mono _ _)
      | (with_reducible exact spec_PaidBy.mono _ _ _)
      | (with_reducible exact spec_SameNumbers.mono _ _ _)
      | (with_reducible exact spec_SumOf.mono _ _)
      | (with_reducible exact spec_WaysToPay.mono _ _ _)
      | (with_reducible exact LeO.refl _)
      | (with_reducible exact LeO.none _)
      | (with_reducible refine LeO.ite ?_ ?_)
      | (with_reducible refine LeO.bind ?_ (fun _ => ?_))
      | exact ih0 _ _ _
      | exact ih1 _ _ _ _ _ _ _ _ _
      | exact ih2 _ _ _ _ _ _ _ _
      | exact ih3 _ _ _ _ _ _ _
      | exact ih4 _ _ _ _ _ _ _ _ _
      | exact ih5 _ _ _ _ _
      | exact ih6 _ _ _ _ _
      | exact impl_CanPay.mono _ _ _
      | exact impl_FirstWrongGreedy.mono _ _
      | exact impl_GreedyStamps.mono _ _ _
      | exact impl_ValidValues.mono _ _
      | exact impl_WaysToPay.mono _ _ _
      | exact spec_FewestStamps.mono _ _ _
      | exact spec_FirstWrongGreedy.mono _ _
      | exact spec_GreedyStamps.mono _ _ _
      | exact spec_P6Values.mono _ _
      | exact spec_PaidBy.mono _ _ _
      | exact spec_SameNumbers.mono _ _ _
      | exact spec_SumOf.mono _ _
      | exact spec_WaysToPay.mono _ _ _
      | exact LeO.none _
      | refine LeO.ite ?_ ?_
      | refine LeO.bind ?_ (fun _ => ?_)
theorem laws_FnStamps.j1_no : ∀ k a0 a1 a2 a3 a4 a5 a6 a7, laws_FnStamps.j1 k a0 a1 a2 a3 a4 a5 a6 a7 true ≠ some true
  | 0, _, _, _, _, _, _, _, _ => by simp [laws_FnStamps.j1]
  | k + 1, _, _, _, _, _, _, _, _ => by simp [laws_FnStamps.j1]
theorem laws_FnStamps.j2_no : ∀ k a0 a1 a2 a3 a4 a5 a6, laws_FnStamps.j2 k a0 a1 a2 a3 a4 a5 a6 true ≠ some true
  | 0, _, _, _, _, _, _, _ => by simp [laws_FnStamps.j2]
  | k + 1, _, _, _, _, _, _, _ => by simp [laws_FnStamps.j2]
theorem laws_FnStamps.j3_no : ∀ k a0 a1 a2 a3 a4 a5, laws_FnStamps.j3 k a0 a1 a2 a3 a4 a5 true ≠ some true
  | 0, _, _, _, _, _, _ => by simp [laws_FnStamps.j3]
  | k + 1, _, _, _, _, _, _ => by simp [laws_FnStamps.j3]
theorem laws_FnStamps.j4_no : ∀ k a0 a1 a2 a3 a4 a5 a6 a7, laws_FnStamps.j4 k a0 a1 a2 a3 a4 a5 a6 a7 true ≠ some true
  | 0, _, _, _, _, _, _, _, _ => by simp [laws_FnStamps.j4]
  | k + 1, _, _, _, _, _, _, _, _ => by simp [laws_FnStamps.j4]
theorem laws_FnStamps.j5_no : ∀ k a0 a1 a2 a3, laws_FnStamps.j5 k a0 a1 a2 a3 true ≠ some true
  | 0, _, _, _, _ => by simp [laws_FnStamps.j5]
  | k + 1, _, _, _, _ => by simp [laws_FnStamps.j5]
end Go.Proofs.Ytlcnjpibfjhibaa.Q
