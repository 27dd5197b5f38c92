-- By a program of this session (wip/pr.py) that turns the kit's printer.
import Derived.Test.YtlcnjpibfjhibaaQ0
import Derived.Test.YtlcnjpibfjhibaaQ1
import Derived.Test.YtlcnjpibfjhibaaQ2
import Derived.Test.YtlcnjpibfjhibaaQ3
import Derived.Test.YtlcnjpibfjhibaaQ4
import Derived.Test.YtlcnjpibfjhibaaQ5
namespace Go.Proofs.Ytlcnjpibfjhibaa.Q
open Go.RowKit Go.Proofs.YtlcnjpibfjhibaaW.PrintWords Go.Proofs.YtlcnjpibfjhibaaW.PrintLast Go.Proofs.YtlcnjpibfjhibaaW.PrintMore
attribute [local go_sem] max2_int min2_int max_two min_two max_three min_three max_four min_four   -- for this text's walks alone
set_option linter.unusedVariables false
set_option linter.unusedSimpArgs false

/-! ### laws_FnGaps: function 3 -/
mutual
def laws_FnGaps.j0 : Nat → List Int → List Int → Bool → Option (Bool)
  | 0, _, _, _ => none
  | k + 1, x0, x1, x31 => if x31 = true then (some true) else ((spec_P6Values.f k x0).bind fun t240 => ((spec_P6Pick.f x1 60).bind fun t243 => ((impl_GapsUpTo.f k t240 (wrap64 (20 + t243))).bind fun bt244 => ((spec_GapsUpTo.f k t240 (wrap64 (20 + t243))).bind fun bt248 => ((impl_GreatestGap.f k t240).bind fun bt252 => ((spec_GreatestGap.f k t240).bind fun bt254 => (if bt244.2 = bt248.2 then (if bt244.2 = 0 then ((spec_SameNumbers.f k bt244.1 bt248.1).bind fun t256 => (if t256 = true then (if bt252.2 = bt254.2 then (if bt252.1 = bt254.1 then (if bt252.2 = 0 then (laws_FnGaps.j1 k x0 t240 (wrap64 (20 + t243)) bt248.1 bt252.2 bt254.1 false) else (if bt252.2 = 4 then (laws_FnGaps.j1 k x0 t240 (wrap64 (20 + t243)) bt248.1 bt252.2 bt254.1 false) else (laws_FnGaps.j1 k x0 t240 (wrap64 (20 + t243)) bt248.1 bt252.2 bt254.1 (bt252.2 != 6)))) else (laws_FnGaps.j1 k x0 t240 (wrap64 (20 + t243)) bt248.1 bt252.2 bt254.1 true)) else (laws_FnGaps.j1 k x0 t240 (wrap64 (20 + t243)) bt248.1 bt252.2 bt254.1 true)) else (laws_FnGaps.j1 k x0 t240 (wrap64 (20 + t243)) bt248.1 bt252.2 bt254.1 true))) else (laws_FnGaps.j1 k x0 t240 (wrap64 (20 + t243)) bt248.1 bt252.2 bt254.1 true)) else (laws_FnGaps.j1 k x0 t240 (wrap64 (20 + t243)) bt248.1 bt252.2 bt254.1 true))))))))
def laws_FnGaps.j1 : Nat → List Int → List Int → Int → List Int → Int → Int → Bool → Option (Bool)
  | 0, _, _, _, _, _, _, _ => none
  | k + 1, x0, x5, x6, x9, x12, x13, x93 => if x93 = true then (some false) else (laws_FnGaps.l0 k x0 x5 x6 x9 x12 x13 0)
def laws_FnGaps.l0 : Nat → List Int → List Int → Int → List Int → Int → Int → Int → Option (Bool)
  | 0, _, _, _, _, _, _, _ => none
  | k + 1, x0, x5, x6, x9, x12, x13, x15 => if x15 ≤ x6 then ((impl_CanPay.f k x5 x15).bind fun bt257 => (if bt257.2 = 0 then ((spec_HasNumber.f k x9 x15).bind fun t259 => (if (bt257.1 == t259) = true then (some false) else (if x12 = 0 then (if x15 > x13 then (if bt257.1 = true then (if x15 = x13 then (some false) else (if x12 = 6 then (laws_FnGaps.l0 k x0 x5 x6 x9 x12 x13 (wrap64 (x15 + 1))) else (laws_FnGaps.l0 k x0 x5 x6 x9 x12 x13 (wrap64 (x15 + 1))))) else (some false)) else (if x15 = x13 then (if bt257.1 = true then (some false) else (if x12 = 6 then (some false) else (laws_FnGaps.l0 k x0 x5 x6 x9 x12 x13 (wrap64 (x15 + 1))))) else (if x12 = 6 then (if bt257.1 = true then (laws_FnGaps.l0 k x0 x5 x6 x9 x12 x13 (wrap64 (x15 + 1))) else (some false)) else (laws_FnGaps.l0 k x0 x5 x6 x9 x12 x13 (wrap64 (x15 + 1)))))) else (if x12 = 6 then (if bt257.1 = true then (laws_FnGaps.l0 k x0 x5 x6 x9 x12 x13 (wrap64 (x15 + 1))) else (some false)) else (laws_FnGaps.l0 k x0 x5 x6 x9 x12 x13 (wrap64 (x15 + 1))))))) else (some false))) else (if x12 = 0 then (if x13 ≤ x6 then (if (x9.length : Int) = 0 then (laws_FnGaps.j3 k x0 x5 true) else (if 0 ≤ (wrap64 ((x9.length : Int) - 1)) then (if (wrap64 ((x9.length : Int) - 1)) < (x9.length : Int) then (laws_FnGaps.j3 k x0 x5 ((rd x9 (wrap64 ((x9.length : Int) - 1))) != x13)) else (none)) else (none))) else (laws_FnGaps.j3 k x0 x5 false)) else (laws_FnGaps.j3 k x0 x5 false))
def laws_FnGaps.j3 : Nat → List Int → List Int → Bool → Option (Bool)
  | 0, _, _, _ => none
  | k + 1, x0, x5, x168 => if x168 = true then (some false) else ((spec_P6Pick.f x0 70).bind fun t261 => ((impl_LeastOver.f k x5 t261).bind fun bt262 => ((spec_LeastOver.f k x5 t261).bind fun bt264 => (if bt262.2 = bt264.2 then (if bt262.2 = 0 then (if bt262.1 = bt264.1 then (if bt264.1 < t261 then (laws_FnGaps.j4 k x5 t261 bt264.1 true) else (if 0 < (x5.length : Int) then (laws_FnGaps.j4 k x5 t261 bt264.1 (decide ((wrap64 (bt264.1 - t261)) ≥ (rd x5 0)))) else (none))) else (laws_FnGaps.j4 k x5 t261 bt264.1 true)) else (laws_FnGaps.j4 k x5 t261 bt264.1 true)) else (laws_FnGaps.j4 k x5 t261 bt264.1 true)))))
def laws_FnGaps.j4 : Nat → List Int → Int → Int → Bool → Option (Bool)
  | 0, _, _, _, _ => none
  | k + 1, x5, x18, x21, x208 => if x208 = true then (some false) else (laws_FnGaps.l1 k x5 x21 x18)
def laws_FnGaps.l1 : Nat → List Int → Int → Int → Option (Bool)
  | 0, _, _, _ => none
  | k + 1, x5, x21, x23 => if x23 ≤ x21 then ((impl_CanPay.f k x5 x23).bind fun bt267 => (if bt267.2 = 0 then (if (bt267.1 != (x23 == x21)) = true then (some false) else (laws_FnGaps.l1 k x5 x21 (wrap64 (x23 + 1)))) else (some false))) else (some true)
end
def laws_FnGaps.f (k : Nat) (l0 : List Int) (l1 : List Int) : Option (Bool) := (laws_f6big.f l0).bind fun t238 => (if t238 = true then (laws_FnGaps.j0 k l0 l1 true) else ((laws_f6big.f l1).bind fun t239 => (laws_FnGaps.j0 k l0 l1 t239)))
theorem laws_FnGaps.mono_l : ∀ k, (∀ y0 y1 y2, LeO (laws_FnGaps.j0 k y0 y1 y2) (laws_FnGaps.j0 (k + 1) y0 y1 y2)) ∧ (∀ y0 y1 y2 y3 y4 y5 y6, LeO (laws_FnGaps.j1 k y0 y1 y2 y3 y4 y5 y6) (laws_FnGaps.j1 (k + 1) y0 y1 y2 y3 y4 y5 y6)) ∧ (∀ y0 y1 y2 y3 y4 y5 y6, LeO (laws_FnGaps.l0 k y0 y1 y2 y3 y4 y5 y6) (laws_FnGaps.l0 (k + 1) y0 y1 y2 y3 y4 y5 y6)) ∧ (∀ y0 y1 y2, LeO (laws_FnGaps.j3 k y0 y1 y2) (laws_FnGaps.j3 (k + 1) y0 y1 y2)) ∧ (∀ y0 y1 y2 y3, LeO (laws_FnGaps.j4 k y0 y1 y2 y3) (laws_FnGaps.j4 (k + 1) y0 y1 y2 y3)) ∧ (∀ y0 y1 y2, LeO (laws_FnGaps.l1 k y0 y1 y2) (laws_FnGaps.l1 (k + 1) y0 y1 y2))
  | 0 => ⟨fun _ _ _ r h => by simp [laws_FnGaps.j0] at h, fun _ _ _ _ _ _ _ r h => by simp [laws_FnGaps.j1] at h, fun _ _ _ _ _ _ _ r h => by simp [laws_FnGaps.l0] at h, fun _ _ _ r h => by simp [laws_FnGaps.j3] at h, fun _ _ _ _ r h => by simp [laws_FnGaps.j4] at h, fun _ _ _ r h => by simp [laws_FnGaps.l1] at h⟩
  | k + 1 => by
    obtain ⟨ih0, ih1, ih2, ih3, ih4, ih5⟩ := laws_FnGaps.mono_l k
    refine ⟨?_, ?_, ?_, ?_, ?_, ?_⟩
    · intro y0 y1 y2
      unfold laws_FnGaps.j0
      repeat' first
      | (with_reducible exact ih0 _ _ _)
      | (with_reducible exact ih1 _ _ _ _ _ _ _)
      | (with_reducible exact ih2 _ _ _ _ _ _ _)
      | (with_reducible exact ih3 _ _ _)
      | (with_reducible exact ih4 _ _ _ _)
      | (with_reducible exact ih5 _ _ _)
      | (with_reducible exact impl_CanPay.mono _ _ _)
      | (with_reducible exact impl_GapsUpTo.mono _ _ _)
      | (with_reducible exact impl_GreatestGap.mono _ _)
      | (with_reducible exact impl_LeastOver.mono _ _ _)
      | (with_reducible exact spec_GapsUpTo.mono _ _ _)
      | (with_reducible exact spec_GreatestGap.mono _ _)
      | (with_reducible exact spec_HasNumber.mono _ _ _)
      | (with_reducible exact spec_LeastOver.mono _ _ _)
      | (with_reducible exact spec_P6Values.mono _ _)
      | (with_reducible exact spec_SameNumbers.mono _ _ _)
      | (with_reducible exact LeO.refl _)
      | (with_reducible exact LeO.none _)
      | (with_reducible refine LeO.ite ?_ ?_)
      | (with_reducible refine LeO.bind ?_ (fun _ => ?_))
      | exact ih0 _ _ _
      | exact ih1 _ _ _ _ _ _ _
      | exact ih2 _ _ _ _ _ _ _
      | exact ih3 _ _ _
      | exact ih4 _ _ _ _
      | exact ih5 _ _ _
      | exact impl_CanPay.mono _ _ _
      | exact impl_GapsUpTo.mono _ _ _
      | exact impl_GreatestGap.mono _ _
      | exact impl_LeastOver.mono _ _ _
      | exact spec_GapsUpTo.mono _ _ _
      | exact spec_GreatestGap.mono _ _
      | exact spec_HasNumber.mono _ _ _
      | exact spec_LeastOver.mono _ _ _
      | exact spec_P6Values.mono _ _
      | exact spec_SameNumbers.mono _ _ _
      | exact LeO.none _
      | refine LeO.ite ?_ ?_
      | refine LeO.bind ?_ (fun _ => ?_)
    · intro y0 y1 y2 y3 y4 y5 y6
      unfold laws_FnGaps.j1
      repeat' first
      | (with_reducible exact ih0 _ _ _)
      | (with_reducible exact ih1 _ _ _ _ _ _ _)
      | (with_reducible exact ih2 _ _ _ _ _ _ _)
      | (with_reducible exact ih3 _ _ _)
      | (with_reducible exact ih4 _ _ _ _)
      | (with_reducible exact ih5 _ _ _)
      | (with_reducible exact impl_CanPay.mono _ _ _)
      | (with_reducible exact impl_GapsUpTo.mono _ _ _)
      | (with_reducible exact impl_GreatestGap.mono _ _)
      | (with_reducible exact impl_LeastOver.mono _ _ _)
      | (with_reducible exact spec_GapsUpTo.mono _ _ _)
      | (with_reducible exact spec_GreatestGap.mono _ _)
      | (with_reducible exact spec_HasNumber.mono _ _ _)
      | (with_reducible exact spec_LeastOver.mono _ _ _)
      | (with_reducible exact spec_P6Values.mono _ _)
      | (with_reducible exact spec_SameNumbers.mono _ _ _)
      | (with_reducible exact LeO.refl _)
      | (with_reducible exact LeO.none _)
      | (with_reducible refine LeO.ite ?_ ?_)
      | (with_reducible refine LeO.bind ?_ (fun _ => ?_))
      | exact ih0 _ _ _
      | exact ih1 _ _ _ _ _ _ _
      | exact ih2 _ _ _ _ _ _ _
      | exact ih3 _ _ _
      | exact ih4 _ _ _ _
      | exact ih5 _ _ _
      | exact impl_CanPay.mono _ _ _
      | exact impl_GapsUpTo.mono _ _ _
      | exact impl_GreatestGap.mono _ _
      | exact impl_LeastOver.mono _ _ _
      | exact spec_GapsUpTo.mono _ _ _
      | exact spec_GreatestGap.mono _ _
      | exact spec_HasNumber.mono _ _ _
      | exact spec_LeastOver.mono _ _ _
      | exact spec_P6Values.mono _ _
      | exact spec_SameNumbers.mono _ _ _
      | exact LeO.none _
      | refine LeO.ite ?_ ?_
      | refine LeO.bind ?_ (fun _ => ?_)
    · intro y0 y1 y2 y3 y4 y5 y6
      unfold laws_FnGaps.l0
      repeat' first
      | (with_reducible exact ih0 _ _ _)
      | (with_reducible exact ih1 _ _ _ _ _ _ _)
      | (with_reducible exact ih2 _ _ _ _ _ _ _)
      | (with_reducible exact ih3 _ _ _)
      | (with_reducible exact ih4 _ _ _ _)
      | (with_reducible exact ih5 _ _ _)
      | (with_reducible exact impl_CanPay.mono _ _ _)
      | (with_reducible exact impl_GapsUpTo.mono _ _ _)
      | (with_reducible exact impl_GreatestGap.mono _ _)
      | (with_reducible exact impl_LeastOver.mono _ _ _)
      | (with_reducible exact spec_GapsUpTo.mono _ _ _)
      | (with_reducible exact spec_GreatestGap.mono _ _)
      | (with_reducible exact spec_HasNumber.mono _ _ _)
      | (with_reducible exact spec_LeastOver.mono _ _ _)
      | (with_reducible exact spec_P6Values.mono _ _)
      | (with_reducible exact spec_SameNumbers.mono _ _ _)
      | (with_reducible exact LeO.refl _)
      | (with_reducible exact LeO.none _)
      | (with_reducible refine LeO.ite ?_ ?_)
      | (with_reducible refine LeO.bind ?_ (fun _ => ?_))
      | exact ih0 _ _ _
      | exact ih1 _ _ _ _ _ _ _
      | exact ih2 _ _ _ _ _ _ _
      | exact ih3 _ _ _
      | exact ih4 _ _ _ _
      | exact ih5 _ _ _
      | exact impl_CanPay.mono _ _ _
      | exact impl_GapsUpTo.mono _ _ _
      | exact impl_GreatestGap.mono _ _
      | exact impl_LeastOver.mono _ _ _
      | exact spec_GapsUpTo.mono _ _ _
      | exact spec_GreatestGap.mono _ _
      | exact spec_HasNumber.mono _ _ _
      | exact spec_LeastOver.mono _ _ _
      | exact spec_P6Values.mono _ _
      | exact spec_SameNumbers.mono _ _ _
      | exact LeO.none _
      | refine LeO.ite ?_ ?_
      | refine LeO.bind ?_ (fun _ => ?_)
    · intro y0 y1 y2
      unfold laws_FnGaps.j3
      repeat' first
      | (with_reducible exact ih0 _ _ _)
      | (with_reducible exact ih1 _ _ _ _ _ _ _)
      | (with_reducible exact ih2 _ _ _ _ _ _ _)
      | (with_reducible exact ih3 _ _ _)
      | (with_reducible exact ih4 _ _ _ _)
      | (with_reducible exact ih5 _ _ _)
      | (with_reducible exact impl_CanPay.mono _ _ _)
      | (with_reducible exact impl_GapsUpTo.mono _ _ _)
      | (with_reducible exact impl_GreatestGap.mono _ _)
      | (with_reducible exact impl_LeastOver.mono _ _ _)
      | (with_reducible exact spec_GapsUpTo.mono _ _ _)
      | (with_reducible exact spec_GreatestGap.mono _ _)
      | (with_reducible exact spec_HasNumber.mono _ _ _)
      | (with_reducible exact spec_LeastOver.mono _ _ _)
      | (with_reducible exact spec_P6Values.mono _ _)
      | (with_reducible exact spec_SameNumbers.mono _ _ _)
      | (with_reducible exact LeO.refl _)
      | (with_reducible exact LeO.none _)
      | (with_reducible refine LeO.ite ?_ ?_)
      | (with_reducible refine LeO.bind ?_ (fun _ => ?_))
      | exact ih0 _ _ _
      | exact ih1 _ _ _ _ _ _ _
      | exact ih2 _ _ _ _ _ _ _
      | exact ih3 _ _ _
      | exact ih4 _ _ _ _
      | exact ih5 _ _ _
      | exact impl_CanPay.mono _ _ _
      | exact impl_GapsUpTo.mono _ _ _
      | exact impl_GreatestGap.mono _ _
      | exact impl_LeastOver.mono _ _ _
      | exact spec_GapsUpTo.mono _ _ _
      | exact spec_GreatestGap.mono _ _
      | exact spec_HasNumber.mono _ _ _
      | exact spec_LeastOver.mono _ _ _
      | exact spec_P6Values.mono _ _
      | exact spec_SameNumbers.mono _ _ _
      | exact LeO.none _
      | refine LeO.ite ?_ ?_
      | refine LeO.bind ?_ (fun _ => ?_)
    · intro y0 y1 y2 y3
      unfold laws_FnGaps.j4
      repeat' first
      | (with_reducible exact ih0 _ _ _)
      | (with_reducible exact ih1 _ _ _ _ _ _ _)
      | (with_reducible exact ih2 _ _ _ _ _ _ _)
      | (with_reducible exact ih3 _ _ _)
      | (with_reducible exact ih4 _ _ _ _)
      | (with_reducible exact ih5 _ _ _)
      | (with_reducible exact impl_CanPay.mono _ _ _)
      | (with_reducible exact impl_GapsUpTo.mono _ _ _)
      | (with_reducible exact impl_GreatestGap.mono _ _)
      | (with_reducible exact impl_LeastOver.mono _ _ _)
      | (with_reducible exact spec_GapsUpTo.mono _ _ _)
      | (with_reducible exact spec_GreatestGap.mono _ _)
      | (with_reducible exact spec_HasNumber.mono _ _ _)
      | (with_reducible exact spec_LeastOver.mono _ _ _)
      | (with_reducible exact spec_P6Values.mono _ _)
      | (with_reducible exact spec_SameNumbers.mono _ _ _)
      | (with_reducible exact LeO.refl _)
      | (with_reducible exact LeO.none _)
      | (with_reducible refine LeO.ite ?_ ?_)
      | (with_reducible refine LeO.bind ?_ (fun _ => ?_))
      | exact ih0 _ _ _
      | exact ih1 _ _ _ _ _ _ _
      | exact ih2 _ _ _ _ _ _ _
      | exact ih3 _ _ _
      | exact ih4 _ _ _ _
      | exact ih5 _ _ _
      | exact impl_CanPay.mono _ _ _
      | exact impl_GapsUpTo.mono _ _ _
      | exact impl_GreatestGap.mono _ _
      | exact impl_LeastOver.mono _ _ _
      | exact spec_GapsUpTo.mono _ _ _
      | exact spec_GreatestGap.mono _ _
      | exact spec_HasNumber.mono _ _ _
      | exact spec_LeastOver.mono _ _ _
      | exact spec_P6Values.mono _ _
      | exact spec_SameNumbers.mono _ _ _
      | exact LeO.none _
      | refine LeO.ite ?_ ?_
      | refine LeO.bind ?_ (fun _ => ?_)
    · intro y0 y1 y2
      unfold laws_FnGaps.l1
      repeat' first
      | (with_reducible exact ih0 _ _ _)
      | (with_reducible exact ih1 _ _ _ _ _ _ _)
      | (with_reducible exact ih2 _ _ _ _ _ _ _)
      | (with_reducible exact ih3 _ _ _)
      | (with_reducible exact ih4 _ _ _ _)
      | (with_reducible exact ih5 _ _ _)
      | (with_reducible exact impl_CanPay.mono _ _ _)
      | (with_reducible exact impl_GapsUpTo.mono _ _ _)
      | (with_reducible exact impl_GreatestGap.mono _ _)
      | (with_reducible exact impl_LeastOver.mono _ _ _)
      | (with_reducible exact spec_GapsUpTo.mono _ _ _)
      | (with_reducible exact spec_GreatestGap.mono _ _)
      | (with_reducible exact spec_HasNumber.mono _ _ _)
      | (with_reducible exact spec_LeastOver.mono _ _ _)
      | (with_reducible exact spec_P6Values.mono _ _)
      | (with_reducible exact spec_SameNumbers.mono _ _ _)
      | (with_reducible exact LeO.refl _)
      | (with_reducible exact LeO.none _)
      | (with_reducible refine LeO.ite ?_ ?_)
      | (with_reducible refine LeO.bind ?_ (fun _ => ?_))
      | exact ih0 _ _ _
      | exact ih1 _ _ _ _ _ _ _
      | exact ih2 _ _ _ _ _ _ _
      | exact ih3 _ _ _
      | exact ih4 _ _ _ _
      | exact ih5 _ _ _
      | exact impl_CanPay.mono _ _ _
      | exact impl_GapsUpTo.mono _ _ _
      | exact impl_GreatestGap.mono _ _
      | exact impl_LeastOver.mono _ _ _
      | exact spec_GapsUpTo.mono _ _ _
      | exact spec_GreatestGap.mono _ _
      | exact spec_HasNumber.mono _ _ _
      | exact spec_LeastOver.mono _ _ _
      | exact spec_P6Values.mono _ _
      | exact spec_SameNumbers.mono _ _ _
      | exact LeO.none _
      | refine LeO.ite ?_ ?_
      | refine LeO.bind ?_ (fun _ => ?_)
theorem laws_FnGaps.mono : ∀ a0 a1 k, LeO (laws_FnGaps.f k a0 a1) (laws_FnGaps.f (k + 1) a0 a1) := by
  intro a0 a1 k
  obtain ⟨ih0, ih1, ih2, ih3, ih4, ih5⟩ := laws_FnGaps.mono_l k
  unfold laws_FnGaps.f
  repeat' first
      | (with_reducible exact ih0 _ _ _)
      | (with_reducible exact ih1 _ _ _ _ _ _ _)
      | (with_reducible exact ih2 _ _ _ _ _ _ _)
      | (with_reducible exact ih3 _ _ _)
      | (with_reducible exact ih4 _ _ _ _)
      | (with_reducible exact ih5 _ _ _)
      | (with_reducible exact impl_CanPay.mono _ _ _)
      | (with_reducible exact impl_GapsUpTo.mono _ _ _)
      | (with_reducible exact impl_GreatestGap.mono _ _)
      | (with_reducible exact impl_LeastOver.mono _ _ _)
      | (with_reducible exact spec_GapsUpTo.mono _ _ _)
      | (with_reducible exact spec_GreatestGap.mono _ _)
      | (with_reducible exact spec_HasNumber.mono _ _ _)
      | (with_reducible exact spec_LeastOver.mono _ _ _)
      | (with_reducible exact spec_P6Values.mono _ _)
      | (with_reducible exact spec_SameNumbers.mono _ _ _)
      | (with_reducible exact LeO.refl _)
      | (with_reducible exact LeO.none _)
      | (with_reducible refine LeO.ite ?_ ?_)
      | (with_reducible refine LeO.bind ?_ (fun _ => ?_))
      | exact ih0 _ _ _
      | exact ih1 _ _ _ _ _ _ _
      | exact ih2 _ _ _ _ _ _ _
      | exact ih3 _ _ _
      | exact ih4 _ _ _ _
      | exact ih5 _ _ _
      | exact impl_CanPay.mono _ _ _
      | exact impl_GapsUpTo.mono _ _ _
      | exact impl_GreatestGap.mono _ _
      | exact impl_LeastOver.mono _ _ _
      | exact spec_GapsUpTo.mono _ _ _
      | exact spec_GreatestGap.mono _ _
      | exact spec_HasNumber.mono _ _ _
      | exact spec_LeastOver.mono _ _ _
      | exact spec_P6Values.mono _ _
      | exact spec_SameNumbers.mono _ _ _
      | exact LeO.none _
      | refine LeO.ite ?_ ?_
      | refine LeO.bind ?_ (fun _ => ?_)
set_option maxHeartbeats 8000000 in
set_option maxRecDepth 100000 in
theorem laws_FnGaps.calls (k : Nat) (A0 : Option Addr) (c0 : Nat) (l0 : List Int) (A1 : Option Addr) (c1 : Nat) (l1 : List Int) (r : Bool) (w : World) (hr0 : Kd.C (Kd.int .u8) w A0 l0.length l0) (hc0 : l0.length ≤ c0) (hr1 : Kd.C (Kd.int .u8) w A1 l1.length l1) (hc1 : l1.length ≤ c1) (h : laws_FnGaps.f k l0 l1 = some r) :
    Calls Try.prog 3 #[.slice A0 l0.length c0, .slice A1 l1.length c1] w fun e w' => e = .returned (.bool r) ∧ Below w.heap.size w w' := by
  have HR0 := Aside0.mk hr0
  have HC0 := Aside0.mk hc0
  clear hr0 hc0
  have HR1 := Aside0.mk hr1
  have HC1 := Aside0.mk hc1
  clear hr1 hc1
  have HB := Aside0.mk (Below.refl w.heap.size w)
  have H : ((laws_f6big.f l0).bind fun t238 => (if t238 = true then (laws_FnGaps.j0 k l0 l1 true) else ((laws_f6big.f l1).bind fun t239 => (laws_FnGaps.j0 k l0 l1 t239)))) = some r := h
  clear h
  have HC3 := Aside0.mk H
  clear H
  go_enter Try.func3, Try.ntmps3
  go_upto_region 1 with (fail)
  go_cut [31] (fun v31 wc => ∃ (kq : Nat) (x31_2 : Bool), v31 = .bool x31_2 ∧ Aside0 (laws_FnGaps.j0 kq l0 l1 x31_2 = some r) ∧ Aside0 (kq ≤ k) ∧ Aside0 (Below w.heap.size w wc))
  case first =>
    as_aux_lemma =>
      have H := HC3.out
      clear HC3
      replace H := Option.bind_eq_some_iff.mp H
      obtain ⟨t238, A40, H⟩ := H
      replace H : (if t238 = true then (laws_FnGaps.j0 k l0 l1 true) else ((laws_f6big.f l1).bind fun t239 => (laws_FnGaps.j0 k l0 l1 t239))) = some r := H
      have A4 := Aside0.mk A40
      clear A40
      by_cases c5 : t238 = true
      · subst c5
        have H1 : (laws_FnGaps.j0 k l0 l1 true) = some r := by rw [if_pos rfl] at H; exact H
        clear H
        have H := H1
        clear H1
        have H' := Aside0.mk H
        clear H
        go_wp2_with (first | ((with_reducible refine gate_callee (f := 6) rfl ?_); refine goesL_ (some 27) rfl rfl Try.func6 (by kernel_rfl) rfl #[.slice A0 l0.length c0] rfl (by (try simp only [List.map_toArray, List.map_cons, List.map_nil]); first | done | rfl | (simp only [List.length_drop, List.length_take]; rfl)) ?_; (with_reducible refine (laws_f6big.calls _ _ l0 true _ ?side1 ?side2 A4.out).mono ?_); (case side1 => repeat (first | exact (Kd.C_below HR0.out HB.out) | (with_reducible refine Kd.C_alloc ?_ _) | (with_reducible refine Kd.C_drewN ?_ _) | (with_reducible refine Kd.C_drew ?_))); (case side2 => exact HC0.out); rintro e w' ⟨rfl, ⟨nd, rfl⟩⟩; refine ⟨_, rfl, ?_⟩))
        go_meet
        case rel => exact ⟨_, (true), (by first | rfl | (simp; done) | (simp [*]; done)), H', ⟨by first | omega | exact Nat.le_refl _⟩, ⟨by repeat (first | (with_reducible first | exact HB.out | apply below_alloc | apply pw_below_drewN | apply below_drew1) | exact HB.out)⟩⟩
      · replace c5 := Bool.eq_false_iff.mpr c5
        subst c5
        have H1 : ((laws_f6big.f l1).bind fun t239 => (laws_FnGaps.j0 k l0 l1 t239)) = some r := by rw [if_neg (show ¬ (false = true) by decide)] at H; exact H
        clear H
        have H := H1
        clear H1
        replace H := Option.bind_eq_some_iff.mp H
        obtain ⟨t239, A60, H⟩ := H
        replace H : (laws_FnGaps.j0 k l0 l1 t239) = some r := H
        have A6 := Aside0.mk A60
        clear A60
        have H' := Aside0.mk H
        clear H
        go_wp2_with (first | ((with_reducible refine gate_callee (f := 6) rfl ?_); refine goesL_ (some 27) rfl rfl Try.func6 (by kernel_rfl) rfl #[.slice A0 l0.length c0] rfl (by (try simp only [List.map_toArray, List.map_cons, List.map_nil]); first | done | rfl | (simp only [List.length_drop, List.length_take]; rfl)) ?_; (with_reducible refine (laws_f6big.calls _ _ l0 false _ ?side1 ?side2 A4.out).mono ?_); (case side1 => repeat (first | exact (Kd.C_below HR0.out HB.out) | (with_reducible refine Kd.C_alloc ?_ _) | (with_reducible refine Kd.C_drewN ?_ _) | (with_reducible refine Kd.C_drew ?_))); (case side2 => exact HC0.out); rintro e w' ⟨rfl, ⟨nd, rfl⟩⟩; refine ⟨_, rfl, ?_⟩) | (go_at_call 6; (with_reducible refine (laws_f6big.calls _ _ l1 t239 _ ?side1 ?side2 A6.out).mono ?_); (case side1 => repeat (first | exact (Kd.C_below HR1.out (by repeat (first | (with_reducible first | exact HB.out | apply below_alloc | apply pw_below_drewN | apply below_drew1) | exact HB.out))) | (with_reducible refine Kd.C_alloc ?_ _) | (with_reducible refine Kd.C_drewN ?_ _) | (with_reducible refine Kd.C_drew ?_))); (case side2 => exact HC1.out); rintro e w' ⟨rfl, ⟨nd, rfl⟩⟩))
        go_meet
        case rel => exact ⟨_, (t239), (by first | rfl | (simp; done) | (simp [*]; done)), H', ⟨by first | omega | exact Nat.le_refl _⟩, ⟨by repeat (first | (with_reducible first | exact HB.out | apply below_alloc | apply pw_below_drewN | apply below_drew1) | exact HB.out)⟩⟩
  case rest =>
    as_aux_lemma =>
      clear HC3
      try clear c1
      try clear p2
      try clear c3
      try clear c5
      try clear c6
      obtain ⟨kq, x31_2, rfl, HA, HJ2, HB⟩ := hcut
      cases kq with
      | zero => exact absurd HA.out (by simp [laws_FnGaps.j0])
      | succ kj2 =>
        have H := HA.out
        clear HA
        simp only [laws_FnGaps.j0] at H
        by_cases c7 : x31_2 = true
        · subst c7
          have H1 : (some true) = some r := by rw [if_pos rfl] at H; exact H
          clear H
          have H := H1
          clear H1
          obtain rfl := Option.some.inj H
          go_wp2
          go_ret
          exact ⟨by first | rfl | (simp [errW_none, errW_some] <;> rfl) | (simp [*, errW_none, errW_some] <;> rfl), by repeat (first | (with_reducible first | exact HB.out | apply below_alloc | apply pw_below_drewN | apply below_drew1) | exact HB.out)⟩
        · replace c7 := Bool.eq_false_iff.mpr c7
          subst c7
          have H1 : ((spec_P6Values.f kj2 l0).bind fun t240 => ((spec_P6Pick.f l1 60).bind fun t243 => ((impl_GapsUpTo.f kj2 t240 (wrap64 (20 + t243))).bind fun bt244 => ((spec_GapsUpTo.f kj2 t240 (wrap64 (20 + t243))).bind fun bt248 => ((impl_GreatestGap.f kj2 t240).bind fun bt252 => ((spec_GreatestGap.f kj2 t240).bind fun bt254 => (if bt244.2 = bt248.2 then (if bt244.2 = 0 then ((spec_SameNumbers.f kj2 bt244.1 bt248.1).bind fun t256 => (if t256 = true then (if bt252.2 = bt254.2 then (if bt252.1 = bt254.1 then (if bt252.2 = 0 then (laws_FnGaps.j1 kj2 l0 t240 (wrap64 (20 + t243)) bt248.1 bt252.2 bt254.1 false) else (if bt252.2 = 4 then (laws_FnGaps.j1 kj2 l0 t240 (wrap64 (20 + t243)) bt248.1 bt252.2 bt254.1 false) else (laws_FnGaps.j1 kj2 l0 t240 (wrap64 (20 + t243)) bt248.1 bt252.2 bt254.1 (bt252.2 != 6)))) else (laws_FnGaps.j1 kj2 l0 t240 (wrap64 (20 + t243)) bt248.1 bt252.2 bt254.1 true)) else (laws_FnGaps.j1 kj2 l0 t240 (wrap64 (20 + t243)) bt248.1 bt252.2 bt254.1 true)) else (laws_FnGaps.j1 kj2 l0 t240 (wrap64 (20 + t243)) bt248.1 bt252.2 bt254.1 true))) else (laws_FnGaps.j1 kj2 l0 t240 (wrap64 (20 + t243)) bt248.1 bt252.2 bt254.1 true)) else (laws_FnGaps.j1 kj2 l0 t240 (wrap64 (20 + t243)) bt248.1 bt252.2 bt254.1 true)))))))) = some r := by rw [if_neg (show ¬ (false = true) by decide)] at H; exact H
          clear H
          have H := H1
          clear H1
          replace H := Option.bind_eq_some_iff.mp H
          obtain ⟨t240, A80, H⟩ := H
          replace H : ((spec_P6Pick.f l1 60).bind fun t243 => ((impl_GapsUpTo.f kj2 t240 (wrap64 (20 + t243))).bind fun bt244 => ((spec_GapsUpTo.f kj2 t240 (wrap64 (20 + t243))).bind fun bt248 => ((impl_GreatestGap.f kj2 t240).bind fun bt252 => ((spec_GreatestGap.f kj2 t240).bind fun bt254 => (if bt244.2 = bt248.2 then (if bt244.2 = 0 then ((spec_SameNumbers.f kj2 bt244.1 bt248.1).bind fun t256 => (if t256 = true then (if bt252.2 = bt254.2 then (if bt252.1 = bt254.1 then (if bt252.2 = 0 then (laws_FnGaps.j1 kj2 l0 t240 (wrap64 (20 + t243)) bt248.1 bt252.2 bt254.1 false) else (if bt252.2 = 4 then (laws_FnGaps.j1 kj2 l0 t240 (wrap64 (20 + t243)) bt248.1 bt252.2 bt254.1 false) else (laws_FnGaps.j1 kj2 l0 t240 (wrap64 (20 + t243)) bt248.1 bt252.2 bt254.1 (bt252.2 != 6)))) else (laws_FnGaps.j1 kj2 l0 t240 (wrap64 (20 + t243)) bt248.1 bt252.2 bt254.1 true)) else (laws_FnGaps.j1 kj2 l0 t240 (wrap64 (20 + t243)) bt248.1 bt252.2 bt254.1 true)) else (laws_FnGaps.j1 kj2 l0 t240 (wrap64 (20 + t243)) bt248.1 bt252.2 bt254.1 true))) else (laws_FnGaps.j1 kj2 l0 t240 (wrap64 (20 + t243)) bt248.1 bt252.2 bt254.1 true)) else (laws_FnGaps.j1 kj2 l0 t240 (wrap64 (20 + t243)) bt248.1 bt252.2 bt254.1 true))))))) = some r := H
          have A8 := Aside0.mk A80
          clear A80
          replace H := Option.bind_eq_some_iff.mp H
          obtain ⟨t243, A90, H⟩ := H
          replace H : ((impl_GapsUpTo.f kj2 t240 (wrap64 (20 + t243))).bind fun bt244 => ((spec_GapsUpTo.f kj2 t240 (wrap64 (20 + t243))).bind fun bt248 => ((impl_GreatestGap.f kj2 t240).bind fun bt252 => ((spec_GreatestGap.f kj2 t240).bind fun bt254 => (if bt244.2 = bt248.2 then (if bt244.2 = 0 then ((spec_SameNumbers.f kj2 bt244.1 bt248.1).bind fun t256 => (if t256 = true then (if bt252.2 = bt254.2 then (if bt252.1 = bt254.1 then (if bt252.2 = 0 then (laws_FnGaps.j1 kj2 l0 t240 (wrap64 (20 + t243)) bt248.1 bt252.2 bt254.1 false) else (if bt252.2 = 4 then (laws_FnGaps.j1 kj2 l0 t240 (wrap64 (20 + t243)) bt248.1 bt252.2 bt254.1 false) else (laws_FnGaps.j1 kj2 l0 t240 (wrap64 (20 + t243)) bt248.1 bt252.2 bt254.1 (bt252.2 != 6)))) else (laws_FnGaps.j1 kj2 l0 t240 (wrap64 (20 + t243)) bt248.1 bt252.2 bt254.1 true)) else (laws_FnGaps.j1 kj2 l0 t240 (wrap64 (20 + t243)) bt248.1 bt252.2 bt254.1 true)) else (laws_FnGaps.j1 kj2 l0 t240 (wrap64 (20 + t243)) bt248.1 bt252.2 bt254.1 true))) else (laws_FnGaps.j1 kj2 l0 t240 (wrap64 (20 + t243)) bt248.1 bt252.2 bt254.1 true)) else (laws_FnGaps.j1 kj2 l0 t240 (wrap64 (20 + t243)) bt248.1 bt252.2 bt254.1 true)))))) = some r := H
          have A9 := Aside0.mk A90
          clear A90
          replace H := Option.bind_eq_some_iff.mp H
          obtain ⟨⟨t244, t245⟩, A100, H⟩ := H
          replace H : ((spec_GapsUpTo.f kj2 t240 (wrap64 (20 + t243))).bind fun bt248 => ((impl_GreatestGap.f kj2 t240).bind fun bt252 => ((spec_GreatestGap.f kj2 t240).bind fun bt254 => (if t245 = bt248.2 then (if t245 = 0 then ((spec_SameNumbers.f kj2 t244 bt248.1).bind fun t256 => (if t256 = true then (if bt252.2 = bt254.2 then (if bt252.1 = bt254.1 then (if bt252.2 = 0 then (laws_FnGaps.j1 kj2 l0 t240 (wrap64 (20 + t243)) bt248.1 bt252.2 bt254.1 false) else (if bt252.2 = 4 then (laws_FnGaps.j1 kj2 l0 t240 (wrap64 (20 + t243)) bt248.1 bt252.2 bt254.1 false) else (laws_FnGaps.j1 kj2 l0 t240 (wrap64 (20 + t243)) bt248.1 bt252.2 bt254.1 (bt252.2 != 6)))) else (laws_FnGaps.j1 kj2 l0 t240 (wrap64 (20 + t243)) bt248.1 bt252.2 bt254.1 true)) else (laws_FnGaps.j1 kj2 l0 t240 (wrap64 (20 + t243)) bt248.1 bt252.2 bt254.1 true)) else (laws_FnGaps.j1 kj2 l0 t240 (wrap64 (20 + t243)) bt248.1 bt252.2 bt254.1 true))) else (laws_FnGaps.j1 kj2 l0 t240 (wrap64 (20 + t243)) bt248.1 bt252.2 bt254.1 true)) else (laws_FnGaps.j1 kj2 l0 t240 (wrap64 (20 + t243)) bt248.1 bt252.2 bt254.1 true))))) = some r := H
          have A10 := Aside0.mk A100
          clear A100
          replace H := Option.bind_eq_some_iff.mp H
          obtain ⟨⟨t248, t249⟩, A110, H⟩ := H
          replace H : ((impl_GreatestGap.f kj2 t240).bind fun bt252 => ((spec_GreatestGap.f kj2 t240).bind fun bt254 => (if t245 = t249 then (if t245 = 0 then ((spec_SameNumbers.f kj2 t244 t248).bind fun t256 => (if t256 = true then (if bt252.2 = bt254.2 then (if bt252.1 = bt254.1 then (if bt252.2 = 0 then (laws_FnGaps.j1 kj2 l0 t240 (wrap64 (20 + t243)) t248 bt252.2 bt254.1 false) else (if bt252.2 = 4 then (laws_FnGaps.j1 kj2 l0 t240 (wrap64 (20 + t243)) t248 bt252.2 bt254.1 false) else (laws_FnGaps.j1 kj2 l0 t240 (wrap64 (20 + t243)) t248 bt252.2 bt254.1 (bt252.2 != 6)))) else (laws_FnGaps.j1 kj2 l0 t240 (wrap64 (20 + t243)) t248 bt252.2 bt254.1 true)) else (laws_FnGaps.j1 kj2 l0 t240 (wrap64 (20 + t243)) t248 bt252.2 bt254.1 true)) else (laws_FnGaps.j1 kj2 l0 t240 (wrap64 (20 + t243)) t248 bt252.2 bt254.1 true))) else (laws_FnGaps.j1 kj2 l0 t240 (wrap64 (20 + t243)) t248 bt252.2 bt254.1 true)) else (laws_FnGaps.j1 kj2 l0 t240 (wrap64 (20 + t243)) t248 bt252.2 bt254.1 true)))) = some r := H
          have A11 := Aside0.mk A110
          clear A110
          replace H := Option.bind_eq_some_iff.mp H
          obtain ⟨⟨t252, t253⟩, A120, H⟩ := H
          replace H : ((spec_GreatestGap.f kj2 t240).bind fun bt254 => (if t245 = t249 then (if t245 = 0 then ((spec_SameNumbers.f kj2 t244 t248).bind fun t256 => (if t256 = true then (if t253 = bt254.2 then (if t252 = bt254.1 then (if t253 = 0 then (laws_FnGaps.j1 kj2 l0 t240 (wrap64 (20 + t243)) t248 t253 bt254.1 false) else (if t253 = 4 then (laws_FnGaps.j1 kj2 l0 t240 (wrap64 (20 + t243)) t248 t253 bt254.1 false) else (laws_FnGaps.j1 kj2 l0 t240 (wrap64 (20 + t243)) t248 t253 bt254.1 (t253 != 6)))) else (laws_FnGaps.j1 kj2 l0 t240 (wrap64 (20 + t243)) t248 t253 bt254.1 true)) else (laws_FnGaps.j1 kj2 l0 t240 (wrap64 (20 + t243)) t248 t253 bt254.1 true)) else (laws_FnGaps.j1 kj2 l0 t240 (wrap64 (20 + t243)) t248 t253 bt254.1 true))) else (laws_FnGaps.j1 kj2 l0 t240 (wrap64 (20 + t243)) t248 t253 bt254.1 true)) else (laws_FnGaps.j1 kj2 l0 t240 (wrap64 (20 + t243)) t248 t253 bt254.1 true))) = some r := H
          have A12 := Aside0.mk A120
          clear A120
          replace H := Option.bind_eq_some_iff.mp H
          obtain ⟨⟨t254, t255⟩, A130, H⟩ := H
          replace H : (if t245 = t249 then (if t245 = 0 then ((spec_SameNumbers.f kj2 t244 t248).bind fun t256 => (if t256 = true then (if t253 = t255 then (if t252 = t254 then (if t253 = 0 then (laws_FnGaps.j1 kj2 l0 t240 (wrap64 (20 + t243)) t248 t253 t254 false) else (if t253 = 4 then (laws_FnGaps.j1 kj2 l0 t240 (wrap64 (20 + t243)) t248 t253 t254 false) else (laws_FnGaps.j1 kj2 l0 t240 (wrap64 (20 + t243)) t248 t253 t254 (t253 != 6)))) else (laws_FnGaps.j1 kj2 l0 t240 (wrap64 (20 + t243)) t248 t253 t254 true)) else (laws_FnGaps.j1 kj2 l0 t240 (wrap64 (20 + t243)) t248 t253 t254 true)) else (laws_FnGaps.j1 kj2 l0 t240 (wrap64 (20 + t243)) t248 t253 t254 true))) else (laws_FnGaps.j1 kj2 l0 t240 (wrap64 (20 + t243)) t248 t253 t254 true)) else (laws_FnGaps.j1 kj2 l0 t240 (wrap64 (20 + t243)) t248 t253 t254 true)) = some r := H
          have A13 := Aside0.mk A130
          clear A130
          have HC14 := Aside0.mk H
          clear H
          go_upto_region 9 with (first | ((with_reducible refine gate_callee (f := 7) rfl ?_); refine goesL_ (some 33) rfl rfl Try.func7 (by kernel_rfl) rfl #[.slice A0 l0.length c0] rfl (by (try simp only [List.map_toArray, List.map_cons, List.map_nil]); first | done | rfl | (simp only [List.length_drop, List.length_take]; rfl)) ?_; (with_reducible refine (spec_P6Values.calls kj2 _ _ l0 t240 _ ?side1 ?side2 A8.out).mono ?_); (case side1 => repeat (first | exact (Kd.C_below HR0.out HB.out) | (with_reducible refine Kd.C_alloc ?_ _) | (with_reducible refine Kd.C_drewN ?_ _) | (with_reducible refine Kd.C_drew ?_))); (case side2 => exact HC0.out); rintro e w15 ⟨v241, rfl, ho0, hb⟩; refine ⟨_, rfl, ?_⟩; have n0_ := Aside0.mk (Kd.R_lower ho0 (below_size (by repeat (first | (with_reducible first | exact HB.out | apply below_alloc | apply pw_below_drewN | apply below_drew1) | exact HB.out)))); have n1_ := Aside0.mk (below_step (by repeat (first | (with_reducible first | exact HB.out | apply below_alloc | apply pw_below_drewN | apply below_drew1) | exact HB.out)) hb); clear HB; have HO242 := n0_; have HB := n1_; clear n0_ n1_; (try clear hb); (try clear hb2); (try clear hk); (try clear hi); (try clear ho0)) | ((with_reducible refine gate_callee (f := 8) rfl ?_); refine goesL_ (some 35) rfl rfl Try.func8 (by kernel_rfl) rfl #[.slice A1 l1.length c1, .int .i64 60] rfl (by (try simp only [List.map_toArray, List.map_cons, List.map_nil]); first | done | rfl | (simp only [List.length_drop, List.length_take]; rfl)) ?_; (with_reducible refine (spec_P6Pick.calls _ _ l1 60 t243 _ ?side1 ?side2 A9.out).mono ?_); (case side1 => repeat (first | exact (Kd.C_below HR1.out HB.out) | (with_reducible refine Kd.C_alloc ?_ _) | (with_reducible refine Kd.C_drewN ?_ _) | (with_reducible refine Kd.C_drew ?_))); (case side2 => exact HC1.out); rintro e w16 ⟨rfl, hb⟩; refine ⟨_, rfl, ?_⟩; have n0_ := Aside0.mk (Kd.R_below (by (with_reducible repeat (first | apply Kd.R_alloc | apply Kd.R_drewN | apply Kd.R_drew)); exact HO242.out) hb); have n1_ := Aside0.mk (below_step (by repeat (first | (with_reducible first | exact HB.out | apply below_alloc | apply pw_below_drewN | apply below_drew1) | exact HB.out)) hb); clear HO242; clear HB; have HO242 := n0_; have HB := n1_; clear n0_ n1_; (try clear hb); (try clear hb2); (try clear hk); (try clear hi); obtain ⟨Ao17, co17, eo17⟩ := Kd.R_slice HO242.out; subst eo17) | ((with_reducible refine gate_callee (f := 9) rfl ?_); refine goesL_ (some 40) rfl rfl Try.func9 (by kernel_rfl) rfl #[.slice Ao17 t240.length co17, .int .i64 (wrap64 (20 + t243))] rfl (by (try simp only [List.map_toArray, List.map_cons, List.map_nil]); first | done | rfl | (simp only [List.length_drop, List.length_take]; rfl)) ?_; (with_reducible refine (impl_GapsUpTo.calls kj2 _ _ t240 (wrap64 (20 + t243)) t244 t245 _ ?side1 ?side2 A10.out).mono ?_); (case side1 => repeat (first | exact (Kd.R_reads' HO242.out).2.2 | (with_reducible refine Kd.C_alloc ?_ _) | (with_reducible refine Kd.C_drewN ?_ _) | (with_reducible refine Kd.C_drew ?_))); (case side2 => exact (Kd.R_reads' HO242.out).2.1); rintro e w18 ⟨v246, rfl, ho0, hb⟩; refine ⟨_, rfl, ?_⟩; have n0_ := Aside0.mk (Kd.R_elder' (by (with_reducible repeat (first | apply Kd.R_alloc | apply Kd.R_drewN | apply Kd.R_drew)); exact HO242.out) (Kd.R_base ho0) hb); have n1_ := Aside0.mk (Kd.R_lower (Kd.R_new' ho0 (Kd.R_lt (by (with_reducible repeat (first | apply Kd.R_alloc | apply Kd.R_drewN | apply Kd.R_drew)); exact HO242.out))) (below_size (by repeat (first | (with_reducible first | exact HB.out | apply below_alloc | apply pw_below_drewN | apply below_drew1) | exact HB.out)))); have n2_ := Aside0.mk (below_step (by repeat (first | (with_reducible first | exact HB.out | apply below_alloc | apply pw_below_drewN | apply below_drew1) | exact HB.out)) hb); clear HO242; clear HB; have HO242 := n0_; have HO247 := n1_; have HB := n2_; clear n0_ n1_ n2_; (try clear hb); (try clear hb2); (try clear hk); (try clear hi); (try clear ho0)) | ((with_reducible refine gate_callee (f := 10) rfl ?_); refine goesL_ (some 46) rfl rfl Try.func10 (by kernel_rfl) rfl #[.slice Ao17 t240.length co17, .int .i64 (wrap64 (20 + t243))] rfl (by (try simp only [List.map_toArray, List.map_cons, List.map_nil]); first | done | rfl | (simp only [List.length_drop, List.length_take]; rfl)) ?_; (with_reducible refine (spec_GapsUpTo.calls kj2 _ _ t240 (wrap64 (20 + t243)) t248 t249 _ ?side1 ?side2 A11.out).mono ?_); (case side1 => repeat (first | exact (Kd.R_reads' HO242.out).2.2 | (with_reducible refine Kd.C_alloc ?_ _) | (with_reducible refine Kd.C_drewN ?_ _) | (with_reducible refine Kd.C_drew ?_))); (case side2 => exact (Kd.R_reads' HO242.out).2.1); rintro e w19 ⟨v250, rfl, ho0, hb⟩; refine ⟨_, rfl, ?_⟩; have n0_ := Aside0.mk (Kd.R_elder' (by (with_reducible repeat (first | apply Kd.R_alloc | apply Kd.R_drewN | apply Kd.R_drew)); exact HO242.out) (Kd.R_base ho0) hb); have n1_ := Aside0.mk (Kd.R_elder' (by (with_reducible repeat (first | apply Kd.R_alloc | apply Kd.R_drewN | apply Kd.R_drew)); exact HO247.out) (Kd.R_base ho0) hb); have n2_ := Aside0.mk (Kd.R_lower (Kd.R_new' (Kd.R_new' ho0 (Kd.R_lt (by (with_reducible repeat (first | apply Kd.R_alloc | apply Kd.R_drewN | apply Kd.R_drew)); exact HO242.out))) (Kd.R_lt (by (with_reducible repeat (first | apply Kd.R_alloc | apply Kd.R_drewN | apply Kd.R_drew)); exact HO247.out))) (below_size (by repeat (first | (with_reducible first | exact HB.out | apply below_alloc | apply pw_below_drewN | apply below_drew1) | exact HB.out)))); have n3_ := Aside0.mk (below_step (by repeat (first | (with_reducible first | exact HB.out | apply below_alloc | apply pw_below_drewN | apply below_drew1) | exact HB.out)) hb); clear HO242; clear HO247; clear HB; have HO242 := n0_; have HO247 := n1_; have HO251 := n2_; have HB := n3_; clear n0_ n1_ n2_ n3_; (try clear hb); (try clear hb2); (try clear hk); (try clear hi); (try clear ho0)) | ((with_reducible refine gate_callee (f := 11) rfl ?_); refine goesL_ (some 51) rfl rfl Try.func11 (by kernel_rfl) rfl #[.slice Ao17 t240.length co17] rfl (by (try simp only [List.map_toArray, List.map_cons, List.map_nil]); first | done | rfl | (simp only [List.length_drop, List.length_take]; rfl)) ?_; (with_reducible refine (impl_GreatestGap.calls kj2 _ _ t240 t252 t253 _ ?side1 ?side2 A12.out).mono ?_); (case side1 => repeat (first | exact (Kd.R_reads' HO242.out).2.2 | (with_reducible refine Kd.C_alloc ?_ _) | (with_reducible refine Kd.C_drewN ?_ _) | (with_reducible refine Kd.C_drew ?_))); (case side2 => exact (Kd.R_reads' HO242.out).2.1); rintro e w20 ⟨rfl, hb⟩; refine ⟨_, rfl, ?_⟩; have n0_ := Aside0.mk (Kd.R_below (by (with_reducible repeat (first | apply Kd.R_alloc | apply Kd.R_drewN | apply Kd.R_drew)); exact HO242.out) hb); have n1_ := Aside0.mk (Kd.R_below (by (with_reducible repeat (first | apply Kd.R_alloc | apply Kd.R_drewN | apply Kd.R_drew)); exact HO247.out) hb); have n2_ := Aside0.mk (Kd.R_below (by (with_reducible repeat (first | apply Kd.R_alloc | apply Kd.R_drewN | apply Kd.R_drew)); exact HO251.out) hb); have n3_ := Aside0.mk (below_step (by repeat (first | (with_reducible first | exact HB.out | apply below_alloc | apply pw_below_drewN | apply below_drew1) | exact HB.out)) hb); clear HO242; clear HO247; clear HO251; clear HB; have HO242 := n0_; have HO247 := n1_; have HO251 := n2_; have HB := n3_; clear n0_ n1_ n2_ n3_; (try clear hb); (try clear hb2); (try clear hk); (try clear hi)) | ((with_reducible refine gate_callee (f := 12) rfl ?_); refine goesL_ (some 56) rfl rfl Try.func12 (by kernel_rfl) rfl #[.slice Ao17 t240.length co17] rfl (by (try simp only [List.map_toArray, List.map_cons, List.map_nil]); first | done | rfl | (simp only [List.length_drop, List.length_take]; rfl)) ?_; (with_reducible refine (spec_GreatestGap.calls kj2 _ _ t240 t254 t255 _ ?side1 ?side2 A13.out).mono ?_); (case side1 => repeat (first | exact (Kd.R_reads' HO242.out).2.2 | (with_reducible refine Kd.C_alloc ?_ _) | (with_reducible refine Kd.C_drewN ?_ _) | (with_reducible refine Kd.C_drew ?_))); (case side2 => exact (Kd.R_reads' HO242.out).2.1); rintro e w21 ⟨rfl, hb⟩; refine ⟨_, rfl, ?_⟩; have n0_ := Aside0.mk (Kd.R_below (by (with_reducible repeat (first | apply Kd.R_alloc | apply Kd.R_drewN | apply Kd.R_drew)); exact HO242.out) hb); have n1_ := Aside0.mk (Kd.R_below (by (with_reducible repeat (first | apply Kd.R_alloc | apply Kd.R_drewN | apply Kd.R_drew)); exact HO247.out) hb); have n2_ := Aside0.mk (Kd.R_below (by (with_reducible repeat (first | apply Kd.R_alloc | apply Kd.R_drewN | apply Kd.R_drew)); exact HO251.out) hb); have n3_ := Aside0.mk (below_step (by repeat (first | (with_reducible first | exact HB.out | apply below_alloc | apply pw_below_drewN | apply below_drew1) | exact HB.out)) hb); clear HO242; clear HO247; clear HO251; clear HB; have HO242 := n0_; have HO247 := n1_; have HO251 := n2_; have HB := n3_; clear n0_ n1_ n2_ n3_; (try clear hb); (try clear hb2); (try clear hk); (try clear hi)))
          (try simp only [Act.put, List.setIfInBounds_toArray, List.set_cons_zero, List.set_cons_succ])
          go_cut [93] (fun v93 wc => ∃ (kq : Nat) (x93_13 : Bool), v93 = .bool x93_13 ∧ Aside0 (laws_FnGaps.j1 kq l0 t240 (wrap64 (20 + t243)) t248 t253 t254 x93_13 = some r) ∧ Aside0 (kq ≤ kj2) ∧ Aside0 (Kd.R (Kd.int .i64) 2 wc w.heap.size (fun k_ => some k_ ≠ (v250 : Value).ownBlock) (.slice Ao17 t240.length co17) t240) ∧ Aside0 (Kd.R (Kd.int .i64) 2 wc w.heap.size (fun k_ => some k_ ≠ ((.slice Ao17 t240.length co17) : Value).ownBlock) v250 t248) ∧ Aside0 (Below w.heap.size w wc))
          case first =>
            as_aux_lemma =>
              have H := HC14.out
              clear HC14
              by_cases c22 : t245 = t249
              · rw [if_pos c22] at H
                have c22b0 : (t245 == t249) = true := beq_iff_eq.mpr c22
                have c22b1 : (t245 != t249) = false := bne_eq_false_iff_eq.mpr c22
                clear c22
                (first | rw [c22b0] | (simp only [i64_w, i32_w]; rw [c22b0]) | skip)
                by_cases c23 : t245 = 0
                · rw [if_pos c23] at H
                  have c23b0 : (t245 == 0) = true := beq_iff_eq.mpr c23
                  have c23b1 : (t245 != 0) = false := bne_eq_false_iff_eq.mpr c23
                  clear c23
                  replace H := Option.bind_eq_some_iff.mp H
                  obtain ⟨t256, A240, H⟩ := H
                  replace H : (if t256 = true then (if t253 = t255 then (if t252 = t254 then (if t253 = 0 then (laws_FnGaps.j1 kj2 l0 t240 (wrap64 (20 + t243)) t248 t253 t254 false) else (if t253 = 4 then (laws_FnGaps.j1 kj2 l0 t240 (wrap64 (20 + t243)) t248 t253 t254 false) else (laws_FnGaps.j1 kj2 l0 t240 (wrap64 (20 + t243)) t248 t253 t254 (t253 != 6)))) else (laws_FnGaps.j1 kj2 l0 t240 (wrap64 (20 + t243)) t248 t253 t254 true)) else (laws_FnGaps.j1 kj2 l0 t240 (wrap64 (20 + t243)) t248 t253 t254 true)) else (laws_FnGaps.j1 kj2 l0 t240 (wrap64 (20 + t243)) t248 t253 t254 true)) = some r := H
                  have A24 := Aside0.mk A240
                  clear A240
                  by_cases c25 : t256 = true
                  · subst c25
                    have H1 : (if t253 = t255 then (if t252 = t254 then (if t253 = 0 then (laws_FnGaps.j1 kj2 l0 t240 (wrap64 (20 + t243)) t248 t253 t254 false) else (if t253 = 4 then (laws_FnGaps.j1 kj2 l0 t240 (wrap64 (20 + t243)) t248 t253 t254 false) else (laws_FnGaps.j1 kj2 l0 t240 (wrap64 (20 + t243)) t248 t253 t254 (t253 != 6)))) else (laws_FnGaps.j1 kj2 l0 t240 (wrap64 (20 + t243)) t248 t253 t254 true)) else (laws_FnGaps.j1 kj2 l0 t240 (wrap64 (20 + t243)) t248 t253 t254 true)) = some r := by rw [if_pos rfl] at H; exact H
                    clear H
                    have H := H1
                    clear H1
                    by_cases c26 : t253 = t255
                    · rw [if_pos c26] at H
                      have c26b0 : (t253 == t255) = true := beq_iff_eq.mpr c26
                      have c26b1 : (t253 != t255) = false := bne_eq_false_iff_eq.mpr c26
                      clear c26
                      by_cases c27 : t252 = t254
                      · rw [if_pos c27] at H
                        have c27b0 : (t252 == t254) = true := beq_iff_eq.mpr c27
                        have c27b1 : (t252 != t254) = false := bne_eq_false_iff_eq.mpr c27
                        clear c27
                        by_cases c28 : t253 = 0
                        · rw [if_pos c28] at H
                          have c28b0 : (t253 == 0) = true := beq_iff_eq.mpr c28
                          have c28b1 : (t253 != 0) = false := bne_eq_false_iff_eq.mpr c28
                          clear c28
                          have H' := Aside0.mk H
                          clear H
                          obtain ⟨Ao29, co29, eo29⟩ := Kd.R_slice HO247.out
                          subst eo29
                          obtain ⟨Ao30, co30, eo30⟩ := Kd.R_slice HO251.out
                          subst eo30
                          go_wp2_with (first | (go_at_call 13; (with_reducible refine (spec_SameNumbers.calls kj2 _ _ t244 _ _ t248 true _ ?side1 ?side2 ?side3 ?side4 A24.out).mono ?_); (case side1 => repeat (first | exact (Kd.R_reads' HO247.out).2.2 | (with_reducible refine Kd.C_alloc ?_ _) | (with_reducible refine Kd.C_drewN ?_ _) | (with_reducible refine Kd.C_drew ?_))); (case side2 => exact (Kd.R_reads' HO247.out).2.1); (case side3 => repeat (first | exact (Kd.R_reads' HO251.out).2.2 | (with_reducible refine Kd.C_alloc ?_ _) | (with_reducible refine Kd.C_drewN ?_ _) | (with_reducible refine Kd.C_drew ?_))); (case side4 => exact (Kd.R_reads' HO251.out).2.1); rintro e w' ⟨rfl, ⟨nd, rfl⟩⟩))
                          go_meet
                          case rel => exact ⟨_, (false), (by first | rfl | (simp; done) | (simp [*]; done)), H', ⟨by have := HJ2.out; first | omega | exact Nat.le_refl _⟩, ⟨by (with_reducible repeat (first | apply Kd.R_alloc | apply Kd.R_drewN | apply Kd.R_drew)); exact Kd.R_mono HO242.out (fun _ hk => hk.2)⟩, ⟨by (with_reducible repeat (first | apply Kd.R_alloc | apply Kd.R_drewN | apply Kd.R_drew)); exact Kd.R_mono HO251.out (fun _ hk => hk.1.2)⟩, ⟨by repeat (first | (with_reducible first | exact HB.out | apply below_alloc | apply pw_below_drewN | apply below_drew1) | exact HB.out)⟩⟩
                        · rw [if_neg c28] at H
                          have c28b0 : (t253 == 0) = false := beq_eq_false_iff_ne.mpr c28
                          have c28b1 : (t253 != 0) = true := bne_iff_ne.mpr c28
                          by_cases c31 : t253 = 4
                          · rw [if_pos c31] at H
                            have c31b0 : (t253 == 4) = true := beq_iff_eq.mpr c31
                            have c31b1 : (t253 != 4) = false := bne_eq_false_iff_eq.mpr c31
                            clear c31
                            have H' := Aside0.mk H
                            clear H
                            obtain ⟨Ao32, co32, eo32⟩ := Kd.R_slice HO247.out
                            subst eo32
                            obtain ⟨Ao33, co33, eo33⟩ := Kd.R_slice HO251.out
                            subst eo33
                            go_wp2_with (first | (go_at_call 13; (with_reducible refine (spec_SameNumbers.calls kj2 _ _ t244 _ _ t248 true _ ?side1 ?side2 ?side3 ?side4 A24.out).mono ?_); (case side1 => repeat (first | exact (Kd.R_reads' HO247.out).2.2 | (with_reducible refine Kd.C_alloc ?_ _) | (with_reducible refine Kd.C_drewN ?_ _) | (with_reducible refine Kd.C_drew ?_))); (case side2 => exact (Kd.R_reads' HO247.out).2.1); (case side3 => repeat (first | exact (Kd.R_reads' HO251.out).2.2 | (with_reducible refine Kd.C_alloc ?_ _) | (with_reducible refine Kd.C_drewN ?_ _) | (with_reducible refine Kd.C_drew ?_))); (case side4 => exact (Kd.R_reads' HO251.out).2.1); rintro e w' ⟨rfl, ⟨nd, rfl⟩⟩))
                            go_meet
                            case rel => exact ⟨_, (false), (by first | rfl | (simp; done) | (simp [*]; done)), H', ⟨by have := HJ2.out; first | omega | exact Nat.le_refl _⟩, ⟨by (with_reducible repeat (first | apply Kd.R_alloc | apply Kd.R_drewN | apply Kd.R_drew)); exact Kd.R_mono HO242.out (fun _ hk => hk.2)⟩, ⟨by (with_reducible repeat (first | apply Kd.R_alloc | apply Kd.R_drewN | apply Kd.R_drew)); exact Kd.R_mono HO251.out (fun _ hk => hk.1.2)⟩, ⟨by repeat (first | (with_reducible first | exact HB.out | apply below_alloc | apply pw_below_drewN | apply below_drew1) | exact HB.out)⟩⟩
                          · rw [if_neg c31] at H
                            have c31b0 : (t253 == 4) = false := beq_eq_false_iff_ne.mpr c31
                            have c31b1 : (t253 != 4) = true := bne_iff_ne.mpr c31
                            have H' := Aside0.mk H
                            clear H
                            obtain ⟨Ao34, co34, eo34⟩ := Kd.R_slice HO247.out
                            subst eo34
                            obtain ⟨Ao35, co35, eo35⟩ := Kd.R_slice HO251.out
                            subst eo35
                            go_wp2_with (first | (go_at_call 13; (with_reducible refine (spec_SameNumbers.calls kj2 _ _ t244 _ _ t248 true _ ?side1 ?side2 ?side3 ?side4 A24.out).mono ?_); (case side1 => repeat (first | exact (Kd.R_reads' HO247.out).2.2 | (with_reducible refine Kd.C_alloc ?_ _) | (with_reducible refine Kd.C_drewN ?_ _) | (with_reducible refine Kd.C_drew ?_))); (case side2 => exact (Kd.R_reads' HO247.out).2.1); (case side3 => repeat (first | exact (Kd.R_reads' HO251.out).2.2 | (with_reducible refine Kd.C_alloc ?_ _) | (with_reducible refine Kd.C_drewN ?_ _) | (with_reducible refine Kd.C_drew ?_))); (case side4 => exact (Kd.R_reads' HO251.out).2.1); rintro e w' ⟨rfl, ⟨nd, rfl⟩⟩))
                            go_meet
                            case rel => exact ⟨_, ((t253 != 6)), (by first | rfl | (simp; done) | (simp [*]; done)), H', ⟨by have := HJ2.out; first | omega | exact Nat.le_refl _⟩, ⟨by (with_reducible repeat (first | apply Kd.R_alloc | apply Kd.R_drewN | apply Kd.R_drew)); exact Kd.R_mono HO242.out (fun _ hk => hk.2)⟩, ⟨by (with_reducible repeat (first | apply Kd.R_alloc | apply Kd.R_drewN | apply Kd.R_drew)); exact Kd.R_mono HO251.out (fun _ hk => hk.1.2)⟩, ⟨by repeat (first | (with_reducible first | exact HB.out | apply below_alloc | apply pw_below_drewN | apply below_drew1) | exact HB.out)⟩⟩
                      · rw [if_neg c27] at H
                        have c27b0 : (t252 == t254) = false := beq_eq_false_iff_ne.mpr c27
                        have c27b1 : (t252 != t254) = true := bne_iff_ne.mpr c27
                        have H' := Aside0.mk H
                        clear H
                        obtain ⟨Ao36, co36, eo36⟩ := Kd.R_slice HO247.out
                        subst eo36
                        obtain ⟨Ao37, co37, eo37⟩ := Kd.R_slice HO251.out
                        subst eo37
                        go_wp2_with (first | (go_at_call 13; (with_reducible refine (spec_SameNumbers.calls kj2 _ _ t244 _ _ t248 true _ ?side1 ?side2 ?side3 ?side4 A24.out).mono ?_); (case side1 => repeat (first | exact (Kd.R_reads' HO247.out).2.2 | (with_reducible refine Kd.C_alloc ?_ _) | (with_reducible refine Kd.C_drewN ?_ _) | (with_reducible refine Kd.C_drew ?_))); (case side2 => exact (Kd.R_reads' HO247.out).2.1); (case side3 => repeat (first | exact (Kd.R_reads' HO251.out).2.2 | (with_reducible refine Kd.C_alloc ?_ _) | (with_reducible refine Kd.C_drewN ?_ _) | (with_reducible refine Kd.C_drew ?_))); (case side4 => exact (Kd.R_reads' HO251.out).2.1); rintro e w' ⟨rfl, ⟨nd, rfl⟩⟩))
                        go_meet
                        case rel => exact ⟨_, (true), (by first | rfl | (simp; done) | (simp [*]; done)), H', ⟨by have := HJ2.out; first | omega | exact Nat.le_refl _⟩, ⟨by (with_reducible repeat (first | apply Kd.R_alloc | apply Kd.R_drewN | apply Kd.R_drew)); exact Kd.R_mono HO242.out (fun _ hk => hk.2)⟩, ⟨by (with_reducible repeat (first | apply Kd.R_alloc | apply Kd.R_drewN | apply Kd.R_drew)); exact Kd.R_mono HO251.out (fun _ hk => hk.1.2)⟩, ⟨by repeat (first | (with_reducible first | exact HB.out | apply below_alloc | apply pw_below_drewN | apply below_drew1) | exact HB.out)⟩⟩
                    · rw [if_neg c26] at H
                      have c26b0 : (t253 == t255) = false := beq_eq_false_iff_ne.mpr c26
                      have c26b1 : (t253 != t255) = true := bne_iff_ne.mpr c26
                      have H' := Aside0.mk H
                      clear H
                      obtain ⟨Ao38, co38, eo38⟩ := Kd.R_slice HO247.out
                      subst eo38
                      obtain ⟨Ao39, co39, eo39⟩ := Kd.R_slice HO251.out
                      subst eo39
                      go_wp2_with (first | (go_at_call 13; (with_reducible refine (spec_SameNumbers.calls kj2 _ _ t244 _ _ t248 true _ ?side1 ?side2 ?side3 ?side4 A24.out).mono ?_); (case side1 => repeat (first | exact (Kd.R_reads' HO247.out).2.2 | (with_reducible refine Kd.C_alloc ?_ _) | (with_reducible refine Kd.C_drewN ?_ _) | (with_reducible refine Kd.C_drew ?_))); (case side2 => exact (Kd.R_reads' HO247.out).2.1); (case side3 => repeat (first | exact (Kd.R_reads' HO251.out).2.2 | (with_reducible refine Kd.C_alloc ?_ _) | (with_reducible refine Kd.C_drewN ?_ _) | (with_reducible refine Kd.C_drew ?_))); (case side4 => exact (Kd.R_reads' HO251.out).2.1); rintro e w' ⟨rfl, ⟨nd, rfl⟩⟩))
                      go_meet
                      case rel => exact ⟨_, (true), (by first | rfl | (simp; done) | (simp [*]; done)), H', ⟨by have := HJ2.out; first | omega | exact Nat.le_refl _⟩, ⟨by (with_reducible repeat (first | apply Kd.R_alloc | apply Kd.R_drewN | apply Kd.R_drew)); exact Kd.R_mono HO242.out (fun _ hk => hk.2)⟩, ⟨by (with_reducible repeat (first | apply Kd.R_alloc | apply Kd.R_drewN | apply Kd.R_drew)); exact Kd.R_mono HO251.out (fun _ hk => hk.1.2)⟩, ⟨by repeat (first | (with_reducible first | exact HB.out | apply below_alloc | apply pw_below_drewN | apply below_drew1) | exact HB.out)⟩⟩
                  · replace c25 := Bool.eq_false_iff.mpr c25
                    subst c25
                    have H1 : (laws_FnGaps.j1 kj2 l0 t240 (wrap64 (20 + t243)) t248 t253 t254 true) = some r := by rw [if_neg (show ¬ (false = true) by decide)] at H; exact H
                    clear H
                    have H := H1
                    clear H1
                    have H' := Aside0.mk H
                    clear H
                    obtain ⟨Ao40, co40, eo40⟩ := Kd.R_slice HO247.out
                    subst eo40
                    obtain ⟨Ao41, co41, eo41⟩ := Kd.R_slice HO251.out
                    subst eo41
                    go_wp2_with (first | (go_at_call 13; (with_reducible refine (spec_SameNumbers.calls kj2 _ _ t244 _ _ t248 false _ ?side1 ?side2 ?side3 ?side4 A24.out).mono ?_); (case side1 => repeat (first | exact (Kd.R_reads' HO247.out).2.2 | (with_reducible refine Kd.C_alloc ?_ _) | (with_reducible refine Kd.C_drewN ?_ _) | (with_reducible refine Kd.C_drew ?_))); (case side2 => exact (Kd.R_reads' HO247.out).2.1); (case side3 => repeat (first | exact (Kd.R_reads' HO251.out).2.2 | (with_reducible refine Kd.C_alloc ?_ _) | (with_reducible refine Kd.C_drewN ?_ _) | (with_reducible refine Kd.C_drew ?_))); (case side4 => exact (Kd.R_reads' HO251.out).2.1); rintro e w' ⟨rfl, ⟨nd, rfl⟩⟩))
                    go_meet
                    case rel => exact ⟨_, (true), (by first | rfl | (simp; done) | (simp [*]; done)), H', ⟨by have := HJ2.out; first | omega | exact Nat.le_refl _⟩, ⟨by (with_reducible repeat (first | apply Kd.R_alloc | apply Kd.R_drewN | apply Kd.R_drew)); exact Kd.R_mono HO242.out (fun _ hk => hk.2)⟩, ⟨by (with_reducible repeat (first | apply Kd.R_alloc | apply Kd.R_drewN | apply Kd.R_drew)); exact Kd.R_mono HO251.out (fun _ hk => hk.1.2)⟩, ⟨by repeat (first | (with_reducible first | exact HB.out | apply below_alloc | apply pw_below_drewN | apply below_drew1) | exact HB.out)⟩⟩
                · rw [if_neg c23] at H
                  have c23b0 : (t245 == 0) = false := beq_eq_false_iff_ne.mpr c23
                  have c23b1 : (t245 != 0) = true := bne_iff_ne.mpr c23
                  have H' := Aside0.mk H
                  clear H
                  go_wp2
                  go_meet
                  case rel => exact ⟨_, (true), (by first | rfl | (simp; done) | (simp [*]; done)), H', ⟨by have := HJ2.out; first | omega | exact Nat.le_refl _⟩, ⟨by (with_reducible repeat (first | apply Kd.R_alloc | apply Kd.R_drewN | apply Kd.R_drew)); exact Kd.R_mono HO242.out (fun _ hk => hk.2)⟩, ⟨by (with_reducible repeat (first | apply Kd.R_alloc | apply Kd.R_drewN | apply Kd.R_drew)); exact Kd.R_mono HO251.out (fun _ hk => hk.1.2)⟩, ⟨by repeat (first | (with_reducible first | exact HB.out | apply below_alloc | apply pw_below_drewN | apply below_drew1) | exact HB.out)⟩⟩
              · rw [if_neg c22] at H
                have c22b0 : (t245 == t249) = false := beq_eq_false_iff_ne.mpr c22
                have c22b1 : (t245 != t249) = true := bne_iff_ne.mpr c22
                (first | rw [c22b0] | (simp only [i64_w, i32_w]; rw [c22b0]) | skip)
                have H' := Aside0.mk H
                clear H
                go_wp2
                go_meet
                case rel => exact ⟨_, (true), (by first | rfl | (simp; done) | (simp [*]; done)), H', ⟨by have := HJ2.out; first | omega | exact Nat.le_refl _⟩, ⟨by (with_reducible repeat (first | apply Kd.R_alloc | apply Kd.R_drewN | apply Kd.R_drew)); exact Kd.R_mono HO242.out (fun _ hk => hk.2)⟩, ⟨by (with_reducible repeat (first | apply Kd.R_alloc | apply Kd.R_drewN | apply Kd.R_drew)); exact Kd.R_mono HO251.out (fun _ hk => hk.1.2)⟩, ⟨by repeat (first | (with_reducible first | exact HB.out | apply below_alloc | apply pw_below_drewN | apply below_drew1) | exact HB.out)⟩⟩
          case rest =>
            as_aux_lemma =>
              clear HC14
              try clear c1
              try clear c2
              try clear p2
              try clear c3
              try clear c5
              try clear c6
              try clear p6
              try clear c7
              try clear c8
              try clear c9
              try clear c10
              try clear c11
              try clear c12
              try clear c22
              try clear c22b0
              try clear c22b1
              try clear c23
              try clear c23b0
              try clear c23b1
              try clear c25
              try clear c26
              try clear c26b0
              try clear c26b1
              try clear c27
              try clear c27b0
              try clear c27b1
              try clear c28
              try clear c28b0
              try clear c28b1
              try clear c31
              try clear c31b0
              try clear c31b1
              try clear p2
              obtain ⟨kq, x93_13, rfl, HA, HJ13, HO_5, HO_9, HB⟩ := hcut
              cases kq with
              | zero => exact absurd HA.out (by simp [laws_FnGaps.j1])
              | succ kj13 =>
                have H := HA.out
                clear HA
                simp only [laws_FnGaps.j1] at H
                by_cases c42 : x93_13 = true
                · subst c42
                  have H1 : (some false) = some r := by rw [if_pos rfl] at H; exact H
                  clear H
                  have H := H1
                  clear H1
                  obtain rfl := Option.some.inj H
                  go_wp2
                  go_ret
                  exact ⟨by first | rfl | (simp [errW_none, errW_some] <;> rfl) | (simp [*, errW_none, errW_some] <;> rfl), by repeat (first | (with_reducible first | exact HB.out | apply below_alloc | apply pw_below_drewN | apply below_drew1) | exact HB.out)⟩
                · replace c42 := Bool.eq_false_iff.mpr c42
                  subst c42
                  have H1 : (laws_FnGaps.l0 kj13 l0 t240 (wrap64 (20 + t243)) t248 t253 t254 0) = some r := by rw [if_neg (show ¬ (false = true) by decide)] at H; exact H
                  clear H
                  have H := H1
                  clear H1
                  have H' := Aside0.mk H
                  clear H
                  go_wp2
                  go_loopg [15] kj13 (fun kq v15 w' => ∃ (x15_3 : Int), v15 = .int .i64 x15_3 ∧ Aside0 (laws_FnGaps.l0 kq l0 t240 (wrap64 (20 + t243)) t248 t253 t254 x15_3 = some r) ∧ Aside0 (kq ≤ kj13) ∧ Aside0 (Kd.R (Kd.int .i64) 2 w' w.heap.size (fun k_ => some k_ ≠ (v250 : Value).ownBlock) (.slice Ao17 t240.length co17) t240) ∧ Aside0 (Kd.R (Kd.int .i64) 2 w' w.heap.size (fun k_ => some k_ ≠ ((.slice Ao17 t240.length co17) : Value).ownBlock) v250 t248) ∧ Aside0 (Below w.heap.size w w'))
                  case atStart => exact ⟨(0), (by first | rfl | (simp; done) | (simp [*]; done)), H', ⟨Nat.le_refl _⟩, ⟨by (with_reducible repeat (first | apply Kd.R_alloc | apply Kd.R_drewN | apply Kd.R_drew)); exact HO_5.out⟩, ⟨by (with_reducible repeat (first | apply Kd.R_alloc | apply Kd.R_drewN | apply Kd.R_drew)); exact HO_9.out⟩, ⟨by repeat (first | (with_reducible first | exact HB.out | apply below_alloc | apply pw_below_drewN | apply below_drew1) | exact HB.out)⟩⟩
                  case round =>
                    as_aux_lemma =>
                      clear H'
                      try clear c1
                      try clear c2
                      try clear p2
                      try clear c3
                      try clear c4
                      try clear c5
                      try clear c6
                      try clear p6
                      try clear c7
                      try clear c8
                      try clear c9
                      try clear c10
                      try clear c11
                      try clear c12
                      try clear c22
                      try clear c22b0
                      try clear c22b1
                      try clear c23
                      try clear c23b0
                      try clear c23b1
                      try clear c25
                      try clear c26
                      try clear c26b0
                      try clear c26b1
                      try clear c27
                      try clear c27b0
                      try clear c27b1
                      try clear c28
                      try clear c28b0
                      try clear c28b1
                      try clear c31
                      try clear c31b0
                      try clear c31b1
                      try clear c42
                      try clear p2
                      try clear p6
                      obtain ⟨x15_3, rfl, HA, HK3, HO_5, HO_9, HB⟩ := hrel
                      cases gk with
                      | zero => exact absurd HA.out (by simp [laws_FnGaps.l0])
                      | succ k3 =>
                        have H := HA.out
                        clear HA
                        simp only [laws_FnGaps.l0] at H
                        by_cases c43 : x15_3 ≤ (wrap64 (20 + t243))
                        · rw [if_pos c43] at H
                          have c43b0 : decide (x15_3 ≤ (wrap64 (20 + t243))) = true := decide_eq_true c43
                          clear c43
                          replace H := Option.bind_eq_some_iff.mp H
                          obtain ⟨⟨t257, t258⟩, A440, H⟩ := H
                          replace H : (if t258 = 0 then ((spec_HasNumber.f k3 t248 x15_3).bind fun t259 => (if (t257 == t259) = true then (some false) else (if t253 = 0 then (if x15_3 > t254 then (if t257 = true then (if x15_3 = t254 then (some false) else (if t253 = 6 then (laws_FnGaps.l0 k3 l0 t240 (wrap64 (20 + t243)) t248 t253 t254 (wrap64 (x15_3 + 1))) else (laws_FnGaps.l0 k3 l0 t240 (wrap64 (20 + t243)) t248 t253 t254 (wrap64 (x15_3 + 1))))) else (some false)) else (if x15_3 = t254 then (if t257 = true then (some false) else (if t253 = 6 then (some false) else (laws_FnGaps.l0 k3 l0 t240 (wrap64 (20 + t243)) t248 t253 t254 (wrap64 (x15_3 + 1))))) else (if t253 = 6 then (if t257 = true then (laws_FnGaps.l0 k3 l0 t240 (wrap64 (20 + t243)) t248 t253 t254 (wrap64 (x15_3 + 1))) else (some false)) else (laws_FnGaps.l0 k3 l0 t240 (wrap64 (20 + t243)) t248 t253 t254 (wrap64 (x15_3 + 1)))))) else (if t253 = 6 then (if t257 = true then (laws_FnGaps.l0 k3 l0 t240 (wrap64 (20 + t243)) t248 t253 t254 (wrap64 (x15_3 + 1))) else (some false)) else (laws_FnGaps.l0 k3 l0 t240 (wrap64 (20 + t243)) t248 t253 t254 (wrap64 (x15_3 + 1))))))) else (some false)) = some r := H
                          have A44 := Aside0.mk A440
                          clear A440
                          by_cases c45 : t258 = 0
                          · rw [if_pos c45] at H
                            have c45b0 : (t258 == 0) = true := beq_iff_eq.mpr c45
                            have c45b1 : (t258 != 0) = false := bne_eq_false_iff_eq.mpr c45
                            clear c45
                            replace H := Option.bind_eq_some_iff.mp H
                            obtain ⟨t259, A460, H⟩ := H
                            replace H : (if (t257 == t259) = true then (some false) else (if t253 = 0 then (if x15_3 > t254 then (if t257 = true then (if x15_3 = t254 then (some false) else (if t253 = 6 then (laws_FnGaps.l0 k3 l0 t240 (wrap64 (20 + t243)) t248 t253 t254 (wrap64 (x15_3 + 1))) else (laws_FnGaps.l0 k3 l0 t240 (wrap64 (20 + t243)) t248 t253 t254 (wrap64 (x15_3 + 1))))) else (some false)) else (if x15_3 = t254 then (if t257 = true then (some false) else (if t253 = 6 then (some false) else (laws_FnGaps.l0 k3 l0 t240 (wrap64 (20 + t243)) t248 t253 t254 (wrap64 (x15_3 + 1))))) else (if t253 = 6 then (if t257 = true then (laws_FnGaps.l0 k3 l0 t240 (wrap64 (20 + t243)) t248 t253 t254 (wrap64 (x15_3 + 1))) else (some false)) else (laws_FnGaps.l0 k3 l0 t240 (wrap64 (20 + t243)) t248 t253 t254 (wrap64 (x15_3 + 1)))))) else (if t253 = 6 then (if t257 = true then (laws_FnGaps.l0 k3 l0 t240 (wrap64 (20 + t243)) t248 t253 t254 (wrap64 (x15_3 + 1))) else (some false)) else (laws_FnGaps.l0 k3 l0 t240 (wrap64 (20 + t243)) t248 t253 t254 (wrap64 (x15_3 + 1)))))) = some r := H
                            have A46 := Aside0.mk A460
                            clear A460
                            by_cases c47 : (t257 == t259) = true
                            · rw [if_pos c47] at H
                              have c47b0 : (t257 == t259) = true := c47
                              (try (have c47b1 : decide (t257 = t259) = true := by simpa using c47))
                              (try (have c47b2 : (t257 == t259) = true := by simpa using c47))
                              clear c47
                              obtain rfl := Option.some.inj H
                              go_wp2_with (first | ((with_reducible refine gate_callee (f := 14) rfl ?_); refine goesL_ (some 102) rfl rfl Try.func14 (by kernel_rfl) rfl #[.slice Ao17 t240.length co17, .int .i64 x15_3] rfl (by (try simp only [List.map_toArray, List.map_cons, List.map_nil]); first | done | rfl | (simp only [List.length_drop, List.length_take]; rfl)) ?_; (with_reducible refine (impl_CanPay.calls k3 _ _ t240 x15_3 t257 t258 _ ?side1 ?side2 A44.out).mono ?_); (case side1 => repeat (first | exact (Kd.R_reads' HO_5.out).2.2 | (with_reducible refine Kd.C_alloc ?_ _) | (with_reducible refine Kd.C_drewN ?_ _) | (with_reducible refine Kd.C_drew ?_))); (case side2 => exact (Kd.R_reads' HO_5.out).2.1); rintro e w48 ⟨rfl, hb⟩; refine ⟨_, rfl, ?_⟩; have n0_ := Aside0.mk (Kd.R_below (by (with_reducible repeat (first | apply Kd.R_alloc | apply Kd.R_drewN | apply Kd.R_drew)); exact HO_5.out) hb); have n1_ := Aside0.mk (Kd.R_below (by (with_reducible repeat (first | apply Kd.R_alloc | apply Kd.R_drewN | apply Kd.R_drew)); exact HO_9.out) hb); have n2_ := Aside0.mk (below_step (by repeat (first | (with_reducible first | exact HB.out | apply below_alloc | apply pw_below_drewN | apply below_drew1) | exact HB.out)) hb); clear HO_5; clear HO_9; clear HB; have HO_5 := n0_; have HO_9 := n1_; have HB := n2_; clear n0_ n1_ n2_; (try clear hb); (try clear hb2); (try clear hk); (try clear hi); obtain ⟨Ao49, co49, eo49⟩ := Kd.R_slice HO_9.out; subst eo49) | (go_at_call 15; (with_reducible refine (spec_HasNumber.calls k3 _ _ t248 x15_3 t259 _ ?side1 ?side2 A46.out).mono ?_); (case side1 => repeat (first | exact (Kd.R_reads' HO_9.out).2.2 | (with_reducible refine Kd.C_alloc ?_ _) | (with_reducible refine Kd.C_drewN ?_ _) | (with_reducible refine Kd.C_drew ?_))); (case side2 => exact (Kd.R_reads' HO_9.out).2.1); rintro e w' ⟨rfl, ⟨nd, rfl⟩⟩))
                              go_ret
                              exact ⟨by first | rfl | (simp [errW_none, errW_some] <;> rfl) | (simp [*, errW_none, errW_some] <;> rfl), by repeat (first | (with_reducible first | exact HB.out | apply below_alloc | apply pw_below_drewN | apply below_drew1) | exact HB.out)⟩
                            · rw [if_neg c47] at H
                              have c47b0 : (t257 == t259) = false := by simpa using c47
                              (try (have c47b1 : decide (t257 = t259) = false := by simpa using c47))
                              (try (have c47b2 : (t257 == t259) = false := by simpa using c47))
                              (try (have c47b3 : ¬ (t257 = t259) := by simpa using c47))
                              clear c47
                              by_cases c50 : t253 = 0
                              · rw [if_pos c50] at H
                                have c50b0 : (t253 == 0) = true := beq_iff_eq.mpr c50
                                have c50b1 : (t253 != 0) = false := bne_eq_false_iff_eq.mpr c50
                                clear c50
                                by_cases c51 : x15_3 > t254
                                · rw [if_pos c51] at H
                                  have c51b0 : decide (t254 < x15_3) = true := decide_eq_true c51
                                  clear c51
                                  by_cases c52 : t257 = true
                                  · subst c52
                                    have H1 : (if x15_3 = t254 then (some false) else (if t253 = 6 then (laws_FnGaps.l0 k3 l0 t240 (wrap64 (20 + t243)) t248 t253 t254 (wrap64 (x15_3 + 1))) else (laws_FnGaps.l0 k3 l0 t240 (wrap64 (20 + t243)) t248 t253 t254 (wrap64 (x15_3 + 1))))) = some r := by rw [if_pos rfl] at H; exact H
                                    clear H
                                    have H := H1
                                    clear H1
                                    by_cases c53 : x15_3 = t254
                                    · rw [if_pos c53] at H
                                      have c53b0 : (x15_3 == t254) = true := beq_iff_eq.mpr c53
                                      have c53b1 : (x15_3 != t254) = false := bne_eq_false_iff_eq.mpr c53
                                      clear c53
                                      obtain rfl := Option.some.inj H
                                      go_wp2_with (first | ((with_reducible refine gate_callee (f := 14) rfl ?_); refine goesL_ (some 102) rfl rfl Try.func14 (by kernel_rfl) rfl #[.slice Ao17 t240.length co17, .int .i64 x15_3] rfl (by (try simp only [List.map_toArray, List.map_cons, List.map_nil]); first | done | rfl | (simp only [List.length_drop, List.length_take]; rfl)) ?_; (with_reducible refine (impl_CanPay.calls k3 _ _ t240 x15_3 true t258 _ ?side1 ?side2 A44.out).mono ?_); (case side1 => repeat (first | exact (Kd.R_reads' HO_5.out).2.2 | (with_reducible refine Kd.C_alloc ?_ _) | (with_reducible refine Kd.C_drewN ?_ _) | (with_reducible refine Kd.C_drew ?_))); (case side2 => exact (Kd.R_reads' HO_5.out).2.1); rintro e w54 ⟨rfl, hb⟩; refine ⟨_, rfl, ?_⟩; have n0_ := Aside0.mk (Kd.R_below (by (with_reducible repeat (first | apply Kd.R_alloc | apply Kd.R_drewN | apply Kd.R_drew)); exact HO_5.out) hb); have n1_ := Aside0.mk (Kd.R_below (by (with_reducible repeat (first | apply Kd.R_alloc | apply Kd.R_drewN | apply Kd.R_drew)); exact HO_9.out) hb); have n2_ := Aside0.mk (below_step (by repeat (first | (with_reducible first | exact HB.out | apply below_alloc | apply pw_below_drewN | apply below_drew1) | exact HB.out)) hb); clear HO_5; clear HO_9; clear HB; have HO_5 := n0_; have HO_9 := n1_; have HB := n2_; clear n0_ n1_ n2_; (try clear hb); (try clear hb2); (try clear hk); (try clear hi); obtain ⟨Ao55, co55, eo55⟩ := Kd.R_slice HO_9.out; subst eo55) | (go_at_call 15; (with_reducible refine (spec_HasNumber.calls k3 _ _ t248 x15_3 t259 _ ?side1 ?side2 A46.out).mono ?_); (case side1 => repeat (first | exact (Kd.R_reads' HO_9.out).2.2 | (with_reducible refine Kd.C_alloc ?_ _) | (with_reducible refine Kd.C_drewN ?_ _) | (with_reducible refine Kd.C_drew ?_))); (case side2 => exact (Kd.R_reads' HO_9.out).2.1); rintro e w' ⟨rfl, ⟨nd, rfl⟩⟩))
                                      go_ret
                                      exact ⟨by first | rfl | (simp [errW_none, errW_some] <;> rfl) | (simp [*, errW_none, errW_some] <;> rfl), by repeat (first | (with_reducible first | exact HB.out | apply below_alloc | apply pw_below_drewN | apply below_drew1) | exact HB.out)⟩
                                    · rw [if_neg c53] at H
                                      have c53b0 : (x15_3 == t254) = false := beq_eq_false_iff_ne.mpr c53
                                      have c53b1 : (x15_3 != t254) = true := bne_iff_ne.mpr c53
                                      by_cases c56 : t253 = 6
                                      · rw [if_pos c56] at H
                                        have c56b0 : (t253 == 6) = true := beq_iff_eq.mpr c56
                                        have c56b1 : (t253 != 6) = false := bne_eq_false_iff_eq.mpr c56
                                        clear c56
                                        have H' := Aside0.mk H
                                        clear H
                                        go_wp2_with (first | ((with_reducible refine gate_callee (f := 14) rfl ?_); refine goesL_ (some 102) rfl rfl Try.func14 (by kernel_rfl) rfl #[.slice Ao17 t240.length co17, .int .i64 x15_3] rfl (by (try simp only [List.map_toArray, List.map_cons, List.map_nil]); first | done | rfl | (simp only [List.length_drop, List.length_take]; rfl)) ?_; (with_reducible refine (impl_CanPay.calls k3 _ _ t240 x15_3 true t258 _ ?side1 ?side2 A44.out).mono ?_); (case side1 => repeat (first | exact (Kd.R_reads' HO_5.out).2.2 | (with_reducible refine Kd.C_alloc ?_ _) | (with_reducible refine Kd.C_drewN ?_ _) | (with_reducible refine Kd.C_drew ?_))); (case side2 => exact (Kd.R_reads' HO_5.out).2.1); rintro e w57 ⟨rfl, hb⟩; refine ⟨_, rfl, ?_⟩; have n0_ := Aside0.mk (Kd.R_below (by (with_reducible repeat (first | apply Kd.R_alloc | apply Kd.R_drewN | apply Kd.R_drew)); exact HO_5.out) hb); have n1_ := Aside0.mk (Kd.R_below (by (with_reducible repeat (first | apply Kd.R_alloc | apply Kd.R_drewN | apply Kd.R_drew)); exact HO_9.out) hb); have n2_ := Aside0.mk (below_step (by repeat (first | (with_reducible first | exact HB.out | apply below_alloc | apply pw_below_drewN | apply below_drew1) | exact HB.out)) hb); clear HO_5; clear HO_9; clear HB; have HO_5 := n0_; have HO_9 := n1_; have HB := n2_; clear n0_ n1_ n2_; (try clear hb); (try clear hb2); (try clear hk); (try clear hi); obtain ⟨Ao58, co58, eo58⟩ := Kd.R_slice HO_9.out; subst eo58) | (go_at_call 15; (with_reducible refine (spec_HasNumber.calls k3 _ _ t248 x15_3 t259 _ ?side1 ?side2 A46.out).mono ?_); (case side1 => repeat (first | exact (Kd.R_reads' HO_9.out).2.2 | (with_reducible refine Kd.C_alloc ?_ _) | (with_reducible refine Kd.C_drewN ?_ _) | (with_reducible refine Kd.C_drew ?_))); (case side2 => exact (Kd.R_reads' HO_9.out).2.1); rintro e w' ⟨rfl, ⟨nd, rfl⟩⟩))
                                        go_roundg k3
                                        case measure => have := HJ2.out; have := HJ13.out; have := HK3.out; omega
                                        case rel => exact ⟨(wrap64 (x15_3 + 1)), (by first | rfl | (simp; done) | (simp [*]; done)), H', ⟨by have := HJ2.out; have := HJ13.out; have := HK3.out; omega⟩, ⟨by (with_reducible repeat (first | apply Kd.R_alloc | apply Kd.R_drewN | apply Kd.R_drew)); exact HO_5.out⟩, ⟨by (with_reducible repeat (first | apply Kd.R_alloc | apply Kd.R_drewN | apply Kd.R_drew)); exact HO_9.out⟩, ⟨by repeat (first | (with_reducible first | exact HB.out | apply below_alloc | apply pw_below_drewN | apply below_drew1) | exact HB.out)⟩⟩
                                      · rw [if_neg c56] at H
                                        have c56b0 : (t253 == 6) = false := beq_eq_false_iff_ne.mpr c56
                                        have c56b1 : (t253 != 6) = true := bne_iff_ne.mpr c56
                                        have H' := Aside0.mk H
                                        clear H
                                        go_wp2_with (first | ((with_reducible refine gate_callee (f := 14) rfl ?_); refine goesL_ (some 102) rfl rfl Try.func14 (by kernel_rfl) rfl #[.slice Ao17 t240.length co17, .int .i64 x15_3] rfl (by (try simp only [List.map_toArray, List.map_cons, List.map_nil]); first | done | rfl | (simp only [List.length_drop, List.length_take]; rfl)) ?_; (with_reducible refine (impl_CanPay.calls k3 _ _ t240 x15_3 true t258 _ ?side1 ?side2 A44.out).mono ?_); (case side1 => repeat (first | exact (Kd.R_reads' HO_5.out).2.2 | (with_reducible refine Kd.C_alloc ?_ _) | (with_reducible refine Kd.C_drewN ?_ _) | (with_reducible refine Kd.C_drew ?_))); (case side2 => exact (Kd.R_reads' HO_5.out).2.1); rintro e w59 ⟨rfl, hb⟩; refine ⟨_, rfl, ?_⟩; have n0_ := Aside0.mk (Kd.R_below (by (with_reducible repeat (first | apply Kd.R_alloc | apply Kd.R_drewN | apply Kd.R_drew)); exact HO_5.out) hb); have n1_ := Aside0.mk (Kd.R_below (by (with_reducible repeat (first | apply Kd.R_alloc | apply Kd.R_drewN | apply Kd.R_drew)); exact HO_9.out) hb); have n2_ := Aside0.mk (below_step (by repeat (first | (with_reducible first | exact HB.out | apply below_alloc | apply pw_below_drewN | apply below_drew1) | exact HB.out)) hb); clear HO_5; clear HO_9; clear HB; have HO_5 := n0_; have HO_9 := n1_; have HB := n2_; clear n0_ n1_ n2_; (try clear hb); (try clear hb2); (try clear hk); (try clear hi); obtain ⟨Ao60, co60, eo60⟩ := Kd.R_slice HO_9.out; subst eo60) | (go_at_call 15; (with_reducible refine (spec_HasNumber.calls k3 _ _ t248 x15_3 t259 _ ?side1 ?side2 A46.out).mono ?_); (case side1 => repeat (first | exact (Kd.R_reads' HO_9.out).2.2 | (with_reducible refine Kd.C_alloc ?_ _) | (with_reducible refine Kd.C_drewN ?_ _) | (with_reducible refine Kd.C_drew ?_))); (case side2 => exact (Kd.R_reads' HO_9.out).2.1); rintro e w' ⟨rfl, ⟨nd, rfl⟩⟩))
                                        go_roundg k3
                                        case measure => have := HJ2.out; have := HJ13.out; have := HK3.out; omega
                                        case rel => exact ⟨(wrap64 (x15_3 + 1)), (by first | rfl | (simp; done) | (simp [*]; done)), H', ⟨by have := HJ2.out; have := HJ13.out; have := HK3.out; omega⟩, ⟨by (with_reducible repeat (first | apply Kd.R_alloc | apply Kd.R_drewN | apply Kd.R_drew)); exact HO_5.out⟩, ⟨by (with_reducible repeat (first | apply Kd.R_alloc | apply Kd.R_drewN | apply Kd.R_drew)); exact HO_9.out⟩, ⟨by repeat (first | (with_reducible first | exact HB.out | apply below_alloc | apply pw_below_drewN | apply below_drew1) | exact HB.out)⟩⟩
                                  · replace c52 := Bool.eq_false_iff.mpr c52
                                    subst c52
                                    have H1 : (some false) = some r := by rw [if_neg (show ¬ (false = true) by decide)] at H; exact H
                                    clear H
                                    have H := H1
                                    clear H1
                                    obtain rfl := Option.some.inj H
                                    go_wp2_with (first | ((with_reducible refine gate_callee (f := 14) rfl ?_); refine goesL_ (some 102) rfl rfl Try.func14 (by kernel_rfl) rfl #[.slice Ao17 t240.length co17, .int .i64 x15_3] rfl (by (try simp only [List.map_toArray, List.map_cons, List.map_nil]); first | done | rfl | (simp only [List.length_drop, List.length_take]; rfl)) ?_; (with_reducible refine (impl_CanPay.calls k3 _ _ t240 x15_3 false t258 _ ?side1 ?side2 A44.out).mono ?_); (case side1 => repeat (first | exact (Kd.R_reads' HO_5.out).2.2 | (with_reducible refine Kd.C_alloc ?_ _) | (with_reducible refine Kd.C_drewN ?_ _) | (with_reducible refine Kd.C_drew ?_))); (case side2 => exact (Kd.R_reads' HO_5.out).2.1); rintro e w61 ⟨rfl, hb⟩; refine ⟨_, rfl, ?_⟩; have n0_ := Aside0.mk (Kd.R_below (by (with_reducible repeat (first | apply Kd.R_alloc | apply Kd.R_drewN | apply Kd.R_drew)); exact HO_5.out) hb); have n1_ := Aside0.mk (Kd.R_below (by (with_reducible repeat (first | apply Kd.R_alloc | apply Kd.R_drewN | apply Kd.R_drew)); exact HO_9.out) hb); have n2_ := Aside0.mk (below_step (by repeat (first | (with_reducible first | exact HB.out | apply below_alloc | apply pw_below_drewN | apply below_drew1) | exact HB.out)) hb); clear HO_5; clear HO_9; clear HB; have HO_5 := n0_; have HO_9 := n1_; have HB := n2_; clear n0_ n1_ n2_; (try clear hb); (try clear hb2); (try clear hk); (try clear hi); obtain ⟨Ao62, co62, eo62⟩ := Kd.R_slice HO_9.out; subst eo62) | (go_at_call 15; (with_reducible refine (spec_HasNumber.calls k3 _ _ t248 x15_3 t259 _ ?side1 ?side2 A46.out).mono ?_); (case side1 => repeat (first | exact (Kd.R_reads' HO_9.out).2.2 | (with_reducible refine Kd.C_alloc ?_ _) | (with_reducible refine Kd.C_drewN ?_ _) | (with_reducible refine Kd.C_drew ?_))); (case side2 => exact (Kd.R_reads' HO_9.out).2.1); rintro e w' ⟨rfl, ⟨nd, rfl⟩⟩))
                                    go_ret
                                    exact ⟨by first | rfl | (simp [errW_none, errW_some] <;> rfl) | (simp [*, errW_none, errW_some] <;> rfl), by repeat (first | (with_reducible first | exact HB.out | apply below_alloc | apply pw_below_drewN | apply below_drew1) | exact HB.out)⟩
                                · rw [if_neg c51] at H
                                  have c51b0 : decide (t254 < x15_3) = false := decide_eq_false c51
                                  clear c51
                                  by_cases c63 : x15_3 = t254
                                  · rw [if_pos c63] at H
                                    have c63b0 : (x15_3 == t254) = true := beq_iff_eq.mpr c63
                                    have c63b1 : (x15_3 != t254) = false := bne_eq_false_iff_eq.mpr c63
                                    clear c63
                                    by_cases c64 : t257 = true
                                    · subst c64
                                      have H1 : (some false) = some r := by rw [if_pos rfl] at H; exact H
                                      clear H
                                      have H := H1
                                      clear H1
                                      obtain rfl := Option.some.inj H
                                      go_wp2_with (first | ((with_reducible refine gate_callee (f := 14) rfl ?_); refine goesL_ (some 102) rfl rfl Try.func14 (by kernel_rfl) rfl #[.slice Ao17 t240.length co17, .int .i64 x15_3] rfl (by (try simp only [List.map_toArray, List.map_cons, List.map_nil]); first | done | rfl | (simp only [List.length_drop, List.length_take]; rfl)) ?_; (with_reducible refine (impl_CanPay.calls k3 _ _ t240 x15_3 true t258 _ ?side1 ?side2 A44.out).mono ?_); (case side1 => repeat (first | exact (Kd.R_reads' HO_5.out).2.2 | (with_reducible refine Kd.C_alloc ?_ _) | (with_reducible refine Kd.C_drewN ?_ _) | (with_reducible refine Kd.C_drew ?_))); (case side2 => exact (Kd.R_reads' HO_5.out).2.1); rintro e w65 ⟨rfl, hb⟩; refine ⟨_, rfl, ?_⟩; have n0_ := Aside0.mk (Kd.R_below (by (with_reducible repeat (first | apply Kd.R_alloc | apply Kd.R_drewN | apply Kd.R_drew)); exact HO_5.out) hb); have n1_ := Aside0.mk (Kd.R_below (by (with_reducible repeat (first | apply Kd.R_alloc | apply Kd.R_drewN | apply Kd.R_drew)); exact HO_9.out) hb); have n2_ := Aside0.mk (below_step (by repeat (first | (with_reducible first | exact HB.out | apply below_alloc | apply pw_below_drewN | apply below_drew1) | exact HB.out)) hb); clear HO_5; clear HO_9; clear HB; have HO_5 := n0_; have HO_9 := n1_; have HB := n2_; clear n0_ n1_ n2_; (try clear hb); (try clear hb2); (try clear hk); (try clear hi); obtain ⟨Ao66, co66, eo66⟩ := Kd.R_slice HO_9.out; subst eo66) | (go_at_call 15; (with_reducible refine (spec_HasNumber.calls k3 _ _ t248 x15_3 t259 _ ?side1 ?side2 A46.out).mono ?_); (case side1 => repeat (first | exact (Kd.R_reads' HO_9.out).2.2 | (with_reducible refine Kd.C_alloc ?_ _) | (with_reducible refine Kd.C_drewN ?_ _) | (with_reducible refine Kd.C_drew ?_))); (case side2 => exact (Kd.R_reads' HO_9.out).2.1); rintro e w' ⟨rfl, ⟨nd, rfl⟩⟩))
                                      go_ret
                                      exact ⟨by first | rfl | (simp [errW_none, errW_some] <;> rfl) | (simp [*, errW_none, errW_some] <;> rfl), by repeat (first | (with_reducible first | exact HB.out | apply below_alloc | apply pw_below_drewN | apply below_drew1) | exact HB.out)⟩
                                    · replace c64 := Bool.eq_false_iff.mpr c64
                                      subst c64
                                      have H1 : (if t253 = 6 then (some false) else (laws_FnGaps.l0 k3 l0 t240 (wrap64 (20 + t243)) t248 t253 t254 (wrap64 (x15_3 + 1)))) = some r := by rw [if_neg (show ¬ (false = true) by decide)] at H; exact H
                                      clear H
                                      have H := H1
                                      clear H1
                                      by_cases c67 : t253 = 6
                                      · rw [if_pos c67] at H
                                        have c67b0 : (t253 == 6) = true := beq_iff_eq.mpr c67
                                        have c67b1 : (t253 != 6) = false := bne_eq_false_iff_eq.mpr c67
                                        clear c67
                                        obtain rfl := Option.some.inj H
                                        go_wp2_with (first | ((with_reducible refine gate_callee (f := 14) rfl ?_); refine goesL_ (some 102) rfl rfl Try.func14 (by kernel_rfl) rfl #[.slice Ao17 t240.length co17, .int .i64 x15_3] rfl (by (try simp only [List.map_toArray, List.map_cons, List.map_nil]); first | done | rfl | (simp only [List.length_drop, List.length_take]; rfl)) ?_; (with_reducible refine (impl_CanPay.calls k3 _ _ t240 x15_3 false t258 _ ?side1 ?side2 A44.out).mono ?_); (case side1 => repeat (first | exact (Kd.R_reads' HO_5.out).2.2 | (with_reducible refine Kd.C_alloc ?_ _) | (with_reducible refine Kd.C_drewN ?_ _) | (with_reducible refine Kd.C_drew ?_))); (case side2 => exact (Kd.R_reads' HO_5.out).2.1); rintro e w68 ⟨rfl, hb⟩; refine ⟨_, rfl, ?_⟩; have n0_ := Aside0.mk (Kd.R_below (by (with_reducible repeat (first | apply Kd.R_alloc | apply Kd.R_drewN | apply Kd.R_drew)); exact HO_5.out) hb); have n1_ := Aside0.mk (Kd.R_below (by (with_reducible repeat (first | apply Kd.R_alloc | apply Kd.R_drewN | apply Kd.R_drew)); exact HO_9.out) hb); have n2_ := Aside0.mk (below_step (by repeat (first | (with_reducible first | exact HB.out | apply below_alloc | apply pw_below_drewN | apply below_drew1) | exact HB.out)) hb); clear HO_5; clear HO_9; clear HB; have HO_5 := n0_; have HO_9 := n1_; have HB := n2_; clear n0_ n1_ n2_; (try clear hb); (try clear hb2); (try clear hk); (try clear hi); obtain ⟨Ao69, co69, eo69⟩ := Kd.R_slice HO_9.out; subst eo69) | (go_at_call 15; (with_reducible refine (spec_HasNumber.calls k3 _ _ t248 x15_3 t259 _ ?side1 ?side2 A46.out).mono ?_); (case side1 => repeat (first | exact (Kd.R_reads' HO_9.out).2.2 | (with_reducible refine Kd.C_alloc ?_ _) | (with_reducible refine Kd.C_drewN ?_ _) | (with_reducible refine Kd.C_drew ?_))); (case side2 => exact (Kd.R_reads' HO_9.out).2.1); rintro e w' ⟨rfl, ⟨nd, rfl⟩⟩))
                                        go_ret
                                        exact ⟨by first | rfl | (simp [errW_none, errW_some] <;> rfl) | (simp [*, errW_none, errW_some] <;> rfl), by repeat (first | (with_reducible first | exact HB.out | apply below_alloc | apply pw_below_drewN | apply below_drew1) | exact HB.out)⟩
                                      · rw [if_neg c67] at H
                                        have c67b0 : (t253 == 6) = false := beq_eq_false_iff_ne.mpr c67
                                        have c67b1 : (t253 != 6) = true := bne_iff_ne.mpr c67
                                        have H' := Aside0.mk H
                                        clear H
                                        go_wp2_with (first | ((with_reducible refine gate_callee (f := 14) rfl ?_); refine goesL_ (some 102) rfl rfl Try.func14 (by kernel_rfl) rfl #[.slice Ao17 t240.length co17, .int .i64 x15_3] rfl (by (try simp only [List.map_toArray, List.map_cons, List.map_nil]); first | done | rfl | (simp only [List.length_drop, List.length_take]; rfl)) ?_; (with_reducible refine (impl_CanPay.calls k3 _ _ t240 x15_3 false t258 _ ?side1 ?side2 A44.out).mono ?_); (case side1 => repeat (first | exact (Kd.R_reads' HO_5.out).2.2 | (with_reducible refine Kd.C_alloc ?_ _) | (with_reducible refine Kd.C_drewN ?_ _) | (with_reducible refine Kd.C_drew ?_))); (case side2 => exact (Kd.R_reads' HO_5.out).2.1); rintro e w70 ⟨rfl, hb⟩; refine ⟨_, rfl, ?_⟩; have n0_ := Aside0.mk (Kd.R_below (by (with_reducible repeat (first | apply Kd.R_alloc | apply Kd.R_drewN | apply Kd.R_drew)); exact HO_5.out) hb); have n1_ := Aside0.mk (Kd.R_below (by (with_reducible repeat (first | apply Kd.R_alloc | apply Kd.R_drewN | apply Kd.R_drew)); exact HO_9.out) hb); have n2_ := Aside0.mk (below_step (by repeat (first | (with_reducible first | exact HB.out | apply below_alloc | apply pw_below_drewN | apply below_drew1) | exact HB.out)) hb); clear HO_5; clear HO_9; clear HB; have HO_5 := n0_; have HO_9 := n1_; have HB := n2_; clear n0_ n1_ n2_; (try clear hb); (try clear hb2); (try clear hk); (try clear hi); obtain ⟨Ao71, co71, eo71⟩ := Kd.R_slice HO_9.out; subst eo71) | (go_at_call 15; (with_reducible refine (spec_HasNumber.calls k3 _ _ t248 x15_3 t259 _ ?side1 ?side2 A46.out).mono ?_); (case side1 => repeat (first | exact (Kd.R_reads' HO_9.out).2.2 | (with_reducible refine Kd.C_alloc ?_ _) | (with_reducible refine Kd.C_drewN ?_ _) | (with_reducible refine Kd.C_drew ?_))); (case side2 => exact (Kd.R_reads' HO_9.out).2.1); rintro e w' ⟨rfl, ⟨nd, rfl⟩⟩))
                                        go_roundg k3
                                        case measure => have := HJ2.out; have := HJ13.out; have := HK3.out; omega
                                        case rel => exact ⟨(wrap64 (x15_3 + 1)), (by first | rfl | (simp; done) | (simp [*]; done)), H', ⟨by have := HJ2.out; have := HJ13.out; have := HK3.out; omega⟩, ⟨by (with_reducible repeat (first | apply Kd.R_alloc | apply Kd.R_drewN | apply Kd.R_drew)); exact HO_5.out⟩, ⟨by (with_reducible repeat (first | apply Kd.R_alloc | apply Kd.R_drewN | apply Kd.R_drew)); exact HO_9.out⟩, ⟨by repeat (first | (with_reducible first | exact HB.out | apply below_alloc | apply pw_below_drewN | apply below_drew1) | exact HB.out)⟩⟩
                                  · rw [if_neg c63] at H
                                    have c63b0 : (x15_3 == t254) = false := beq_eq_false_iff_ne.mpr c63
                                    have c63b1 : (x15_3 != t254) = true := bne_iff_ne.mpr c63
                                    by_cases c72 : t253 = 6
                                    · rw [if_pos c72] at H
                                      have c72b0 : (t253 == 6) = true := beq_iff_eq.mpr c72
                                      have c72b1 : (t253 != 6) = false := bne_eq_false_iff_eq.mpr c72
                                      clear c72
                                      by_cases c73 : t257 = true
                                      · subst c73
                                        have H1 : (laws_FnGaps.l0 k3 l0 t240 (wrap64 (20 + t243)) t248 t253 t254 (wrap64 (x15_3 + 1))) = some r := by rw [if_pos rfl] at H; exact H
                                        clear H
                                        have H := H1
                                        clear H1
                                        have H' := Aside0.mk H
                                        clear H
                                        go_wp2_with (first | ((with_reducible refine gate_callee (f := 14) rfl ?_); refine goesL_ (some 102) rfl rfl Try.func14 (by kernel_rfl) rfl #[.slice Ao17 t240.length co17, .int .i64 x15_3] rfl (by (try simp only [List.map_toArray, List.map_cons, List.map_nil]); first | done | rfl | (simp only [List.length_drop, List.length_take]; rfl)) ?_; (with_reducible refine (impl_CanPay.calls k3 _ _ t240 x15_3 true t258 _ ?side1 ?side2 A44.out).mono ?_); (case side1 => repeat (first | exact (Kd.R_reads' HO_5.out).2.2 | (with_reducible refine Kd.C_alloc ?_ _) | (with_reducible refine Kd.C_drewN ?_ _) | (with_reducible refine Kd.C_drew ?_))); (case side2 => exact (Kd.R_reads' HO_5.out).2.1); rintro e w74 ⟨rfl, hb⟩; refine ⟨_, rfl, ?_⟩; have n0_ := Aside0.mk (Kd.R_below (by (with_reducible repeat (first | apply Kd.R_alloc | apply Kd.R_drewN | apply Kd.R_drew)); exact HO_5.out) hb); have n1_ := Aside0.mk (Kd.R_below (by (with_reducible repeat (first | apply Kd.R_alloc | apply Kd.R_drewN | apply Kd.R_drew)); exact HO_9.out) hb); have n2_ := Aside0.mk (below_step (by repeat (first | (with_reducible first | exact HB.out | apply below_alloc | apply pw_below_drewN | apply below_drew1) | exact HB.out)) hb); clear HO_5; clear HO_9; clear HB; have HO_5 := n0_; have HO_9 := n1_; have HB := n2_; clear n0_ n1_ n2_; (try clear hb); (try clear hb2); (try clear hk); (try clear hi); obtain ⟨Ao75, co75, eo75⟩ := Kd.R_slice HO_9.out; subst eo75) | (go_at_call 15; (with_reducible refine (spec_HasNumber.calls k3 _ _ t248 x15_3 t259 _ ?side1 ?side2 A46.out).mono ?_); (case side1 => repeat (first | exact (Kd.R_reads' HO_9.out).2.2 | (with_reducible refine Kd.C_alloc ?_ _) | (with_reducible refine Kd.C_drewN ?_ _) | (with_reducible refine Kd.C_drew ?_))); (case side2 => exact (Kd.R_reads' HO_9.out).2.1); rintro e w' ⟨rfl, ⟨nd, rfl⟩⟩))
                                        go_roundg k3
                                        case measure => have := HJ2.out; have := HJ13.out; have := HK3.out; omega
                                        case rel => exact ⟨(wrap64 (x15_3 + 1)), (by first | rfl | (simp; done) | (simp [*]; done)), H', ⟨by have := HJ2.out; have := HJ13.out; have := HK3.out; omega⟩, ⟨by (with_reducible repeat (first | apply Kd.R_alloc | apply Kd.R_drewN | apply Kd.R_drew)); exact HO_5.out⟩, ⟨by (with_reducible repeat (first | apply Kd.R_alloc | apply Kd.R_drewN | apply Kd.R_drew)); exact HO_9.out⟩, ⟨by repeat (first | (with_reducible first | exact HB.out | apply below_alloc | apply pw_below_drewN | apply below_drew1) | exact HB.out)⟩⟩
                                      · replace c73 := Bool.eq_false_iff.mpr c73
                                        subst c73
                                        have H1 : (some false) = some r := by rw [if_neg (show ¬ (false = true) by decide)] at H; exact H
                                        clear H
                                        have H := H1
                                        clear H1
                                        obtain rfl := Option.some.inj H
                                        go_wp2_with (first | ((with_reducible refine gate_callee (f := 14) rfl ?_); refine goesL_ (some 102) rfl rfl Try.func14 (by kernel_rfl) rfl #[.slice Ao17 t240.length co17, .int .i64 x15_3] rfl (by (try simp only [List.map_toArray, List.map_cons, List.map_nil]); first | done | rfl | (simp only [List.length_drop, List.length_take]; rfl)) ?_; (with_reducible refine (impl_CanPay.calls k3 _ _ t240 x15_3 false t258 _ ?side1 ?side2 A44.out).mono ?_); (case side1 => repeat (first | exact (Kd.R_reads' HO_5.out).2.2 | (with_reducible refine Kd.C_alloc ?_ _) | (with_reducible refine Kd.C_drewN ?_ _) | (with_reducible refine Kd.C_drew ?_))); (case side2 => exact (Kd.R_reads' HO_5.out).2.1); rintro e w76 ⟨rfl, hb⟩; refine ⟨_, rfl, ?_⟩; have n0_ := Aside0.mk (Kd.R_below (by (with_reducible repeat (first | apply Kd.R_alloc | apply Kd.R_drewN | apply Kd.R_drew)); exact HO_5.out) hb); have n1_ := Aside0.mk (Kd.R_below (by (with_reducible repeat (first | apply Kd.R_alloc | apply Kd.R_drewN | apply Kd.R_drew)); exact HO_9.out) hb); have n2_ := Aside0.mk (below_step (by repeat (first | (with_reducible first | exact HB.out | apply below_alloc | apply pw_below_drewN | apply below_drew1) | exact HB.out)) hb); clear HO_5; clear HO_9; clear HB; have HO_5 := n0_; have HO_9 := n1_; have HB := n2_; clear n0_ n1_ n2_; (try clear hb); (try clear hb2); (try clear hk); (try clear hi); obtain ⟨Ao77, co77, eo77⟩ := Kd.R_slice HO_9.out; subst eo77) | (go_at_call 15; (with_reducible refine (spec_HasNumber.calls k3 _ _ t248 x15_3 t259 _ ?side1 ?side2 A46.out).mono ?_); (case side1 => repeat (first | exact (Kd.R_reads' HO_9.out).2.2 | (with_reducible refine Kd.C_alloc ?_ _) | (with_reducible refine Kd.C_drewN ?_ _) | (with_reducible refine Kd.C_drew ?_))); (case side2 => exact (Kd.R_reads' HO_9.out).2.1); rintro e w' ⟨rfl, ⟨nd, rfl⟩⟩))
                                        go_ret
                                        exact ⟨by first | rfl | (simp [errW_none, errW_some] <;> rfl) | (simp [*, errW_none, errW_some] <;> rfl), by repeat (first | (with_reducible first | exact HB.out | apply below_alloc | apply pw_below_drewN | apply below_drew1) | exact HB.out)⟩
                                    · rw [if_neg c72] at H
                                      have c72b0 : (t253 == 6) = false := beq_eq_false_iff_ne.mpr c72
                                      have c72b1 : (t253 != 6) = true := bne_iff_ne.mpr c72
                                      have H' := Aside0.mk H
                                      clear H
                                      go_wp2_with (first | ((with_reducible refine gate_callee (f := 14) rfl ?_); refine goesL_ (some 102) rfl rfl Try.func14 (by kernel_rfl) rfl #[.slice Ao17 t240.length co17, .int .i64 x15_3] rfl (by (try simp only [List.map_toArray, List.map_cons, List.map_nil]); first | done | rfl | (simp only [List.length_drop, List.length_take]; rfl)) ?_; (with_reducible refine (impl_CanPay.calls k3 _ _ t240 x15_3 t257 t258 _ ?side1 ?side2 A44.out).mono ?_); (case side1 => repeat (first | exact (Kd.R_reads' HO_5.out).2.2 | (with_reducible refine Kd.C_alloc ?_ _) | (with_reducible refine Kd.C_drewN ?_ _) | (with_reducible refine Kd.C_drew ?_))); (case side2 => exact (Kd.R_reads' HO_5.out).2.1); rintro e w78 ⟨rfl, hb⟩; refine ⟨_, rfl, ?_⟩; have n0_ := Aside0.mk (Kd.R_below (by (with_reducible repeat (first | apply Kd.R_alloc | apply Kd.R_drewN | apply Kd.R_drew)); exact HO_5.out) hb); have n1_ := Aside0.mk (Kd.R_below (by (with_reducible repeat (first | apply Kd.R_alloc | apply Kd.R_drewN | apply Kd.R_drew)); exact HO_9.out) hb); have n2_ := Aside0.mk (below_step (by repeat (first | (with_reducible first | exact HB.out | apply below_alloc | apply pw_below_drewN | apply below_drew1) | exact HB.out)) hb); clear HO_5; clear HO_9; clear HB; have HO_5 := n0_; have HO_9 := n1_; have HB := n2_; clear n0_ n1_ n2_; (try clear hb); (try clear hb2); (try clear hk); (try clear hi); obtain ⟨Ao79, co79, eo79⟩ := Kd.R_slice HO_9.out; subst eo79) | (go_at_call 15; (with_reducible refine (spec_HasNumber.calls k3 _ _ t248 x15_3 t259 _ ?side1 ?side2 A46.out).mono ?_); (case side1 => repeat (first | exact (Kd.R_reads' HO_9.out).2.2 | (with_reducible refine Kd.C_alloc ?_ _) | (with_reducible refine Kd.C_drewN ?_ _) | (with_reducible refine Kd.C_drew ?_))); (case side2 => exact (Kd.R_reads' HO_9.out).2.1); rintro e w' ⟨rfl, ⟨nd, rfl⟩⟩))
                                      go_roundg k3
                                      case measure => have := HJ2.out; have := HJ13.out; have := HK3.out; omega
                                      case rel => exact ⟨(wrap64 (x15_3 + 1)), (by first | rfl | (simp; done) | (simp [*]; done)), H', ⟨by have := HJ2.out; have := HJ13.out; have := HK3.out; omega⟩, ⟨by (with_reducible repeat (first | apply Kd.R_alloc | apply Kd.R_drewN | apply Kd.R_drew)); exact HO_5.out⟩, ⟨by (with_reducible repeat (first | apply Kd.R_alloc | apply Kd.R_drewN | apply Kd.R_drew)); exact HO_9.out⟩, ⟨by repeat (first | (with_reducible first | exact HB.out | apply below_alloc | apply pw_below_drewN | apply below_drew1) | exact HB.out)⟩⟩
                              · rw [if_neg c50] at H
                                have c50b0 : (t253 == 0) = false := beq_eq_false_iff_ne.mpr c50
                                have c50b1 : (t253 != 0) = true := bne_iff_ne.mpr c50
                                by_cases c80 : t253 = 6
                                · rw [if_pos c80] at H
                                  have c80b0 : (t253 == 6) = true := beq_iff_eq.mpr c80
                                  have c80b1 : (t253 != 6) = false := bne_eq_false_iff_eq.mpr c80
                                  clear c80
                                  by_cases c81 : t257 = true
                                  · subst c81
                                    have H1 : (laws_FnGaps.l0 k3 l0 t240 (wrap64 (20 + t243)) t248 t253 t254 (wrap64 (x15_3 + 1))) = some r := by rw [if_pos rfl] at H; exact H
                                    clear H
                                    have H := H1
                                    clear H1
                                    have H' := Aside0.mk H
                                    clear H
                                    go_wp2_with (first | ((with_reducible refine gate_callee (f := 14) rfl ?_); refine goesL_ (some 102) rfl rfl Try.func14 (by kernel_rfl) rfl #[.slice Ao17 t240.length co17, .int .i64 x15_3] rfl (by (try simp only [List.map_toArray, List.map_cons, List.map_nil]); first | done | rfl | (simp only [List.length_drop, List.length_take]; rfl)) ?_; (with_reducible refine (impl_CanPay.calls k3 _ _ t240 x15_3 true t258 _ ?side1 ?side2 A44.out).mono ?_); (case side1 => repeat (first | exact (Kd.R_reads' HO_5.out).2.2 | (with_reducible refine Kd.C_alloc ?_ _) | (with_reducible refine Kd.C_drewN ?_ _) | (with_reducible refine Kd.C_drew ?_))); (case side2 => exact (Kd.R_reads' HO_5.out).2.1); rintro e w82 ⟨rfl, hb⟩; refine ⟨_, rfl, ?_⟩; have n0_ := Aside0.mk (Kd.R_below (by (with_reducible repeat (first | apply Kd.R_alloc | apply Kd.R_drewN | apply Kd.R_drew)); exact HO_5.out) hb); have n1_ := Aside0.mk (Kd.R_below (by (with_reducible repeat (first | apply Kd.R_alloc | apply Kd.R_drewN | apply Kd.R_drew)); exact HO_9.out) hb); have n2_ := Aside0.mk (below_step (by repeat (first | (with_reducible first | exact HB.out | apply below_alloc | apply pw_below_drewN | apply below_drew1) | exact HB.out)) hb); clear HO_5; clear HO_9; clear HB; have HO_5 := n0_; have HO_9 := n1_; have HB := n2_; clear n0_ n1_ n2_; (try clear hb); (try clear hb2); (try clear hk); (try clear hi); obtain ⟨Ao83, co83, eo83⟩ := Kd.R_slice HO_9.out; subst eo83) | (go_at_call 15; (with_reducible refine (spec_HasNumber.calls k3 _ _ t248 x15_3 t259 _ ?side1 ?side2 A46.out).mono ?_); (case side1 => repeat (first | exact (Kd.R_reads' HO_9.out).2.2 | (with_reducible refine Kd.C_alloc ?_ _) | (with_reducible refine Kd.C_drewN ?_ _) | (with_reducible refine Kd.C_drew ?_))); (case side2 => exact (Kd.R_reads' HO_9.out).2.1); rintro e w' ⟨rfl, ⟨nd, rfl⟩⟩))
                                    go_roundg k3
                                    case measure => have := HJ2.out; have := HJ13.out; have := HK3.out; omega
                                    case rel => exact ⟨(wrap64 (x15_3 + 1)), (by first | rfl | (simp; done) | (simp [*]; done)), H', ⟨by have := HJ2.out; have := HJ13.out; have := HK3.out; omega⟩, ⟨by (with_reducible repeat (first | apply Kd.R_alloc | apply Kd.R_drewN | apply Kd.R_drew)); exact HO_5.out⟩, ⟨by (with_reducible repeat (first | apply Kd.R_alloc | apply Kd.R_drewN | apply Kd.R_drew)); exact HO_9.out⟩, ⟨by repeat (first | (with_reducible first | exact HB.out | apply below_alloc | apply pw_below_drewN | apply below_drew1) | exact HB.out)⟩⟩
                                  · replace c81 := Bool.eq_false_iff.mpr c81
                                    subst c81
                                    have H1 : (some false) = some r := by rw [if_neg (show ¬ (false = true) by decide)] at H; exact H
                                    clear H
                                    have H := H1
                                    clear H1
                                    obtain rfl := Option.some.inj H
                                    go_wp2_with (first | ((with_reducible refine gate_callee (f := 14) rfl ?_); refine goesL_ (some 102) rfl rfl Try.func14 (by kernel_rfl) rfl #[.slice Ao17 t240.length co17, .int .i64 x15_3] rfl (by (try simp only [List.map_toArray, List.map_cons, List.map_nil]); first | done | rfl | (simp only [List.length_drop, List.length_take]; rfl)) ?_; (with_reducible refine (impl_CanPay.calls k3 _ _ t240 x15_3 false t258 _ ?side1 ?side2 A44.out).mono ?_); (case side1 => repeat (first | exact (Kd.R_reads' HO_5.out).2.2 | (with_reducible refine Kd.C_alloc ?_ _) | (with_reducible refine Kd.C_drewN ?_ _) | (with_reducible refine Kd.C_drew ?_))); (case side2 => exact (Kd.R_reads' HO_5.out).2.1); rintro e w84 ⟨rfl, hb⟩; refine ⟨_, rfl, ?_⟩; have n0_ := Aside0.mk (Kd.R_below (by (with_reducible repeat (first | apply Kd.R_alloc | apply Kd.R_drewN | apply Kd.R_drew)); exact HO_5.out) hb); have n1_ := Aside0.mk (Kd.R_below (by (with_reducible repeat (first | apply Kd.R_alloc | apply Kd.R_drewN | apply Kd.R_drew)); exact HO_9.out) hb); have n2_ := Aside0.mk (below_step (by repeat (first | (with_reducible first | exact HB.out | apply below_alloc | apply pw_below_drewN | apply below_drew1) | exact HB.out)) hb); clear HO_5; clear HO_9; clear HB; have HO_5 := n0_; have HO_9 := n1_; have HB := n2_; clear n0_ n1_ n2_; (try clear hb); (try clear hb2); (try clear hk); (try clear hi); obtain ⟨Ao85, co85, eo85⟩ := Kd.R_slice HO_9.out; subst eo85) | (go_at_call 15; (with_reducible refine (spec_HasNumber.calls k3 _ _ t248 x15_3 t259 _ ?side1 ?side2 A46.out).mono ?_); (case side1 => repeat (first | exact (Kd.R_reads' HO_9.out).2.2 | (with_reducible refine Kd.C_alloc ?_ _) | (with_reducible refine Kd.C_drewN ?_ _) | (with_reducible refine Kd.C_drew ?_))); (case side2 => exact (Kd.R_reads' HO_9.out).2.1); rintro e w' ⟨rfl, ⟨nd, rfl⟩⟩))
                                    go_ret
                                    exact ⟨by first | rfl | (simp [errW_none, errW_some] <;> rfl) | (simp [*, errW_none, errW_some] <;> rfl), by repeat (first | (with_reducible first | exact HB.out | apply below_alloc | apply pw_below_drewN | apply below_drew1) | exact HB.out)⟩
                                · rw [if_neg c80] at H
                                  have c80b0 : (t253 == 6) = false := beq_eq_false_iff_ne.mpr c80
                                  have c80b1 : (t253 != 6) = true := bne_iff_ne.mpr c80
                                  have H' := Aside0.mk H
                                  clear H
                                  go_wp2_with (first | ((with_reducible refine gate_callee (f := 14) rfl ?_); refine goesL_ (some 102) rfl rfl Try.func14 (by kernel_rfl) rfl #[.slice Ao17 t240.length co17, .int .i64 x15_3] rfl (by (try simp only [List.map_toArray, List.map_cons, List.map_nil]); first | done | rfl | (simp only [List.length_drop, List.length_take]; rfl)) ?_; (with_reducible refine (impl_CanPay.calls k3 _ _ t240 x15_3 t257 t258 _ ?side1 ?side2 A44.out).mono ?_); (case side1 => repeat (first | exact (Kd.R_reads' HO_5.out).2.2 | (with_reducible refine Kd.C_alloc ?_ _) | (with_reducible refine Kd.C_drewN ?_ _) | (with_reducible refine Kd.C_drew ?_))); (case side2 => exact (Kd.R_reads' HO_5.out).2.1); rintro e w86 ⟨rfl, hb⟩; refine ⟨_, rfl, ?_⟩; have n0_ := Aside0.mk (Kd.R_below (by (with_reducible repeat (first | apply Kd.R_alloc | apply Kd.R_drewN | apply Kd.R_drew)); exact HO_5.out) hb); have n1_ := Aside0.mk (Kd.R_below (by (with_reducible repeat (first | apply Kd.R_alloc | apply Kd.R_drewN | apply Kd.R_drew)); exact HO_9.out) hb); have n2_ := Aside0.mk (below_step (by repeat (first | (with_reducible first | exact HB.out | apply below_alloc | apply pw_below_drewN | apply below_drew1) | exact HB.out)) hb); clear HO_5; clear HO_9; clear HB; have HO_5 := n0_; have HO_9 := n1_; have HB := n2_; clear n0_ n1_ n2_; (try clear hb); (try clear hb2); (try clear hk); (try clear hi); obtain ⟨Ao87, co87, eo87⟩ := Kd.R_slice HO_9.out; subst eo87) | (go_at_call 15; (with_reducible refine (spec_HasNumber.calls k3 _ _ t248 x15_3 t259 _ ?side1 ?side2 A46.out).mono ?_); (case side1 => repeat (first | exact (Kd.R_reads' HO_9.out).2.2 | (with_reducible refine Kd.C_alloc ?_ _) | (with_reducible refine Kd.C_drewN ?_ _) | (with_reducible refine Kd.C_drew ?_))); (case side2 => exact (Kd.R_reads' HO_9.out).2.1); rintro e w' ⟨rfl, ⟨nd, rfl⟩⟩))
                                  go_roundg k3
                                  case measure => have := HJ2.out; have := HJ13.out; have := HK3.out; omega
                                  case rel => exact ⟨(wrap64 (x15_3 + 1)), (by first | rfl | (simp; done) | (simp [*]; done)), H', ⟨by have := HJ2.out; have := HJ13.out; have := HK3.out; omega⟩, ⟨by (with_reducible repeat (first | apply Kd.R_alloc | apply Kd.R_drewN | apply Kd.R_drew)); exact HO_5.out⟩, ⟨by (with_reducible repeat (first | apply Kd.R_alloc | apply Kd.R_drewN | apply Kd.R_drew)); exact HO_9.out⟩, ⟨by repeat (first | (with_reducible first | exact HB.out | apply below_alloc | apply pw_below_drewN | apply below_drew1) | exact HB.out)⟩⟩
                          · rw [if_neg c45] at H
                            have c45b0 : (t258 == 0) = false := beq_eq_false_iff_ne.mpr c45
                            have c45b1 : (t258 != 0) = true := bne_iff_ne.mpr c45
                            obtain rfl := Option.some.inj H
                            go_wp2_with (first | ((with_reducible refine gate_callee (f := 14) rfl ?_); refine goesL_ (some 102) rfl rfl Try.func14 (by kernel_rfl) rfl #[.slice Ao17 t240.length co17, .int .i64 x15_3] rfl (by (try simp only [List.map_toArray, List.map_cons, List.map_nil]); first | done | rfl | (simp only [List.length_drop, List.length_take]; rfl)) ?_; (with_reducible refine (impl_CanPay.calls k3 _ _ t240 x15_3 t257 t258 _ ?side1 ?side2 A44.out).mono ?_); (case side1 => repeat (first | exact (Kd.R_reads' HO_5.out).2.2 | (with_reducible refine Kd.C_alloc ?_ _) | (with_reducible refine Kd.C_drewN ?_ _) | (with_reducible refine Kd.C_drew ?_))); (case side2 => exact (Kd.R_reads' HO_5.out).2.1); rintro e w88 ⟨rfl, hb⟩; refine ⟨_, rfl, ?_⟩; have n0_ := Aside0.mk (Kd.R_below (by (with_reducible repeat (first | apply Kd.R_alloc | apply Kd.R_drewN | apply Kd.R_drew)); exact HO_5.out) hb); have n1_ := Aside0.mk (Kd.R_below (by (with_reducible repeat (first | apply Kd.R_alloc | apply Kd.R_drewN | apply Kd.R_drew)); exact HO_9.out) hb); have n2_ := Aside0.mk (below_step (by repeat (first | (with_reducible first | exact HB.out | apply below_alloc | apply pw_below_drewN | apply below_drew1) | exact HB.out)) hb); clear HO_5; clear HO_9; clear HB; have HO_5 := n0_; have HO_9 := n1_; have HB := n2_; clear n0_ n1_ n2_; (try clear hb); (try clear hb2); (try clear hk); (try clear hi)))
                            go_ret
                            exact ⟨by first | rfl | (simp [errW_none, errW_some] <;> rfl) | (simp [*, errW_none, errW_some] <;> rfl), by repeat (first | (with_reducible first | exact HB.out | apply below_alloc | apply pw_below_drewN | apply below_drew1) | exact HB.out)⟩
                        · rw [if_neg c43] at H
                          have c43b0 : decide (x15_3 ≤ (wrap64 (20 + t243))) = false := decide_eq_false c43
                          clear c43
                          have HC89 := Aside0.mk H
                          clear H
                          go_upto_region 17 with (fail)
                          go_cut [168] (fun v168 wc => ∃ (kq : Nat) (x168_88 : Bool), v168 = .bool x168_88 ∧ Aside0 (laws_FnGaps.j3 kq l0 t240 x168_88 = some r) ∧ Aside0 (kq ≤ k3) ∧ Aside0 (Kd.R (Kd.int .i64) 2 wc w.heap.size (fun _ => True) (.slice Ao17 t240.length co17) t240) ∧ Aside0 (Below w.heap.size w wc))
                          case first =>
                            as_aux_lemma =>
                              have H := HC89.out
                              clear HC89
                              by_cases c90 : t253 = 0
                              · rw [if_pos c90] at H
                                have c90b0 : (t253 == 0) = true := beq_iff_eq.mpr c90
                                have c90b1 : (t253 != 0) = false := bne_eq_false_iff_eq.mpr c90
                                clear c90
                                (first | rw [c90b0] | (simp only [i64_w, i32_w]; rw [c90b0]) | skip)
                                by_cases c91 : t254 ≤ (wrap64 (20 + t243))
                                · rw [if_pos c91] at H
                                  have c91b0 : decide (t254 ≤ (wrap64 (20 + t243))) = true := decide_eq_true c91
                                  clear c91
                                  by_cases c92 : (t248.length : Int) = 0
                                  · rw [if_pos c92] at H
                                    have c92b0 : ((t248.length : Int) == 0) = true := beq_iff_eq.mpr c92
                                    have c92b1 : ((t248.length : Int) != 0) = false := bne_eq_false_iff_eq.mpr c92
                                    clear c92
                                    have H' := Aside0.mk H
                                    clear H
                                    obtain ⟨Ao93, co93, eo93⟩ := Kd.R_slice HO_9.out
                                    subst eo93
                                    go_wp2
                                    go_meet
                                    case rel => exact ⟨_, (true), (by first | rfl | (simp; done) | (simp [*]; done)), H', ⟨by have := HJ2.out; have := HJ13.out; have := HK3.out; first | omega | exact Nat.le_refl _⟩, ⟨by (with_reducible repeat (first | apply Kd.R_alloc | apply Kd.R_drewN | apply Kd.R_drew)); exact Kd.R_mono HO_5.out (fun _ hk => trivial)⟩, ⟨by repeat (first | (with_reducible first | exact HB.out | apply below_alloc | apply pw_below_drewN | apply below_drew1) | exact HB.out)⟩⟩
                                  · rw [if_neg c92] at H
                                    have c92b0 : ((t248.length : Int) == 0) = false := beq_eq_false_iff_ne.mpr c92
                                    have c92b1 : ((t248.length : Int) != 0) = true := bne_iff_ne.mpr c92
                                    have c92b2 : ¬ (t248 = []) := fun h_ => c92 (by rw [h_]; rfl)
                                    obtain ⟨ji94, hji94⟩ : ∃ j_ : Int, (wrap64 ((t248.length : Int) - 1)) = j_ := ⟨_, rfl⟩
                                    replace H : (if 0 ≤ (ji94) then (if (ji94) < (t248.length : Int) then (laws_FnGaps.j3 k3 l0 t240 ((rd t248 (ji94)) != t254)) else (none)) else (none)) = some r := by first | (rw [hji94] at H; exact H) | (simp only [hji94] at H ⊢; exact H)
                                    have hji94w : (IntKind.i64.wrap ((t248.length : Int) - 1)) = ji94 := (i64_w _).trans hji94
                                    by_cases c95 : 0 ≤ (ji94)
                                    · rw [if_pos c95] at H
                                      have c95b0 : decide (0 ≤ (ji94)) = true := decide_eq_true c95
                                      clear c95
                                      by_cases c96 : (ji94) < (t248.length : Int)
                                      · rw [if_pos c96] at H
                                        have c96b0 : decide ((ji94) < (t248.length : Int)) = true := decide_eq_true c96
                                        clear c96
                                        have H' := Aside0.mk H
                                        clear H
                                        obtain ⟨Ao97, co97, eo97⟩ := Kd.R_slice HO_9.out
                                        subst eo97
                                        have p260 : 0 ≤ ((ji94) : Int) := of_decide_eq_true (by first | (with_reducible assumption) | assumption)
                                        have q260 : (ji94) < (t248.length : Int) := of_decide_eq_true (by first | (with_reducible assumption) | assumption)
                                        obtain ⟨ad260, e260, hx260_0⟩ := Kd.at_int (Kd.R_reads' HO_9.out).2.2 (ji94) p260 q260
                                        cases e260
                                        replace p260 := eq_true p260
                                        replace q260 := eq_true q260
                                        go_wp2
                                        go_meet
                                        case rel => exact ⟨_, (((rd t248 (ji94)) != t254)), (by first | rfl | (simp; done) | (simp only [← hji94] <;> (first | rfl | simp)) | (simp [*]; done)), H', ⟨by have := HJ2.out; have := HJ13.out; have := HK3.out; first | omega | exact Nat.le_refl _⟩, ⟨by (with_reducible repeat (first | apply Kd.R_alloc | apply Kd.R_drewN | apply Kd.R_drew)); exact Kd.R_mono HO_5.out (fun _ hk => trivial)⟩, ⟨by repeat (first | (with_reducible first | exact HB.out | apply below_alloc | apply pw_below_drewN | apply below_drew1) | exact HB.out)⟩⟩
                                      · rw [if_neg c96] at H
                                        exact absurd H (by simp)
                                    · rw [if_neg c95] at H
                                      exact absurd H (by simp)
                                · rw [if_neg c91] at H
                                  have c91b0 : decide (t254 ≤ (wrap64 (20 + t243))) = false := decide_eq_false c91
                                  clear c91
                                  have H' := Aside0.mk H
                                  clear H
                                  go_wp2
                                  go_meet
                                  case rel => exact ⟨_, (false), (by first | rfl | (simp; done) | (simp [*]; done)), H', ⟨by have := HJ2.out; have := HJ13.out; have := HK3.out; first | omega | exact Nat.le_refl _⟩, ⟨by (with_reducible repeat (first | apply Kd.R_alloc | apply Kd.R_drewN | apply Kd.R_drew)); exact Kd.R_mono HO_5.out (fun _ hk => trivial)⟩, ⟨by repeat (first | (with_reducible first | exact HB.out | apply below_alloc | apply pw_below_drewN | apply below_drew1) | exact HB.out)⟩⟩
                              · rw [if_neg c90] at H
                                have c90b0 : (t253 == 0) = false := beq_eq_false_iff_ne.mpr c90
                                have c90b1 : (t253 != 0) = true := bne_iff_ne.mpr c90
                                (first | rw [c90b0] | (simp only [i64_w, i32_w]; rw [c90b0]) | skip)
                                have H' := Aside0.mk H
                                clear H
                                go_wp2
                                go_meet
                                case rel => exact ⟨_, (false), (by first | rfl | (simp; done) | (simp [*]; done)), H', ⟨by have := HJ2.out; have := HJ13.out; have := HK3.out; first | omega | exact Nat.le_refl _⟩, ⟨by (with_reducible repeat (first | apply Kd.R_alloc | apply Kd.R_drewN | apply Kd.R_drew)); exact Kd.R_mono HO_5.out (fun _ hk => trivial)⟩, ⟨by repeat (first | (with_reducible first | exact HB.out | apply below_alloc | apply pw_below_drewN | apply below_drew1) | exact HB.out)⟩⟩
                          case rest =>
                            as_aux_lemma =>
                              clear HC89
                              try clear c1
                              try clear c2
                              try clear p2
                              try clear q2
                              try clear hx2
                              try clear c3
                              try clear c4
                              try clear c5
                              try clear c6
                              try clear p6
                              try clear c7
                              try clear c8
                              try clear c9
                              try clear c10
                              try clear c11
                              try clear c12
                              try clear c14
                              try clear c22
                              try clear c22b0
                              try clear c22b1
                              try clear c23
                              try clear c23b0
                              try clear c23b1
                              try clear c25
                              try clear c26
                              try clear c26b0
                              try clear c26b1
                              try clear p26
                              try clear q26
                              try clear hx26
                              try clear c27
                              try clear c27b0
                              try clear c27b1
                              try clear c28
                              try clear c28b0
                              try clear c28b1
                              try clear c31
                              try clear c31b0
                              try clear c31b1
                              try clear c42
                              try clear c43
                              try clear c43b0
                              try clear c45
                              try clear c45b0
                              try clear c45b1
                              try clear c47
                              try clear c47b0
                              try clear c47b1
                              try clear c47b2
                              try clear c50
                              try clear c50b0
                              try clear c50b1
                              try clear c51
                              try clear c51b0
                              try clear c52
                              try clear c53
                              try clear c53b0
                              try clear c53b1
                              try clear c56
                              try clear c56b0
                              try clear c56b1
                              try clear c63
                              try clear c63b0
                              try clear c63b1
                              try clear c64
                              try clear p64
                              try clear c67
                              try clear c67b0
                              try clear c67b1
                              try clear c72
                              try clear c72b0
                              try clear c72b1
                              try clear c73
                              try clear c80
                              try clear c80b0
                              try clear c80b1
                              try clear c81
                              try clear c90
                              try clear c90b0
                              try clear c90b1
                              try clear c91
                              try clear c91b0
                              try clear c92
                              try clear c92b0
                              try clear c92b1
                              try clear c92b2
                              try clear c95
                              try clear c95b0
                              try clear c96
                              try clear c96b0
                              try clear hx260_0
                              try clear p2
                              try clear p260
                              try clear p6
                              try clear q260
                              obtain ⟨kq, x168_88, rfl, HA, HJ88, HO_5, HB⟩ := hcut
                              cases kq with
                              | zero => exact absurd HA.out (by simp [laws_FnGaps.j3])
                              | succ kj88 =>
                                have H := HA.out
                                clear HA
                                simp only [laws_FnGaps.j3] at H
                                by_cases c98 : x168_88 = true
                                · subst c98
                                  have H1 : (some false) = some r := by rw [if_pos rfl] at H; exact H
                                  clear H
                                  have H := H1
                                  clear H1
                                  obtain rfl := Option.some.inj H
                                  go_wp2
                                  go_ret
                                  exact ⟨by first | rfl | (simp [errW_none, errW_some] <;> rfl) | (simp [*, errW_none, errW_some] <;> rfl), by repeat (first | (with_reducible first | exact HB.out | apply below_alloc | apply pw_below_drewN | apply below_drew1) | exact HB.out)⟩
                                · replace c98 := Bool.eq_false_iff.mpr c98
                                  subst c98
                                  have H1 : ((spec_P6Pick.f l0 70).bind fun t261 => ((impl_LeastOver.f kj88 t240 t261).bind fun bt262 => ((spec_LeastOver.f kj88 t240 t261).bind fun bt264 => (if bt262.2 = bt264.2 then (if bt262.2 = 0 then (if bt262.1 = bt264.1 then (if bt264.1 < t261 then (laws_FnGaps.j4 kj88 t240 t261 bt264.1 true) else (if 0 < (t240.length : Int) then (laws_FnGaps.j4 kj88 t240 t261 bt264.1 (decide ((wrap64 (bt264.1 - t261)) ≥ (rd t240 0)))) else (none))) else (laws_FnGaps.j4 kj88 t240 t261 bt264.1 true)) else (laws_FnGaps.j4 kj88 t240 t261 bt264.1 true)) else (laws_FnGaps.j4 kj88 t240 t261 bt264.1 true))))) = some r := by rw [if_neg (show ¬ (false = true) by decide)] at H; exact H
                                  clear H
                                  have H := H1
                                  clear H1
                                  replace H := Option.bind_eq_some_iff.mp H
                                  obtain ⟨t261, A990, H⟩ := H
                                  replace H : ((impl_LeastOver.f kj88 t240 t261).bind fun bt262 => ((spec_LeastOver.f kj88 t240 t261).bind fun bt264 => (if bt262.2 = bt264.2 then (if bt262.2 = 0 then (if bt262.1 = bt264.1 then (if bt264.1 < t261 then (laws_FnGaps.j4 kj88 t240 t261 bt264.1 true) else (if 0 < (t240.length : Int) then (laws_FnGaps.j4 kj88 t240 t261 bt264.1 (decide ((wrap64 (bt264.1 - t261)) ≥ (rd t240 0)))) else (none))) else (laws_FnGaps.j4 kj88 t240 t261 bt264.1 true)) else (laws_FnGaps.j4 kj88 t240 t261 bt264.1 true)) else (laws_FnGaps.j4 kj88 t240 t261 bt264.1 true)))) = some r := H
                                  have A99 := Aside0.mk A990
                                  clear A990
                                  replace H := Option.bind_eq_some_iff.mp H
                                  obtain ⟨⟨t262, t263⟩, A1000, H⟩ := H
                                  replace H : ((spec_LeastOver.f kj88 t240 t261).bind fun bt264 => (if t263 = bt264.2 then (if t263 = 0 then (if t262 = bt264.1 then (if bt264.1 < t261 then (laws_FnGaps.j4 kj88 t240 t261 bt264.1 true) else (if 0 < (t240.length : Int) then (laws_FnGaps.j4 kj88 t240 t261 bt264.1 (decide ((wrap64 (bt264.1 - t261)) ≥ (rd t240 0)))) else (none))) else (laws_FnGaps.j4 kj88 t240 t261 bt264.1 true)) else (laws_FnGaps.j4 kj88 t240 t261 bt264.1 true)) else (laws_FnGaps.j4 kj88 t240 t261 bt264.1 true))) = some r := H
                                  have A100 := Aside0.mk A1000
                                  clear A1000
                                  replace H := Option.bind_eq_some_iff.mp H
                                  obtain ⟨⟨t264, t265⟩, A1010, H⟩ := H
                                  replace H : (if t263 = t265 then (if t263 = 0 then (if t262 = t264 then (if t264 < t261 then (laws_FnGaps.j4 kj88 t240 t261 t264 true) else (if 0 < (t240.length : Int) then (laws_FnGaps.j4 kj88 t240 t261 t264 (decide ((wrap64 (t264 - t261)) ≥ (rd t240 0)))) else (none))) else (laws_FnGaps.j4 kj88 t240 t261 t264 true)) else (laws_FnGaps.j4 kj88 t240 t261 t264 true)) else (laws_FnGaps.j4 kj88 t240 t261 t264 true)) = some r := H
                                  have A101 := Aside0.mk A1010
                                  clear A1010
                                  have HC102 := Aside0.mk H
                                  clear H
                                  go_upto_region 22 with (first | ((with_reducible refine gate_callee (f := 8) rfl ?_); refine goesL_ (some 170) rfl rfl Try.func8 (by kernel_rfl) rfl #[.slice A0 l0.length c0, .int .i64 70] rfl (by (try simp only [List.map_toArray, List.map_cons, List.map_nil]); first | done | rfl | (simp only [List.length_drop, List.length_take]; rfl)) ?_; (with_reducible refine (spec_P6Pick.calls _ _ l0 70 t261 _ ?side1 ?side2 A99.out).mono ?_); (case side1 => repeat (first | exact (Kd.C_below HR0.out HB.out) | (with_reducible refine Kd.C_alloc ?_ _) | (with_reducible refine Kd.C_drewN ?_ _) | (with_reducible refine Kd.C_drew ?_))); (case side2 => exact HC0.out); rintro e w103 ⟨rfl, hb⟩; refine ⟨_, rfl, ?_⟩; have n0_ := Aside0.mk (Kd.R_below (by (with_reducible repeat (first | apply Kd.R_alloc | apply Kd.R_drewN | apply Kd.R_drew)); exact HO_5.out) hb); have n1_ := Aside0.mk (below_step (by repeat (first | (with_reducible first | exact HB.out | apply below_alloc | apply pw_below_drewN | apply below_drew1) | exact HB.out)) hb); clear HO_5; clear HB; have HO_5 := n0_; have HB := n1_; clear n0_ n1_; (try clear hb); (try clear hb2); (try clear hk); (try clear hi)) | ((with_reducible refine gate_callee (f := 16) rfl ?_); refine goesL_ (some 174) rfl rfl Try.func16 (by kernel_rfl) rfl #[.slice Ao17 t240.length co17, .int .i64 t261] rfl (by (try simp only [List.map_toArray, List.map_cons, List.map_nil]); first | done | rfl | (simp only [List.length_drop, List.length_take]; rfl)) ?_; (with_reducible refine (impl_LeastOver.calls kj88 _ _ t240 t261 t262 t263 _ ?side1 ?side2 A100.out).mono ?_); (case side1 => repeat (first | exact (Kd.R_reads' HO_5.out).2.2 | (with_reducible refine Kd.C_alloc ?_ _) | (with_reducible refine Kd.C_drewN ?_ _) | (with_reducible refine Kd.C_drew ?_))); (case side2 => exact (Kd.R_reads' HO_5.out).2.1); rintro e w104 ⟨rfl, hb⟩; refine ⟨_, rfl, ?_⟩; have n0_ := Aside0.mk (Kd.R_below (by (with_reducible repeat (first | apply Kd.R_alloc | apply Kd.R_drewN | apply Kd.R_drew)); exact HO_5.out) hb); have n1_ := Aside0.mk (below_step (by repeat (first | (with_reducible first | exact HB.out | apply below_alloc | apply pw_below_drewN | apply below_drew1) | exact HB.out)) hb); clear HO_5; clear HB; have HO_5 := n0_; have HB := n1_; clear n0_ n1_; (try clear hb); (try clear hb2); (try clear hk); (try clear hi)) | ((with_reducible refine gate_callee (f := 17) rfl ?_); refine goesL_ (some 180) rfl rfl Try.func17 (by kernel_rfl) rfl #[.slice Ao17 t240.length co17, .int .i64 t261] rfl (by (try simp only [List.map_toArray, List.map_cons, List.map_nil]); first | done | rfl | (simp only [List.length_drop, List.length_take]; rfl)) ?_; (with_reducible refine (spec_LeastOver.calls kj88 _ _ t240 t261 t264 t265 _ ?side1 ?side2 A101.out).mono ?_); (case side1 => repeat (first | exact (Kd.R_reads' HO_5.out).2.2 | (with_reducible refine Kd.C_alloc ?_ _) | (with_reducible refine Kd.C_drewN ?_ _) | (with_reducible refine Kd.C_drew ?_))); (case side2 => exact (Kd.R_reads' HO_5.out).2.1); rintro e w105 ⟨rfl, hb⟩; refine ⟨_, rfl, ?_⟩; have n0_ := Aside0.mk (Kd.R_below (by (with_reducible repeat (first | apply Kd.R_alloc | apply Kd.R_drewN | apply Kd.R_drew)); exact HO_5.out) hb); have n1_ := Aside0.mk (below_step (by repeat (first | (with_reducible first | exact HB.out | apply below_alloc | apply pw_below_drewN | apply below_drew1) | exact HB.out)) hb); clear HO_5; clear HB; have HO_5 := n0_; have HB := n1_; clear n0_ n1_; (try clear hb); (try clear hb2); (try clear hk); (try clear hi)))
                                  (try simp only [Act.put, List.setIfInBounds_toArray, List.set_cons_zero, List.set_cons_succ])
                                  go_cut [208] (fun v208 wc => ∃ (kq : Nat) (x208_101 : Bool), v208 = .bool x208_101 ∧ Aside0 (laws_FnGaps.j4 kq t240 t261 t264 x208_101 = some r) ∧ Aside0 (kq ≤ kj88) ∧ Aside0 (Kd.R (Kd.int .i64) 2 wc w.heap.size (fun _ => True) (.slice Ao17 t240.length co17) t240) ∧ Aside0 (Below w.heap.size w wc))
                                  case first =>
                                    as_aux_lemma =>
                                      have H := HC102.out
                                      clear HC102
                                      by_cases c106 : t263 = t265
                                      · rw [if_pos c106] at H
                                        have c106b0 : (t263 == t265) = true := beq_iff_eq.mpr c106
                                        have c106b1 : (t263 != t265) = false := bne_eq_false_iff_eq.mpr c106
                                        clear c106
                                        (first | rw [c106b0] | (simp only [i64_w, i32_w]; rw [c106b0]) | skip)
                                        by_cases c107 : t263 = 0
                                        · rw [if_pos c107] at H
                                          have c107b0 : (t263 == 0) = true := beq_iff_eq.mpr c107
                                          have c107b1 : (t263 != 0) = false := bne_eq_false_iff_eq.mpr c107
                                          clear c107
                                          by_cases c108 : t262 = t264
                                          · rw [if_pos c108] at H
                                            have c108b0 : (t262 == t264) = true := beq_iff_eq.mpr c108
                                            have c108b1 : (t262 != t264) = false := bne_eq_false_iff_eq.mpr c108
                                            clear c108
                                            by_cases c109 : t264 < t261
                                            · rw [if_pos c109] at H
                                              have c109b0 : decide (t264 < t261) = true := decide_eq_true c109
                                              clear c109
                                              have H' := Aside0.mk H
                                              clear H
                                              go_wp2
                                              go_meet
                                              case rel => exact ⟨_, (true), (by first | rfl | (simp; done) | (simp [*]; done)), H', ⟨by have := HJ2.out; have := HJ13.out; have := HK3.out; have := HJ88.out; first | omega | exact Nat.le_refl _⟩, ⟨by (with_reducible repeat (first | apply Kd.R_alloc | apply Kd.R_drewN | apply Kd.R_drew)); exact HO_5.out⟩, ⟨by repeat (first | (with_reducible first | exact HB.out | apply below_alloc | apply pw_below_drewN | apply below_drew1) | exact HB.out)⟩⟩
                                            · rw [if_neg c109] at H
                                              have c109b0 : decide (t264 < t261) = false := decide_eq_false c109
                                              clear c109
                                              by_cases c110 : 0 < (t240.length : Int)
                                              · rw [if_pos c110] at H
                                                have c110b0 : decide (0 < (t240.length : Int)) = true := decide_eq_true c110
                                                have c110b1 : decide (0 < t240.length) = true := decide_eq_true (by omega)
                                                clear c110
                                                have H' := Aside0.mk H
                                                clear H
                                                have p266 : 0 ≤ (0 : Int) := (by omega)
                                                have q266 : 0 < (t240.length : Int) := of_decide_eq_true (by first | (with_reducible assumption) | assumption)
                                                obtain ⟨ad266, e266, hx266_0⟩ := Kd.at_int (Kd.R_reads' HO_5.out).2.2 0 p266 q266
                                                cases e266
                                                have qi266 : (0 < t240.length) = True := eq_true (by omega)
                                                (try rw [show ((0 : Int)).toNat = 0 from rfl] at hx266_0)
                                                (try rw [Addr.add_zero'] at hx266_0)
                                                replace p266 := eq_true p266
                                                replace q266 := eq_true q266
                                                go_wp2
                                                go_meet
                                                case rel => exact ⟨_, (decide ((wrap64 (t264 - t261)) ≥ (rd t240 0))), (by first | rfl | (simp; done) | (simp [*]; done)), H', ⟨by have := HJ2.out; have := HJ13.out; have := HK3.out; have := HJ88.out; first | omega | exact Nat.le_refl _⟩, ⟨by (with_reducible repeat (first | apply Kd.R_alloc | apply Kd.R_drewN | apply Kd.R_drew)); exact HO_5.out⟩, ⟨by repeat (first | (with_reducible first | exact HB.out | apply below_alloc | apply pw_below_drewN | apply below_drew1) | exact HB.out)⟩⟩
                                              · rw [if_neg c110] at H
                                                exact absurd H (by simp)
                                          · rw [if_neg c108] at H
                                            have c108b0 : (t262 == t264) = false := beq_eq_false_iff_ne.mpr c108
                                            have c108b1 : (t262 != t264) = true := bne_iff_ne.mpr c108
                                            have H' := Aside0.mk H
                                            clear H
                                            go_wp2
                                            go_meet
                                            case rel => exact ⟨_, (true), (by first | rfl | (simp; done) | (simp [*]; done)), H', ⟨by have := HJ2.out; have := HJ13.out; have := HK3.out; have := HJ88.out; first | omega | exact Nat.le_refl _⟩, ⟨by (with_reducible repeat (first | apply Kd.R_alloc | apply Kd.R_drewN | apply Kd.R_drew)); exact HO_5.out⟩, ⟨by repeat (first | (with_reducible first | exact HB.out | apply below_alloc | apply pw_below_drewN | apply below_drew1) | exact HB.out)⟩⟩
                                        · rw [if_neg c107] at H
                                          have c107b0 : (t263 == 0) = false := beq_eq_false_iff_ne.mpr c107
                                          have c107b1 : (t263 != 0) = true := bne_iff_ne.mpr c107
                                          have H' := Aside0.mk H
                                          clear H
                                          go_wp2
                                          go_meet
                                          case rel => exact ⟨_, (true), (by first | rfl | (simp; done) | (simp [*]; done)), H', ⟨by have := HJ2.out; have := HJ13.out; have := HK3.out; have := HJ88.out; first | omega | exact Nat.le_refl _⟩, ⟨by (with_reducible repeat (first | apply Kd.R_alloc | apply Kd.R_drewN | apply Kd.R_drew)); exact HO_5.out⟩, ⟨by repeat (first | (with_reducible first | exact HB.out | apply below_alloc | apply pw_below_drewN | apply below_drew1) | exact HB.out)⟩⟩
                                      · rw [if_neg c106] at H
                                        have c106b0 : (t263 == t265) = false := beq_eq_false_iff_ne.mpr c106
                                        have c106b1 : (t263 != t265) = true := bne_iff_ne.mpr c106
                                        (first | rw [c106b0] | (simp only [i64_w, i32_w]; rw [c106b0]) | skip)
                                        have H' := Aside0.mk H
                                        clear H
                                        go_wp2
                                        go_meet
                                        case rel => exact ⟨_, (true), (by first | rfl | (simp; done) | (simp [*]; done)), H', ⟨by have := HJ2.out; have := HJ13.out; have := HK3.out; have := HJ88.out; first | omega | exact Nat.le_refl _⟩, ⟨by (with_reducible repeat (first | apply Kd.R_alloc | apply Kd.R_drewN | apply Kd.R_drew)); exact HO_5.out⟩, ⟨by repeat (first | (with_reducible first | exact HB.out | apply below_alloc | apply pw_below_drewN | apply below_drew1) | exact HB.out)⟩⟩
                                  case rest =>
                                    as_aux_lemma =>
                                      clear HC102
                                      try clear c1
                                      try clear c2
                                      try clear p2
                                      try clear q2
                                      try clear hx2
                                      try clear qi2
                                      try clear c3
                                      try clear c4
                                      try clear c5
                                      try clear c6
                                      try clear p6
                                      try clear c7
                                      try clear c8
                                      try clear c9
                                      try clear c10
                                      try clear c11
                                      try clear c12
                                      try clear c14
                                      try clear c16
                                      try clear c17
                                      try clear c22
                                      try clear c22b0
                                      try clear c22b1
                                      try clear c23
                                      try clear c23b0
                                      try clear c23b1
                                      try clear c25
                                      try clear c26
                                      try clear c26b0
                                      try clear c26b1
                                      try clear p26
                                      try clear q26
                                      try clear hx26
                                      try clear qi26
                                      try clear c27
                                      try clear c27b0
                                      try clear c27b1
                                      try clear c28
                                      try clear c28b0
                                      try clear c28b1
                                      try clear c31
                                      try clear c31b0
                                      try clear c31b1
                                      try clear c42
                                      try clear c43
                                      try clear c43b0
                                      try clear c45
                                      try clear c45b0
                                      try clear c45b1
                                      try clear c47
                                      try clear c47b0
                                      try clear c47b1
                                      try clear c47b2
                                      try clear c50
                                      try clear c50b0
                                      try clear c50b1
                                      try clear c51
                                      try clear c51b0
                                      try clear c52
                                      try clear c53
                                      try clear c53b0
                                      try clear c53b1
                                      try clear c56
                                      try clear c56b0
                                      try clear c56b1
                                      try clear c63
                                      try clear c63b0
                                      try clear c63b1
                                      try clear c64
                                      try clear p64
                                      try clear c67
                                      try clear c67b0
                                      try clear c67b1
                                      try clear c72
                                      try clear c72b0
                                      try clear c72b1
                                      try clear c73
                                      try clear c80
                                      try clear c80b0
                                      try clear c80b1
                                      try clear c81
                                      try clear c90
                                      try clear c90b0
                                      try clear c90b1
                                      try clear c91
                                      try clear c91b0
                                      try clear c92
                                      try clear c92b0
                                      try clear c92b1
                                      try clear c92b2
                                      try clear c95
                                      try clear c95b0
                                      try clear c96
                                      try clear c96b0
                                      try clear c98
                                      try clear c106
                                      try clear c106b0
                                      try clear c106b1
                                      try clear c107
                                      try clear c107b0
                                      try clear c107b1
                                      try clear c108
                                      try clear c108b0
                                      try clear c108b1
                                      try clear c109
                                      try clear c109b0
                                      try clear c110
                                      try clear c110b0
                                      try clear c110b1
                                      try clear hx260_0
                                      try clear hx266_0
                                      try clear p2
                                      try clear p26
                                      try clear p260
                                      try clear p266
                                      try clear p6
                                      try clear p64
                                      try clear q2
                                      try clear q26
                                      try clear q260
                                      try clear q266
                                      obtain ⟨kq, x208_101, rfl, HA, HJ101, HO_5, HB⟩ := hcut
                                      cases kq with
                                      | zero => exact absurd HA.out (by simp [laws_FnGaps.j4])
                                      | succ kj101 =>
                                        have H := HA.out
                                        clear HA
                                        simp only [laws_FnGaps.j4] at H
                                        by_cases c111 : x208_101 = true
                                        · subst c111
                                          have H1 : (some false) = some r := by rw [if_pos rfl] at H; exact H
                                          clear H
                                          have H := H1
                                          clear H1
                                          obtain rfl := Option.some.inj H
                                          go_wp2
                                          go_ret
                                          exact ⟨by first | rfl | (simp [errW_none, errW_some] <;> rfl) | (simp [*, errW_none, errW_some] <;> rfl), by repeat (first | (with_reducible first | exact HB.out | apply below_alloc | apply pw_below_drewN | apply below_drew1) | exact HB.out)⟩
                                        · replace c111 := Bool.eq_false_iff.mpr c111
                                          subst c111
                                          have H1 : (laws_FnGaps.l1 kj101 t240 t264 t261) = some r := by rw [if_neg (show ¬ (false = true) by decide)] at H; exact H
                                          clear H
                                          have H := H1
                                          clear H1
                                          have H' := Aside0.mk H
                                          clear H
                                          go_wp2
                                          go_loopg [23] kj101 (fun kq v23 w' => ∃ (x23_6 : Int), v23 = .int .i64 x23_6 ∧ Aside0 (laws_FnGaps.l1 kq t240 t264 x23_6 = some r) ∧ Aside0 (kq ≤ kj101) ∧ Aside0 (Kd.R (Kd.int .i64) 2 w' w.heap.size (fun _ => True) (.slice Ao17 t240.length co17) t240) ∧ Aside0 (Below w.heap.size w w'))
                                          case atStart => exact ⟨(t261), (by first | rfl | (simp; done) | (simp [*]; done)), H', ⟨Nat.le_refl _⟩, ⟨by (with_reducible repeat (first | apply Kd.R_alloc | apply Kd.R_drewN | apply Kd.R_drew)); exact HO_5.out⟩, ⟨by repeat (first | (with_reducible first | exact HB.out | apply below_alloc | apply pw_below_drewN | apply below_drew1) | exact HB.out)⟩⟩
                                          case round =>
                                            as_aux_lemma =>
                                              clear H'
                                              try clear c1
                                              try clear c2
                                              try clear p2
                                              try clear q2
                                              try clear hx2
                                              try clear qi2
                                              try clear c3
                                              try clear c4
                                              try clear c5
                                              try clear c6
                                              try clear p6
                                              try clear c7
                                              try clear c8
                                              try clear c9
                                              try clear c10
                                              try clear c11
                                              try clear c12
                                              try clear c14
                                              try clear c16
                                              try clear c17
                                              try clear c22
                                              try clear c22b0
                                              try clear c22b1
                                              try clear c23
                                              try clear c23b0
                                              try clear c23b1
                                              try clear c25
                                              try clear c26
                                              try clear c26b0
                                              try clear c26b1
                                              try clear p26
                                              try clear q26
                                              try clear hx26
                                              try clear qi26
                                              try clear c27
                                              try clear c27b0
                                              try clear c27b1
                                              try clear c28
                                              try clear c28b0
                                              try clear c28b1
                                              try clear c31
                                              try clear c31b0
                                              try clear c31b1
                                              try clear c42
                                              try clear c43
                                              try clear c43b0
                                              try clear c45
                                              try clear c45b0
                                              try clear c45b1
                                              try clear c47
                                              try clear c47b0
                                              try clear c47b1
                                              try clear c47b2
                                              try clear c50
                                              try clear c50b0
                                              try clear c50b1
                                              try clear c51
                                              try clear c51b0
                                              try clear c52
                                              try clear c53
                                              try clear c53b0
                                              try clear c53b1
                                              try clear c56
                                              try clear c56b0
                                              try clear c56b1
                                              try clear c63
                                              try clear c63b0
                                              try clear c63b1
                                              try clear c64
                                              try clear p64
                                              try clear c67
                                              try clear c67b0
                                              try clear c67b1
                                              try clear c72
                                              try clear c72b0
                                              try clear c72b1
                                              try clear c73
                                              try clear c80
                                              try clear c80b0
                                              try clear c80b1
                                              try clear c81
                                              try clear c90
                                              try clear c90b0
                                              try clear c90b1
                                              try clear c91
                                              try clear c91b0
                                              try clear c92
                                              try clear c92b0
                                              try clear c92b1
                                              try clear c92b2
                                              try clear c95
                                              try clear c95b0
                                              try clear c96
                                              try clear c96b0
                                              try clear c98
                                              try clear c106
                                              try clear c106b0
                                              try clear c106b1
                                              try clear c107
                                              try clear c107b0
                                              try clear c107b1
                                              try clear c108
                                              try clear c108b0
                                              try clear c108b1
                                              try clear c109
                                              try clear c109b0
                                              try clear c110
                                              try clear c110b0
                                              try clear c110b1
                                              try clear c111
                                              try clear hx260_0
                                              try clear hx266_0
                                              try clear p2
                                              try clear p26
                                              try clear p260
                                              try clear p266
                                              try clear p6
                                              try clear p64
                                              try clear q2
                                              try clear q26
                                              try clear q260
                                              try clear q266
                                              obtain ⟨x23_6, rfl, HA, HK6, HO_5, HB⟩ := hrel
                                              cases gk with
                                              | zero => exact absurd HA.out (by simp [laws_FnGaps.l1])
                                              | succ k6 =>
                                                have H := HA.out
                                                clear HA
                                                simp only [laws_FnGaps.l1] at H
                                                by_cases c112 : x23_6 ≤ t264
                                                · rw [if_pos c112] at H
                                                  have c112b0 : decide (x23_6 ≤ t264) = true := decide_eq_true c112
                                                  clear c112
                                                  replace H := Option.bind_eq_some_iff.mp H
                                                  obtain ⟨⟨t267, t268⟩, A1130, H⟩ := H
                                                  replace H : (if t268 = 0 then (if (t267 != (x23_6 == t264)) = true then (some false) else (laws_FnGaps.l1 k6 t240 t264 (wrap64 (x23_6 + 1)))) else (some false)) = some r := H
                                                  have A113 := Aside0.mk A1130
                                                  clear A1130
                                                  by_cases c114 : t268 = 0
                                                  · rw [if_pos c114] at H
                                                    have c114b0 : (t268 == 0) = true := beq_iff_eq.mpr c114
                                                    have c114b1 : (t268 != 0) = false := bne_eq_false_iff_eq.mpr c114
                                                    clear c114
                                                    by_cases c115 : (t267 != (x23_6 == t264)) = true
                                                    · rw [if_pos c115] at H
                                                      have c115b0 : (t267 != (x23_6 == t264)) = true := c115
                                                      (try (have c115b1 : decide (t267 = (x23_6 == t264)) = false := by simpa using c115))
                                                      (try (have c115b2 : (t267 == (x23_6 == t264)) = false := by simpa using c115))
                                                      (try (have c115b3 : ¬ (t267 = (x23_6 == t264)) := by simpa using c115))
                                                      clear c115
                                                      obtain rfl := Option.some.inj H
                                                      go_wp2_with (first | ((with_reducible refine gate_callee (f := 14) rfl ?_); refine goesL_ (some 218) rfl rfl Try.func14 (by kernel_rfl) rfl #[.slice Ao17 t240.length co17, .int .i64 x23_6] rfl (by (try simp only [List.map_toArray, List.map_cons, List.map_nil]); first | done | rfl | (simp only [List.length_drop, List.length_take]; rfl)) ?_; (with_reducible refine (impl_CanPay.calls k6 _ _ t240 x23_6 t267 t268 _ ?side1 ?side2 A113.out).mono ?_); (case side1 => repeat (first | exact (Kd.R_reads' HO_5.out).2.2 | (with_reducible refine Kd.C_alloc ?_ _) | (with_reducible refine Kd.C_drewN ?_ _) | (with_reducible refine Kd.C_drew ?_))); (case side2 => exact (Kd.R_reads' HO_5.out).2.1); rintro e w116 ⟨rfl, hb⟩; refine ⟨_, rfl, ?_⟩; have n0_ := Aside0.mk (Kd.R_below (by (with_reducible repeat (first | apply Kd.R_alloc | apply Kd.R_drewN | apply Kd.R_drew)); exact HO_5.out) hb); have n1_ := Aside0.mk (below_step (by repeat (first | (with_reducible first | exact HB.out | apply below_alloc | apply pw_below_drewN | apply below_drew1) | exact HB.out)) hb); clear HO_5; clear HB; have HO_5 := n0_; have HB := n1_; clear n0_ n1_; (try clear hb); (try clear hb2); (try clear hk); (try clear hi)))
                                                      go_ret
                                                      exact ⟨by first | rfl | (simp [errW_none, errW_some] <;> rfl) | (simp [*, errW_none, errW_some] <;> rfl), by repeat (first | (with_reducible first | exact HB.out | apply below_alloc | apply pw_below_drewN | apply below_drew1) | exact HB.out)⟩
                                                    · rw [if_neg c115] at H
                                                      have c115b0 : (t267 != (x23_6 == t264)) = false := by simpa using c115
                                                      (try (have c115b1 : decide (t267 = (x23_6 == t264)) = true := by simpa using c115))
                                                      (try (have c115b2 : (t267 == (x23_6 == t264)) = true := by simpa using c115))
                                                      clear c115
                                                      have H' := Aside0.mk H
                                                      clear H
                                                      go_wp2_with (first | ((with_reducible refine gate_callee (f := 14) rfl ?_); refine goesL_ (some 218) rfl rfl Try.func14 (by kernel_rfl) rfl #[.slice Ao17 t240.length co17, .int .i64 x23_6] rfl (by (try simp only [List.map_toArray, List.map_cons, List.map_nil]); first | done | rfl | (simp only [List.length_drop, List.length_take]; rfl)) ?_; (with_reducible refine (impl_CanPay.calls k6 _ _ t240 x23_6 t267 t268 _ ?side1 ?side2 A113.out).mono ?_); (case side1 => repeat (first | exact (Kd.R_reads' HO_5.out).2.2 | (with_reducible refine Kd.C_alloc ?_ _) | (with_reducible refine Kd.C_drewN ?_ _) | (with_reducible refine Kd.C_drew ?_))); (case side2 => exact (Kd.R_reads' HO_5.out).2.1); rintro e w117 ⟨rfl, hb⟩; refine ⟨_, rfl, ?_⟩; have n0_ := Aside0.mk (Kd.R_below (by (with_reducible repeat (first | apply Kd.R_alloc | apply Kd.R_drewN | apply Kd.R_drew)); exact HO_5.out) hb); have n1_ := Aside0.mk (below_step (by repeat (first | (with_reducible first | exact HB.out | apply below_alloc | apply pw_below_drewN | apply below_drew1) | exact HB.out)) hb); clear HO_5; clear HB; have HO_5 := n0_; have HB := n1_; clear n0_ n1_; (try clear hb); (try clear hb2); (try clear hk); (try clear hi)))
                                                      go_roundg k6
                                                      case measure => have := HJ2.out; have := HJ13.out; have := HK3.out; have := HJ88.out; have := HJ101.out; have := HK6.out; omega
                                                      case rel => exact ⟨(wrap64 (x23_6 + 1)), (by first | rfl | (simp; done) | (simp [*]; done)), H', ⟨by have := HJ2.out; have := HJ13.out; have := HK3.out; have := HJ88.out; have := HJ101.out; have := HK6.out; omega⟩, ⟨by (with_reducible repeat (first | apply Kd.R_alloc | apply Kd.R_drewN | apply Kd.R_drew)); exact HO_5.out⟩, ⟨by repeat (first | (with_reducible first | exact HB.out | apply below_alloc | apply pw_below_drewN | apply below_drew1) | exact HB.out)⟩⟩
                                                  · rw [if_neg c114] at H
                                                    have c114b0 : (t268 == 0) = false := beq_eq_false_iff_ne.mpr c114
                                                    have c114b1 : (t268 != 0) = true := bne_iff_ne.mpr c114
                                                    obtain rfl := Option.some.inj H
                                                    go_wp2_with (first | ((with_reducible refine gate_callee (f := 14) rfl ?_); refine goesL_ (some 218) rfl rfl Try.func14 (by kernel_rfl) rfl #[.slice Ao17 t240.length co17, .int .i64 x23_6] rfl (by (try simp only [List.map_toArray, List.map_cons, List.map_nil]); first | done | rfl | (simp only [List.length_drop, List.length_take]; rfl)) ?_; (with_reducible refine (impl_CanPay.calls k6 _ _ t240 x23_6 t267 t268 _ ?side1 ?side2 A113.out).mono ?_); (case side1 => repeat (first | exact (Kd.R_reads' HO_5.out).2.2 | (with_reducible refine Kd.C_alloc ?_ _) | (with_reducible refine Kd.C_drewN ?_ _) | (with_reducible refine Kd.C_drew ?_))); (case side2 => exact (Kd.R_reads' HO_5.out).2.1); rintro e w118 ⟨rfl, hb⟩; refine ⟨_, rfl, ?_⟩; have n0_ := Aside0.mk (Kd.R_below (by (with_reducible repeat (first | apply Kd.R_alloc | apply Kd.R_drewN | apply Kd.R_drew)); exact HO_5.out) hb); have n1_ := Aside0.mk (below_step (by repeat (first | (with_reducible first | exact HB.out | apply below_alloc | apply pw_below_drewN | apply below_drew1) | exact HB.out)) hb); clear HO_5; clear HB; have HO_5 := n0_; have HB := n1_; clear n0_ n1_; (try clear hb); (try clear hb2); (try clear hk); (try clear hi)))
                                                    go_ret
                                                    exact ⟨by first | rfl | (simp [errW_none, errW_some] <;> rfl) | (simp [*, errW_none, errW_some] <;> rfl), by repeat (first | (with_reducible first | exact HB.out | apply below_alloc | apply pw_below_drewN | apply below_drew1) | exact HB.out)⟩
                                                · rw [if_neg c112] at H
                                                  have c112b0 : decide (x23_6 ≤ t264) = false := decide_eq_false c112
                                                  clear c112
                                                  obtain rfl := Option.some.inj H
                                                  go_wp2
                                                  go_ret
                                                  exact ⟨by first | rfl | (simp [errW_none, errW_some] <;> rfl) | (simp [*, errW_none, errW_some] <;> rfl), by repeat (first | (with_reducible first | exact HB.out | apply below_alloc | apply pw_below_drewN | apply below_drew1) | exact HB.out)⟩

/-- THE ONE PURE STATEMENT of laws_FnGaps: yours. -/
def laws_FnGaps.Pure : Prop := ∀ (l0 : List Int) (l1 : List Int), l0.length ≤ maxLen → l0.length * 1 ≤ 140737488351232 → (∀ x ∈ l0, (Lit.int .u8 x).wf = true) → l1.length ≤ maxLen → l1.length * 1 ≤ 140737488351232 → (∀ x ∈ l1, (Lit.int .u8 x).wf = true) → ∃ k, laws_FnGaps.f k l0 l1 = some true
theorem laws_FnGaps.walk (P : laws_FnGaps.Pure) (a0 : Option Addr) (len0 cap0 : Nat) (z0 : List Int) (a1 : Option Addr) (len1 cap1 : Nat) (z1 : List Int) (w : World) (w0 : (a0 = none ∧ len0 = 0 ∧ cap0 = 0 ∧ z0 = []) ∨ ∃ x, a0 = some x ∧ len0 ≤ cap0 ∧ cap0 ≤ maxLen ∧ z0.length = cap0 ∧ (∀ i, i < z0.length → w.cell? (x.add i) = some (.int .u8 (z0.getD i 0))) ∧ ∀ n ∈ z0, (Lit.int .u8 n).wf = true) (y0 : len0 * 1 ≤ 140737488351232) (w1 : (a1 = none ∧ len1 = 0 ∧ cap1 = 0 ∧ z1 = []) ∨ ∃ x, a1 = some x ∧ len1 ≤ cap1 ∧ cap1 ≤ maxLen ∧ z1.length = cap1 ∧ (∀ i, i < z1.length → w.cell? (x.add i) = some (.int .u8 (z1.getD i 0))) ∧ ∀ n ∈ z1, (Lit.int .u8 n).wf = true) (y1 : len1 * 1 ≤ 140737488351232) :
    Calls Try.prog 3 #[.slice a0 len0 cap0, .slice a1 len1 cap1] w fun e w' => e = .returned (.bool true) ∧ Below w.heap.size w w' := by
  obtain ⟨l0, rfl, hr0, hm0, hw0, hc0⟩ := ReadsInt.ofRowC w0
  obtain ⟨l1, rfl, hr1, hm1, hw1, hc1⟩ := ReadsInt.ofRowC w1
  obtain ⟨k, h⟩ := P l0 l1 hm0 y0 hw0 hm1 y1 hw1
  refine (laws_FnGaps.calls k _ _ l0 _ _ l1 true w (Kd.C_of_reads (d := (0 : Int)) (h1 := fun _ => rfl) hr0) hc0 (Kd.C_of_reads (d := (0 : Int)) (h1 := fun _ => rfl) hr1) hc1 h).mono ?_
  rintro e w' ⟨rfl, hd⟩
  exact ⟨rfl, hd⟩

end Go.Proofs.Ytlcnjpibfjhibaa.Q
