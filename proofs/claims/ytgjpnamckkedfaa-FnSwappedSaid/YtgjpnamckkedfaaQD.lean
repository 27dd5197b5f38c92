-- By a program of this session (wip/pr.py) that turns the kit's printer.
import Derived.Test.YtgjpnamckkedfaaHSwaps
import Derived.Test.YtgjpnamckkedfaaQ0
import Derived.Test.YtgjpnamckkedfaaQ1
import Derived.Test.YtgjpnamckkedfaaQ2
import Derived.Test.YtgjpnamckkedfaaQ3
import Derived.Test.YtgjpnamckkedfaaQ4
namespace Go.Proofs.Ytgjpnamckkedfaa.Q
open Go.RowKit Go.Proofs.YtgjpnamckkedfaaW.PrintWords Go.Proofs.YtgjpnamckkedfaaW.PrintLast Go.Proofs.YtgjpnamckkedfaaW.PrintMore
attribute [local go_sem] max2_int min2_int max_two min_two max_three min_three max_four min_four   -- for this text's walks alone
set_option linter.unusedVariables false
set_option linter.unusedSimpArgs false

/-! ### laws_FnSwapped: function 3 -/
mutual
def laws_FnSwapped.l0 : Nat → Int → List Int → List Int → List Int → Int → Option (Bool)
  | 0, _, _, _, _, _ => none
  | k + 1, x5, x6, x7, x8, x9 => if x9 < x5 then (if x7.length < 17592186044416 then (if 0 ≤ x9 then (if x9 < (x6.length : Int) then (if x8.length < 17592186044416 then (laws_FnSwapped.l0 k x5 x6 (x7 ++ [wrap64 ((wrap64 (7 * x9)) + 3)]) (x8 ++ [wrap64 ((wrap64 (7 * (rd x6 x9))) + 3)]) (wrap64 (x9 + 1))) else (none)) else (none)) else (none)) else (none)) else ((impl_SwapsFor.f x7 x8).bind fun bt222 => ((spec_SwapsFor.f k x7 x8).bind fun bt226 => ((impl_ExchangesFor.f k x7 x8).bind fun bt230 => ((spec_ExchangesFor.f k x7 x8).bind fun bt232 => (if bt222.2 = bt226.2 then (if bt222.2 = 0 then ((spec_A2SameLists.f k bt222.1 bt226.1).bind fun t234 => (if t234 = true then (if bt230.2 = bt232.2 then (if bt230.2 = 0 then (laws_FnSwapped.j1 k x5 x7 x8 bt226.1 bt232.1 (bt230.1 != bt232.1)) else (laws_FnSwapped.j1 k x5 x7 x8 bt226.1 bt232.1 true)) else (laws_FnSwapped.j1 k x5 x7 x8 bt226.1 bt232.1 true)) else (laws_FnSwapped.j1 k x5 x7 x8 bt226.1 bt232.1 true))) else (laws_FnSwapped.j1 k x5 x7 x8 bt226.1 bt232.1 true)) else (laws_FnSwapped.j1 k x5 x7 x8 bt226.1 bt232.1 true))))))
def laws_FnSwapped.j1 : Nat → Int → List Int → List Int → List (List Int) → Int → Bool → Option (Bool)
  | 0, _, _, _, _, _, _ => none
  | k + 1, x5, x7, x8, x12, x16, x107 => if x107 = true then (some false) else (laws_FnSwapped.l1 k x5 x7 x8 x12 x16 0 0)
def laws_FnSwapped.l1 : Nat → Int → List Int → List Int → List (List Int) → Int → Int → Int → Option (Bool)
  | 0, _, _, _, _, _, _, _ => none
  | k + 1, x5, x7, x8, x12, x16, x18, x19 => if x19 < (x12.length : Int) then (if 0 ≤ x19 then (if ((rd_L2 x12 x19).length : Int) < 2 then (laws_FnSwapped.j3 k x5 x7 x8 x12 x16 x18 x19 true) else (if x19 > 0 then (if 0 < ((rd_L2 x12 x19).length : Int) then (if 0 ≤ (wrap64 (x19 - 1)) then (if (wrap64 (x19 - 1)) < (x12.length : Int) then (if 0 < ((rd_L2 x12 (wrap64 (x19 - 1))).length : Int) then (laws_FnSwapped.j3 k x5 x7 x8 x12 x16 x18 x19 (decide ((rd (rd_L2 x12 x19) 0) ≤ (rd (rd_L2 x12 (wrap64 (x19 - 1))) 0)))) else (none)) else (none)) else (none)) else (none)) else (laws_FnSwapped.j3 k x5 x7 x8 x12 x16 x18 x19 false))) else (none)) else ((some (([] : List Int) : List Int)).bind fun y253 => (if y253.length + x8.length < 17592186044416 then (laws_FnSwapped.l3 k x5 x7 x8 x12 x16 x18 0 (y253 ++ x8) 0 0) else (none)))
def laws_FnSwapped.j3 : Nat → Int → List Int → List Int → List (List Int) → Int → Int → Int → Bool → Option (Bool)
  | 0, _, _, _, _, _, _, _, _ => none
  | k + 1, x5, x7, x8, x12, x16, x18, x19, x139 => if x139 = true then (some false) else (laws_FnSwapped.l2 k x5 x7 x8 x12 x16 x18 x19 0)
def laws_FnSwapped.l2 : Nat → Int → List Int → List Int → List (List Int) → Int → Int → Int → Int → Option (Bool)
  | 0, _, _, _, _, _, _, _, _ => none
  | k + 1, x5, x7, x8, x12, x16, x18, x19, x20 => if 0 ≤ x19 then (if x19 < (x12.length : Int) then (if x20 < ((rd_L2 x12 x19).length : Int) then (if ((rd_L2 x12 x19).length : Int) = 0 then (none) else (if 0 ≤ (Int.tmod (wrap64 (x20 + 1)) ((rd_L2 x12 x19).length : Int)) then (if (Int.tmod (wrap64 (x20 + 1)) ((rd_L2 x12 x19).length : Int)) < ((rd_L2 x12 x19).length : Int) then (if 0 ≤ x20 then (if 0 ≤ (rd (rd_L2 x12 x19) x20) then (if (rd (rd_L2 x12 x19) x20) < (x8.length : Int) then (if 0 ≤ (rd (rd_L2 x12 x19) (Int.tmod (wrap64 (x20 + 1)) ((rd_L2 x12 x19).length : Int))) then (if (rd (rd_L2 x12 x19) (Int.tmod (wrap64 (x20 + 1)) ((rd_L2 x12 x19).length : Int))) < (x7.length : Int) then (if (rd x8 (rd (rd_L2 x12 x19) x20)) = (rd x7 (rd (rd_L2 x12 x19) (Int.tmod (wrap64 (x20 + 1)) ((rd_L2 x12 x19).length : Int)))) then (if 0 < ((rd_L2 x12 x19).length : Int) then (if (rd (rd_L2 x12 x19) x20) < (rd (rd_L2 x12 x19) 0) then (some false) else (laws_FnSwapped.l2 k x5 x7 x8 x12 x16 x18 x19 (wrap64 (x20 + 1)))) else (none)) else (some false)) else (none)) else (none)) else (none)) else (none)) else (none)) else (none)) else (none))) else (laws_FnSwapped.l1 k x5 x7 x8 x12 x16 (wrap64 (x18 + ((rd_L2 x12 x19).length : Int))) (wrap64 (x19 + 1)))) else (none)) else (none)
def laws_FnSwapped.l3 : Nat → Int → List Int → List Int → List (List Int) → Int → Int → Int → List Int → Int → Int → Option (Bool)
  | 0, _, _, _, _, _, _, _, _, _, _ => none
  | k + 1, x5, x7, x8, x12, x16, x18, x22, x23, x24, x25 => if x25 < x5 then (if 0 ≤ x25 then (if x25 < (x8.length : Int) then (if x25 < (x7.length : Int) then (if (rd x8 x25) = (rd x7 x25) then (laws_FnSwapped.j6 k x5 x7 x8 x12 x16 x18 x22 x23 x24 x25) else (laws_FnSwapped.j6 k x5 x7 x8 x12 x16 x18 (wrap64 (x22 + 1)) x23 x24 x25)) else (none)) else (none)) else (none)) else (if x22 = x18 then (if x24 = x16 then (some (x16 == (wrap64 (x18 - (x12.length : Int))))) else (some false)) else (some false))
def laws_FnSwapped.j6 : Nat → Int → List Int → List Int → List (List Int) → Int → Int → Int → List Int → Int → Int → Option (Bool)
  | 0, _, _, _, _, _, _, _, _, _, _ => none
  | k + 1, x5, x7, x8, x12, x16, x18, x22, x23, x24, x25 => laws_FnSwapped.l4 k x5 x7 x8 x12 x16 x18 x22 x23 x24 x25 (wrap64 (x25 + 1))
def laws_FnSwapped.l4 : Nat → Int → List Int → List Int → List (List Int) → Int → Int → Int → List Int → Int → Int → Int → Option (Bool)
  | 0, _, _, _, _, _, _, _, _, _, _, _ => none
  | k + 1, x5, x7, x8, x12, x16, x18, x22, x23, x24, x25, x26 => if x26 < x5 then (if 0 ≤ x25 then (if x25 < (x23.length : Int) then (if x25 < (x7.length : Int) then (laws_FnSwapped.j8 k x5 x7 x8 x12 x16 x18 x22 x23 x24 x25 x26 ((rd x23 x25) != (rd x7 x25))) else (none)) else (none)) else (none)) else (laws_FnSwapped.j8 k x5 x7 x8 x12 x16 x18 x22 x23 x24 x25 x26 false)
def laws_FnSwapped.j8 : Nat → Int → List Int → List Int → List (List Int) → Int → Int → Int → List Int → Int → Int → Int → Bool → Option (Bool)
  | 0, _, _, _, _, _, _, _, _, _, _, _, _ => none
  | k + 1, x5, x7, x8, x12, x16, x18, x22, x23, x24, x25, x26, x235 => if x235 = true then (if 0 ≤ x26 then (if x26 < (x23.length : Int) then (if 0 ≤ x25 then (if x25 < (x7.length : Int) then (if (rd x23 x26) = (rd x7 x25) then (if x25 < (x23.length : Int) then (laws_FnSwapped.l4 k x5 x7 x8 x12 x16 x18 x22 ((x23.set (x26 : Int).toNat (rd x23 x25)).set (x25 : Int).toNat (rd x7 x25)) (wrap64 (x24 + 1)) x25 (wrap64 (x26 + 1))) else (none)) else (laws_FnSwapped.l4 k x5 x7 x8 x12 x16 x18 x22 x23 x24 x25 (wrap64 (x26 + 1)))) else (none)) else (none)) else (none)) else (none)) else (laws_FnSwapped.l3 k x5 x7 x8 x12 x16 x18 x22 x23 x24 (wrap64 (x25 + 1)))
end
def laws_FnSwapped.f (k : Nat) (l0 : List Int) (l1 : List Int) : Option (Bool) := (laws_a2Long.f l0 l1).bind fun t204 => (if t204 = true then (some true) else ((laws_a2At.f l0 0 9).bind fun t205 => ((spec_A2Order.f k l1 t205).bind fun t206 => (laws_FnSwapped.l0 k t205 t206 (([] : List Int)) (([] : List Int)) 0))))
theorem laws_FnSwapped.mono_l : ∀ k, (∀ y0 y1 y2 y3 y4, LeO (laws_FnSwapped.l0 k y0 y1 y2 y3 y4) (laws_FnSwapped.l0 (k + 1) y0 y1 y2 y3 y4)) ∧ (∀ y0 y1 y2 y3 y4 y5, LeO (laws_FnSwapped.j1 k y0 y1 y2 y3 y4 y5) (laws_FnSwapped.j1 (k + 1) y0 y1 y2 y3 y4 y5)) ∧ (∀ y0 y1 y2 y3 y4 y5 y6, LeO (laws_FnSwapped.l1 k y0 y1 y2 y3 y4 y5 y6) (laws_FnSwapped.l1 (k + 1) y0 y1 y2 y3 y4 y5 y6)) ∧ (∀ y0 y1 y2 y3 y4 y5 y6 y7, LeO (laws_FnSwapped.j3 k y0 y1 y2 y3 y4 y5 y6 y7) (laws_FnSwapped.j3 (k + 1) y0 y1 y2 y3 y4 y5 y6 y7)) ∧ (∀ y0 y1 y2 y3 y4 y5 y6 y7, LeO (laws_FnSwapped.l2 k y0 y1 y2 y3 y4 y5 y6 y7) (laws_FnSwapped.l2 (k + 1) y0 y1 y2 y3 y4 y5 y6 y7)) ∧ (∀ y0 y1 y2 y3 y4 y5 y6 y7 y8 y9, LeO (laws_FnSwapped.l3 k y0 y1 y2 y3 y4 y5 y6 y7 y8 y9) (laws_FnSwapped.l3 (k + 1) y0 y1 y2 y3 y4 y5 y6 y7 y8 y9)) ∧ (∀ y0 y1 y2 y3 y4 y5 y6 y7 y8 y9, LeO (laws_FnSwapped.j6 k y0 y1 y2 y3 y4 y5 y6 y7 y8 y9) (laws_FnSwapped.j6 (k + 1) y0 y1 y2 y3 y4 y5 y6 y7 y8 y9)) ∧ (∀ y0 y1 y2 y3 y4 y5 y6 y7 y8 y9 y10, LeO (laws_FnSwapped.l4 k y0 y1 y2 y3 y4 y5 y6 y7 y8 y9 y10) (laws_FnSwapped.l4 (k + 1) y0 y1 y2 y3 y4 y5 y6 y7 y8 y9 y10)) ∧ (∀ y0 y1 y2 y3 y4 y5 y6 y7 y8 y9 y10 y11, LeO (laws_FnSwapped.j8 k y0 y1 y2 y3 y4 y5 y6 y7 y8 y9 y10 y11) (laws_FnSwapped.j8 (k + 1) y0 y1 y2 y3 y4 y5 y6 y7 y8 y9 y10 y11))
  | 0 => ⟨fun _ _ _ _ _ r h => by simp [laws_FnSwapped.l0] at h, fun _ _ _ _ _ _ r h => by simp [laws_FnSwapped.j1] at h, fun _ _ _ _ _ _ _ r h => by simp [laws_FnSwapped.l1] at h, fun _ _ _ _ _ _ _ _ r h => by simp [laws_FnSwapped.j3] at h, fun _ _ _ _ _ _ _ _ r h => by simp [laws_FnSwapped.l2] at h, fun _ _ _ _ _ _ _ _ _ _ r h => by simp [laws_FnSwapped.l3] at h, fun _ _ _ _ _ _ _ _ _ _ r h => by simp [laws_FnSwapped.j6] at h, fun _ _ _ _ _ _ _ _ _ _ _ r h => by simp [laws_FnSwapped.l4] at h, fun _ _ _ _ _ _ _ _ _ _ _ _ r h => by simp [laws_FnSwapped.j8] at h⟩
  | k + 1 => by
    obtain ⟨ih0, ih1, ih2, ih3, ih4, ih5, ih6, ih7, ih8⟩ := laws_FnSwapped.mono_l k
    refine ⟨?_, ?_, ?_, ?_, ?_, ?_, ?_, ?_, ?_⟩
    · intro y0 y1 y2 y3 y4
      unfold laws_FnSwapped.l0
      repeat' first
      | (with_reducible exact ih0 _ _ _ _ _)
      | (with_reducible exact ih1 _ _ _ _ _ _)
      | (with_reducible exact ih2 _ _ _ _ _ _ _)
      | (with_reducible exact ih3 _ _ _ _ _ _ _ _)
      | (with_reducible exact ih4 _ _ _ _ _ _ _ _)
      | (with_reducible exact ih5 _ _ _ _ _ _ _ _ _ _)
      | (with_reducible exact ih6 _ _ _ _ _ _ _ _ _ _)
      | (with_reducible exact ih7 _ _ _ _ _ _ _ _ _ _ _)
      | (with_reducible exact ih8 _ _ _ _ _ _ _ _ _ _ _ _)
      | (with_reducible exact impl_ExchangesFor.mono _ _ _)
      | (with_reducible exact spec_A2Order.mono _ _ _)
      | (with_reducible exact spec_A2SameLists.mono _ _ _)
      | (with_reducible exact spec_ExchangesFor.mono _ _ _)
      | (with_reducible exact spec_SwapsFor.mono _ _ _)
      | (with_reducible exact LeO.refl _)
      | (with_reducible exact LeO.none _)
      | (with_reducible refine LeO.ite ?_ ?_)
      | (with_reducible refine LeO.bind ?_ (fun _ => ?_))
      | exact ih0 _ _ _ _ _
      | exact ih1 _ _ _ _ _ _
      | exact ih2 _ _ _ _ _ _ _
      | exact ih3 _ _ _ _ _ _ _ _
      | exact ih4 _ _ _ _ _ _ _ _
      | exact ih5 _ _ _ _ _ _ _ _ _ _
      | exact ih6 _ _ _ _ _ _ _ _ _ _
      | exact ih7 _ _ _ _ _ _ _ _ _ _ _
      | exact ih8 _ _ _ _ _ _ _ _ _ _ _ _
      | exact impl_ExchangesFor.mono _ _ _
      | exact spec_A2Order.mono _ _ _
      | exact spec_A2SameLists.mono _ _ _
      | exact spec_ExchangesFor.mono _ _ _
      | exact spec_SwapsFor.mono _ _ _
      | exact LeO.none _
      | refine LeO.ite ?_ ?_
      | refine LeO.bind ?_ (fun _ => ?_)
    · intro y0 y1 y2 y3 y4 y5
      unfold laws_FnSwapped.j1
      repeat' first
      | (with_reducible exact ih0 _ _ _ _ _)
      | (with_reducible exact ih1 _ _ _ _ _ _)
      | (with_reducible exact ih2 _ _ _ _ _ _ _)
      | (with_reducible exact ih3 _ _ _ _ _ _ _ _)
      | (with_reducible exact ih4 _ _ _ _ _ _ _ _)
      | (with_reducible exact ih5 _ _ _ _ _ _ _ _ _ _)
      | (with_reducible exact ih6 _ _ _ _ _ _ _ _ _ _)
      | (with_reducible exact ih7 _ _ _ _ _ _ _ _ _ _ _)
      | (with_reducible exact ih8 _ _ _ _ _ _ _ _ _ _ _ _)
      | (with_reducible exact impl_ExchangesFor.mono _ _ _)
      | (with_reducible exact spec_A2Order.mono _ _ _)
      | (with_reducible exact spec_A2SameLists.mono _ _ _)
      | (with_reducible exact spec_ExchangesFor.mono _ _ _)
      | (with_reducible exact spec_SwapsFor.mono _ _ _)
      | (with_reducible exact LeO.refl _)
      | (with_reducible exact LeO.none _)
      | (with_reducible refine LeO.ite ?_ ?_)
      | (with_reducible refine LeO.bind ?_ (fun _ => ?_))
      | exact ih0 _ _ _ _ _
      | exact ih1 _ _ _ _ _ _
      | exact ih2 _ _ _ _ _ _ _
      | exact ih3 _ _ _ _ _ _ _ _
      | exact ih4 _ _ _ _ _ _ _ _
      | exact ih5 _ _ _ _ _ _ _ _ _ _
      | exact ih6 _ _ _ _ _ _ _ _ _ _
      | exact ih7 _ _ _ _ _ _ _ _ _ _ _
      | exact ih8 _ _ _ _ _ _ _ _ _ _ _ _
      | exact impl_ExchangesFor.mono _ _ _
      | exact spec_A2Order.mono _ _ _
      | exact spec_A2SameLists.mono _ _ _
      | exact spec_ExchangesFor.mono _ _ _
      | exact spec_SwapsFor.mono _ _ _
      | exact LeO.none _
      | refine LeO.ite ?_ ?_
      | refine LeO.bind ?_ (fun _ => ?_)
    · intro y0 y1 y2 y3 y4 y5 y6
      unfold laws_FnSwapped.l1
      repeat' first
      | (with_reducible exact ih0 _ _ _ _ _)
      | (with_reducible exact ih1 _ _ _ _ _ _)
      | (with_reducible exact ih2 _ _ _ _ _ _ _)
      | (with_reducible exact ih3 _ _ _ _ _ _ _ _)
      | (with_reducible exact ih4 _ _ _ _ _ _ _ _)
      | (with_reducible exact ih5 _ _ _ _ _ _ _ _ _ _)
      | (with_reducible exact ih6 _ _ _ _ _ _ _ _ _ _)
      | (with_reducible exact ih7 _ _ _ _ _ _ _ _ _ _ _)
      | (with_reducible exact ih8 _ _ _ _ _ _ _ _ _ _ _ _)
      | (with_reducible exact impl_ExchangesFor.mono _ _ _)
      | (with_reducible exact spec_A2Order.mono _ _ _)
      | (with_reducible exact spec_A2SameLists.mono _ _ _)
      | (with_reducible exact spec_ExchangesFor.mono _ _ _)
      | (with_reducible exact spec_SwapsFor.mono _ _ _)
      | (with_reducible exact LeO.refl _)
      | (with_reducible exact LeO.none _)
      | (with_reducible refine LeO.ite ?_ ?_)
      | (with_reducible refine LeO.bind ?_ (fun _ => ?_))
      | exact ih0 _ _ _ _ _
      | exact ih1 _ _ _ _ _ _
      | exact ih2 _ _ _ _ _ _ _
      | exact ih3 _ _ _ _ _ _ _ _
      | exact ih4 _ _ _ _ _ _ _ _
      | exact ih5 _ _ _ _ _ _ _ _ _ _
      | exact ih6 _ _ _ _ _ _ _ _ _ _
      | exact ih7 _ _ _ _ _ _ _ _ _ _ _
      | exact ih8 _ _ _ _ _ _ _ _ _ _ _ _
      | exact impl_ExchangesFor.mono _ _ _
      | exact spec_A2Order.mono _ _ _
      | exact spec_A2SameLists.mono _ _ _
      | exact spec_ExchangesFor.mono _ _ _
      | exact spec_SwapsFor.mono _ _ _
      | exact LeO.none _
      | refine LeO.ite ?_ ?_
      | refine LeO.bind ?_ (fun _ => ?_)
    · intro y0 y1 y2 y3 y4 y5 y6 y7
      unfold laws_FnSwapped.j3
      repeat' first
      | (with_reducible exact ih0 _ _ _ _ _)
      | (with_reducible exact ih1 _ _ _ _ _ _)
      | (with_reducible exact ih2 _ _ _ _ _ _ _)
      | (with_reducible exact ih3 _ _ _ _ _ _ _ _)
      | (with_reducible exact ih4 _ _ _ _ _ _ _ _)
      | (with_reducible exact ih5 _ _ _ _ _ _ _ _ _ _)
      | (with_reducible exact ih6 _ _ _ _ _ _ _ _ _ _)
      | (with_reducible exact ih7 _ _ _ _ _ _ _ _ _ _ _)
      | (with_reducible exact ih8 _ _ _ _ _ _ _ _ _ _ _ _)
      | (with_reducible exact impl_ExchangesFor.mono _ _ _)
      | (with_reducible exact spec_A2Order.mono _ _ _)
      | (with_reducible exact spec_A2SameLists.mono _ _ _)
      | (with_reducible exact spec_ExchangesFor.mono _ _ _)
      | (with_reducible exact spec_SwapsFor.mono _ _ _)
      | (with_reducible exact LeO.refl _)
      | (with_reducible exact LeO.none _)
      | (with_reducible refine LeO.ite ?_ ?_)
      | (with_reducible refine LeO.bind ?_ (fun _ => ?_))
      | exact ih0 _ _ _ _ _
      | exact ih1 _ _ _ _ _ _
      | exact ih2 _ _ _ _ _ _ _
      | exact ih3 _ _ _ _ _ _ _ _
      | exact ih4 _ _ _ _ _ _ _ _
      | exact ih5 _ _ _ _ _ _ _ _ _ _
      | exact ih6 _ _ _ _ _ _ _ _ _ _
      | exact ih7 _ _ _ _ _ _ _ _ _ _ _
      | exact ih8 _ _ _ _ _ _ _ _ _ _ _ _
      | exact impl_ExchangesFor.mono _ _ _
      | exact spec_A2Order.mono _ _ _
      | exact spec_A2SameLists.mono _ _ _
      | exact spec_ExchangesFor.mono _ _ _
      | exact spec_SwapsFor.mono _ _ _
      | exact LeO.none _
      | refine LeO.ite ?_ ?_
      | refine LeO.bind ?_ (fun _ => ?_)
    · intro y0 y1 y2 y3 y4 y5 y6 y7
      unfold laws_FnSwapped.l2
      repeat' first
      | (with_reducible exact ih0 _ _ _ _ _)
      | (with_reducible exact ih1 _ _ _ _ _ _)
      | (with_reducible exact ih2 _ _ _ _ _ _ _)
      | (with_reducible exact ih3 _ _ _ _ _ _ _ _)
      | (with_reducible exact ih4 _ _ _ _ _ _ _ _)
      | (with_reducible exact ih5 _ _ _ _ _ _ _ _ _ _)
      | (with_reducible exact ih6 _ _ _ _ _ _ _ _ _ _)
      | (with_reducible exact ih7 _ _ _ _ _ _ _ _ _ _ _)
      | (with_reducible exact ih8 _ _ _ _ _ _ _ _ _ _ _ _)
      | (with_reducible exact impl_ExchangesFor.mono _ _ _)
      | (with_reducible exact spec_A2Order.mono _ _ _)
      | (with_reducible exact spec_A2SameLists.mono _ _ _)
      | (with_reducible exact spec_ExchangesFor.mono _ _ _)
      | (with_reducible exact spec_SwapsFor.mono _ _ _)
      | (with_reducible exact LeO.refl _)
      | (with_reducible exact LeO.none _)
      | (with_reducible refine LeO.ite ?_ ?_)
      | (with_reducible refine LeO.bind ?_ (fun _ => ?_))
      | exact ih0 _ _ _ _ _
      | exact ih1 _ _ _ _ _ _
      | exact ih2 _ _ _ _ _ _ _
      | exact ih3 _ _ _ _ _ _ _ _
      | exact ih4 _ _ _ _ _ _ _ _
      | exact ih5 _ _ _ _ _ _ _ _ _ _
      | exact ih6 _ _ _ _ _ _ _ _ _ _
      | exact ih7 _ _ _ _ _ _ _ _ _ _ _
      | exact ih8 _ _ _ _ _ _ _ _ _ _ _ _
      | exact impl_ExchangesFor.mono _ _ _
      | exact spec_A2Order.mono _ _ _
      | exact spec_A2SameLists.mono _ _ _
      | exact spec_ExchangesFor.mono _ _ _
      | exact spec_SwapsFor.mono _ _ _
      | exact LeO.none _
      | refine LeO.ite ?_ ?_
      | refine LeO.bind ?_ (fun _ => ?_)
    · intro y0 y1 y2 y3 y4 y5 y6 y7 y8 y9
      unfold laws_FnSwapped.l3
      repeat' first
      | (with_reducible exact ih0 _ _ _ _ _)
      | (with_reducible exact ih1 _ _ _ _ _ _)
      | (with_reducible exact ih2 _ _ _ _ _ _ _)
      | (with_reducible exact ih3 _ _ _ _ _ _ _ _)
      | (with_reducible exact ih4 _ _ _ _ _ _ _ _)
      | (with_reducible exact ih5 _ _ _ _ _ _ _ _ _ _)
      | (with_reducible exact ih6 _ _ _ _ _ _ _ _ _ _)
      | (with_reducible exact ih7 _ _ _ _ _ _ _ _ _ _ _)
      | (with_reducible exact ih8 _ _ _ _ _ _ _ _ _ _ _ _)
      | (with_reducible exact impl_ExchangesFor.mono _ _ _)
      | (with_reducible exact spec_A2Order.mono _ _ _)
      | (with_reducible exact spec_A2SameLists.mono _ _ _)
      | (with_reducible exact spec_ExchangesFor.mono _ _ _)
      | (with_reducible exact spec_SwapsFor.mono _ _ _)
      | (with_reducible exact LeO.refl _)
      | (with_reducible exact LeO.none _)
      | (with_reducible refine LeO.ite ?_ ?_)
      | (with_reducible refine LeO.bind ?_ (fun _ => ?_))
      | exact ih0 _ _ _ _ _
      | exact ih1 _ _ _ _ _ _
      | exact ih2 _ _ _ _ _ _ _
      | exact ih3 _ _ _ _ _ _ _ _
      | exact ih4 _ _ _ _ _ _ _ _
      | exact ih5 _ _ _ _ _ _ _ _ _ _
      | exact ih6 _ _ _ _ _ _ _ _ _ _
      | exact ih7 _ _ _ _ _ _ _ _ _ _ _
      | exact ih8 _ _ _ _ _ _ _ _ _ _ _ _
      | exact impl_ExchangesFor.mono _ _ _
      | exact spec_A2Order.mono _ _ _
      | exact spec_A2SameLists.mono _ _ _
      | exact spec_ExchangesFor.mono _ _ _
      | exact spec_SwapsFor.mono _ _ _
      | exact LeO.none _
      | refine LeO.ite ?_ ?_
      | refine LeO.bind ?_ (fun _ => ?_)
    · intro y0 y1 y2 y3 y4 y5 y6 y7 y8 y9
      unfold laws_FnSwapped.j6
      repeat' first
      | (with_reducible exact ih0 _ _ _ _ _)
      | (with_reducible exact ih1 _ _ _ _ _ _)
      | (with_reducible exact ih2 _ _ _ _ _ _ _)
      | (with_reducible exact ih3 _ _ _ _ _ _ _ _)
      | (with_reducible exact ih4 _ _ _ _ _ _ _ _)
      | (with_reducible exact ih5 _ _ _ _ _ _ _ _ _ _)
      | (with_reducible exact ih6 _ _ _ _ _ _ _ _ _ _)
      | (with_reducible exact ih7 _ _ _ _ _ _ _ _ _ _ _)
      | (with_reducible exact ih8 _ _ _ _ _ _ _ _ _ _ _ _)
      | (with_reducible exact impl_ExchangesFor.mono _ _ _)
      | (with_reducible exact spec_A2Order.mono _ _ _)
      | (with_reducible exact spec_A2SameLists.mono _ _ _)
      | (with_reducible exact spec_ExchangesFor.mono _ _ _)
      | (with_reducible exact spec_SwapsFor.mono _ _ _)
      | (with_reducible exact LeO.refl _)
      | (with_reducible exact LeO.none _)
      | (with_reducible refine LeO.ite ?_ ?_)
      | (with_reducible refine LeO.bind ?_ (fun _ => ?_))
      | exact ih0 _ _ _ _ _
      | exact ih1 _ _ _ _ _ _
      | exact ih2 _ _ _ _ _ _ _
      | exact ih3 _ _ _ _ _ _ _ _
      | exact ih4 _ _ _ _ _ _ _ _
      | exact ih5 _ _ _ _ _ _ _ _ _ _
      | exact ih6 _ _ _ _ _ _ _ _ _ _
      | exact ih7 _ _ _ _ _ _ _ _ _ _ _
      | exact ih8 _ _ _ _ _ _ _ _ _ _ _ _
      | exact impl_ExchangesFor.mono _ _ _
      | exact spec_A2Order.mono _ _ _
      | exact spec_A2SameLists.mono _ _ _
      | exact spec_ExchangesFor.mono _ _ _
      | exact spec_SwapsFor.mono _ _ _
      | exact LeO.none _
      | refine LeO.ite ?_ ?_
      | refine LeO.bind ?_ (fun _ => ?_)
    · intro y0 y1 y2 y3 y4 y5 y6 y7 y8 y9 y10
      unfold laws_FnSwapped.l4
      repeat' first
      | (with_reducible exact ih0 _ _ _ _ _)
      | (with_reducible exact ih1 _ _ _ _ _ _)
      | (with_reducible exact ih2 _ _ _ _ _ _ _)
      | (with_reducible exact ih3 _ _ _ _ _ _ _ _)
      | (with_reducible exact ih4 _ _ _ _ _ _ _ _)
      | (with_reducible exact ih5 _ _ _ _ _ _ _ _ _ _)
      | (with_reducible exact ih6 _ _ _ _ _ _ _ _ _ _)
      | (with_reducible exact ih7 _ _ _ _ _ _ _ _ _ _ _)
      | (with_reducible exact ih8 _ _ _ _ _ _ _ _ _ _ _ _)
      | (with_reducible exact impl_ExchangesFor.mono _ _ _)
      | (with_reducible exact spec_A2Order.mono _ _ _)
      | (with_reducible exact spec_A2SameLists.mono _ _ _)
      | (with_reducible exact spec_ExchangesFor.mono _ _ _)
      | (with_reducible exact spec_SwapsFor.mono _ _ _)
      | (with_reducible exact LeO.refl _)
      | (with_reducible exact LeO.none _)
      | (with_reducible refine LeO.ite ?_ ?_)
      | (with_reducible refine LeO.bind ?_ (fun _ => ?_))
      | exact ih0 _ _ _ _ _
      | exact ih1 _ _ _ _ _ _
      | exact ih2 _ _ _ _ _ _ _
      | exact ih3 _ _ _ _ _ _ _ _
      | exact ih4 _ _ _ _ _ _ _ _
      | exact ih5 _ _ _ _ _ _ _ _ _ _
      | exact ih6 _ _ _ _ _ _ _ _ _ _
      | exact ih7 _ _ _ _ _ _ _ _ _ _ _
      | exact ih8 _ _ _ _ _ _ _ _ _ _ _ _
      | exact impl_ExchangesFor.mono _ _ _
      | exact spec_A2Order.mono _ _ _
      | exact spec_A2SameLists.mono _ _ _
      | exact spec_ExchangesFor.mono _ _ _
      | exact spec_SwapsFor.mono _ _ _
      | exact LeO.none _
      | refine LeO.ite ?_ ?_
      | refine LeO.bind ?_ (fun _ => ?_)
    · intro y0 y1 y2 y3 y4 y5 y6 y7 y8 y9 y10 y11
      unfold laws_FnSwapped.j8
      repeat' first
      | (with_reducible exact ih0 _ _ _ _ _)
      | (with_reducible exact ih1 _ _ _ _ _ _)
      | (with_reducible exact ih2 _ _ _ _ _ _ _)
      | (with_reducible exact ih3 _ _ _ _ _ _ _ _)
      | (with_reducible exact ih4 _ _ _ _ _ _ _ _)
      | (with_reducible exact ih5 _ _ _ _ _ _ _ _ _ _)
      | (with_reducible exact ih6 _ _ _ _ _ _ _ _ _ _)
      | (with_reducible exact ih7 _ _ _ _ _ _ _ _ _ _ _)
      | (with_reducible exact ih8 _ _ _ _ _ _ _ _ _ _ _ _)
      | (with_reducible exact impl_ExchangesFor.mono _ _ _)
      | (with_reducible exact spec_A2Order.mono _ _ _)
      | (with_reducible exact spec_A2SameLists.mono _ _ _)
      | (with_reducible exact spec_ExchangesFor.mono _ _ _)
      | (with_reducible exact spec_SwapsFor.mono _ _ _)
      | (with_reducible exact LeO.refl _)
      | (with_reducible exact LeO.none _)
      | (with_reducible refine LeO.ite ?_ ?_)
      | (with_reducible refine LeO.bind ?_ (fun _ => ?_))
      | exact ih0 _ _ _ _ _
      | exact ih1 _ _ _ _ _ _
      | exact ih2 _ _ _ _ _ _ _
      | exact ih3 _ _ _ _ _ _ _ _
      | exact ih4 _ _ _ _ _ _ _ _
      | exact ih5 _ _ _ _ _ _ _ _ _ _
      | exact ih6 _ _ _ _ _ _ _ _ _ _
      | exact ih7 _ _ _ _ _ _ _ _ _ _ _
      | exact ih8 _ _ _ _ _ _ _ _ _ _ _ _
      | exact impl_ExchangesFor.mono _ _ _
      | exact spec_A2Order.mono _ _ _
      | exact spec_A2SameLists.mono _ _ _
      | exact spec_ExchangesFor.mono _ _ _
      | exact spec_SwapsFor.mono _ _ _
      | exact LeO.none _
      | refine LeO.ite ?_ ?_
      | refine LeO.bind ?_ (fun _ => ?_)
theorem laws_FnSwapped.mono : ∀ a0 a1 k, LeO (laws_FnSwapped.f k a0 a1) (laws_FnSwapped.f (k + 1) a0 a1) := by
  intro a0 a1 k
  obtain ⟨ih0, ih1, ih2, ih3, ih4, ih5, ih6, ih7, ih8⟩ := laws_FnSwapped.mono_l k
  unfold laws_FnSwapped.f
  repeat' first
      | (with_reducible exact ih0 _ _ _ _ _)
      | (with_reducible exact ih1 _ _ _ _ _ _)
      | (with_reducible exact ih2 _ _ _ _ _ _ _)
      | (with_reducible exact ih3 _ _ _ _ _ _ _ _)
      | (with_reducible exact ih4 _ _ _ _ _ _ _ _)
      | (with_reducible exact ih5 _ _ _ _ _ _ _ _ _ _)
      | (with_reducible exact ih6 _ _ _ _ _ _ _ _ _ _)
      | (with_reducible exact ih7 _ _ _ _ _ _ _ _ _ _ _)
      | (with_reducible exact ih8 _ _ _ _ _ _ _ _ _ _ _ _)
      | (with_reducible exact impl_ExchangesFor.mono _ _ _)
      | (with_reducible exact spec_A2Order.mono _ _ _)
      | (with_reducible exact spec_A2SameLists.mono _ _ _)
      | (with_reducible exact spec_ExchangesFor.mono _ _ _)
      | (with_reducible exact spec_SwapsFor.mono _ _ _)
      | (with_reducible exact LeO.refl _)
      | (with_reducible exact LeO.none _)
      | (with_reducible refine LeO.ite ?_ ?_)
      | (with_reducible refine LeO.bind ?_ (fun _ => ?_))
      | exact ih0 _ _ _ _ _
      | exact ih1 _ _ _ _ _ _
      | exact ih2 _ _ _ _ _ _ _
      | exact ih3 _ _ _ _ _ _ _ _
      | exact ih4 _ _ _ _ _ _ _ _
      | exact ih5 _ _ _ _ _ _ _ _ _ _
      | exact ih6 _ _ _ _ _ _ _ _ _ _
      | exact ih7 _ _ _ _ _ _ _ _ _ _ _
      | exact ih8 _ _ _ _ _ _ _ _ _ _ _ _
      | exact impl_ExchangesFor.mono _ _ _
      | exact spec_A2Order.mono _ _ _
      | exact spec_A2SameLists.mono _ _ _
      | exact spec_ExchangesFor.mono _ _ _
      | exact spec_SwapsFor.mono _ _ _
      | exact LeO.none _
      | refine LeO.ite ?_ ?_
      | refine LeO.bind ?_ (fun _ => ?_)
end Go.Proofs.Ytgjpnamckkedfaa.Q
