-- By a program of this session (wip/pr.py) that turns the kit's printer.
import Derived.Test.YtlcnjpibfjhibaaHFewS
import Derived.Test.YtlcnjpibfjhibaaQ0
import Derived.Test.YtlcnjpibfjhibaaQ1
import Derived.Test.YtlcnjpibfjhibaaQ2
import Derived.Test.YtlcnjpibfjhibaaQ4
namespace Go.Proofs.Ytlcnjpibfjhibaa.Q
open Go.RowKit Go.Proofs.YtlcnjpibfjhibaaW.PrintWords Go.Proofs.YtlcnjpibfjhibaaW.PrintLast Go.Proofs.YtlcnjpibfjhibaaW.PrintMore
attribute [local go_sem] max2_int min2_int max_two min_two max_three min_three max_four min_four   -- for this text's walks alone
set_option linter.unusedVariables false
set_option linter.unusedSimpArgs false

/-! ### laws_FnReach: function 4 -/
mutual
def laws_FnReach.j0 : Nat → List Int → List Int → Bool → Option (Bool)
  | 0, _, _, _ => none
  | k + 1, x0, x1, x36 => if x36 = true then (some true) else ((spec_P6Values.f k x0).bind fun t223 => ((spec_P6Pick.f x1 4).bind fun t226 => ((impl_ReachOf.f k t223 (wrap64 (1 + t226))).bind fun bt227 => ((spec_ReachOf.f k t223 (wrap64 (1 + t226))).bind fun bt229 => ((impl_ReachOf.f k t223 (wrap64 ((wrap64 (1 + t226)) - 1))).bind fun bt231 => ((impl_ReachOf.f k t223 0).bind fun bt233 => (if bt227.2 = bt229.2 then (if bt227.2 = 0 then (if bt227.1 = bt229.1 then (if bt231.2 = 0 then (if bt231.1 > bt229.1 then (laws_FnReach.j1 k t223 (wrap64 (1 + t226)) bt229.1 true) else (if bt233.2 = 0 then (if bt233.1 = 0 then (if 0 < (t223.length : Int) then (laws_FnReach.j1 k t223 (wrap64 (1 + t226)) bt229.1 ((decide (bt229.1 > 0)) != ((rd t223 0) == 1))) else (none)) else (laws_FnReach.j1 k t223 (wrap64 (1 + t226)) bt229.1 true)) else (laws_FnReach.j1 k t223 (wrap64 (1 + t226)) bt229.1 true))) else (laws_FnReach.j1 k t223 (wrap64 (1 + t226)) bt229.1 true)) else (laws_FnReach.j1 k t223 (wrap64 (1 + t226)) bt229.1 true)) else (laws_FnReach.j1 k t223 (wrap64 (1 + t226)) bt229.1 true)) else (laws_FnReach.j1 k t223 (wrap64 (1 + t226)) bt229.1 true))))))))
def laws_FnReach.j1 : Nat → List Int → Int → Int → Bool → Option (Bool)
  | 0, _, _, _, _ => none
  | k + 1, x5, x6, x9, x103 => if x103 = true then (some false) else (laws_FnReach.l0 k x5 x6 x9 1)
def laws_FnReach.l0 : Nat → List Int → Int → Int → Int → Option (Bool)
  | 0, _, _, _, _ => none
  | k + 1, x5, x6, x9, x15 => if x15 ≤ (wrap64 (x9 + 1)) then ((impl_FewestStamps.f x5 x15).bind fun bt236 => (if bt236.2.2 = 0 then (if ((decide (bt236.2.1 ≤ x6)) != (decide (x15 ≤ x9))) = true then (some false) else (laws_FnReach.l0 k x5 x6 x9 (wrap64 (x15 + 1)))) else (if (false != (decide (x15 ≤ x9))) = true then (some false) else (laws_FnReach.l0 k x5 x6 x9 (wrap64 (x15 + 1)))))) else ((impl_BestValue.f k x5 x6).bind fun bt241 => ((spec_BestValue.f k x5 x6).bind fun bt244 => (if bt241.2.2 = bt244.2.2 then (if bt241.2.2 = 0 then (if bt241.1 = bt244.1 then (if bt241.2.1 = bt244.2.1 then (if bt244.2.1 < x9 then (laws_FnReach.j3 k x5 x6 bt244.1 bt244.2.1 true) else (if bt244.1 < 1 then (laws_FnReach.j3 k x5 x6 bt244.1 bt244.2.1 true) else ((spec_HasNumber.f k x5 bt244.1).bind fun t247 => (laws_FnReach.j3 k x5 x6 bt244.1 bt244.2.1 t247)))) else (laws_FnReach.j3 k x5 x6 bt244.1 bt244.2.1 true)) else (laws_FnReach.j3 k x5 x6 bt244.1 bt244.2.1 true)) else (laws_FnReach.j3 k x5 x6 bt244.1 bt244.2.1 true)) else (laws_FnReach.j3 k x5 x6 bt244.1 bt244.2.1 true))))
def laws_FnReach.j3 : Nat → List Int → Int → Int → Int → Bool → Option (Bool)
  | 0, _, _, _, _, _ => none
  | k + 1, x5, x6, x22, x23, x172 => if x172 = true then (some false) else (laws_FnReach.l1 k x5 x6 x22 x23 1)
def laws_FnReach.l1 : Nat → List Int → Int → Int → Int → Int → Option (Bool)
  | 0, _, _, _, _, _ => none
  | k + 1, x5, x6, x22, x23, x25 => if x25 ≤ 12 then ((spec_HasNumber.f k x5 x25).bind fun t248 => (if t248 = true then (laws_FnReach.l1 k x5 x6 x22 x23 (wrap64 (x25 + 1))) else (laws_FnReach.l2 k x5 x6 x22 x23 x25 (([] : List Int)) 0))) else (some true)
def laws_FnReach.l2 : Nat → List Int → Int → Int → Int → Int → List Int → Int → Option (Bool)
  | 0, _, _, _, _, _, _, _ => none
  | k + 1, x5, x6, x22, x23, x25, x26, x27 => if x27 < (x5.length : Int) then (if 0 ≤ x27 then (if (rd x5 x27) < x25 then (if x26.length < 17592186044416 then (laws_FnReach.l2 k x5 x6 x22 x23 x25 (x26 ++ [rd x5 x27]) (wrap64 (x27 + 1))) else (none)) else (laws_FnReach.l2 k x5 x6 x22 x23 x25 x26 (wrap64 (x27 + 1)))) else (none)) else (if x26.length < 17592186044416 then ((some (x26 ++ [x25] : List Int)).bind fun y257 => (if 0 ≤ (x26.length : Int) then (if (x26.length : Int) ≤ (x5.length : Int) then ((some (x5.drop ((x26.length : Int) : Int).toNat : List Int)).bind fun y260 => (if y257.length + y260.length < 17592186044416 then ((impl_ReachOf.f k (y257 ++ y260) x6).bind fun bt267 => (if bt267.2 = 0 then (if bt267.1 > x23 then (some false) else (if bt267.1 = x23 then (if x25 < x22 then (some false) else (if x25 = x22 then (laws_FnReach.l1 k x5 x6 x22 x23 (wrap64 (x25 + 1))) else (laws_FnReach.l1 k x5 x6 x22 x23 (wrap64 (x25 + 1))))) else (if x25 = x22 then (some false) else (laws_FnReach.l1 k x5 x6 x22 x23 (wrap64 (x25 + 1)))))) else (some false))) else (none))) else (none)) else (none))) else (none))
end
def laws_FnReach.f (k : Nat) (l0 : List Int) (l1 : List Int) : Option (Bool) := (laws_f6big.f l0).bind fun t221 => (if t221 = true then (laws_FnReach.j0 k l0 l1 true) else ((laws_f6big.f l1).bind fun t222 => (laws_FnReach.j0 k l0 l1 t222)))
theorem laws_FnReach.mono_l : ∀ k, (∀ y0 y1 y2, LeO (laws_FnReach.j0 k y0 y1 y2) (laws_FnReach.j0 (k + 1) y0 y1 y2)) ∧ (∀ y0 y1 y2 y3, LeO (laws_FnReach.j1 k y0 y1 y2 y3) (laws_FnReach.j1 (k + 1) y0 y1 y2 y3)) ∧ (∀ y0 y1 y2 y3, LeO (laws_FnReach.l0 k y0 y1 y2 y3) (laws_FnReach.l0 (k + 1) y0 y1 y2 y3)) ∧ (∀ y0 y1 y2 y3 y4, LeO (laws_FnReach.j3 k y0 y1 y2 y3 y4) (laws_FnReach.j3 (k + 1) y0 y1 y2 y3 y4)) ∧ (∀ y0 y1 y2 y3 y4, LeO (laws_FnReach.l1 k y0 y1 y2 y3 y4) (laws_FnReach.l1 (k + 1) y0 y1 y2 y3 y4)) ∧ (∀ y0 y1 y2 y3 y4 y5 y6, LeO (laws_FnReach.l2 k y0 y1 y2 y3 y4 y5 y6) (laws_FnReach.l2 (k + 1) y0 y1 y2 y3 y4 y5 y6))
  | 0 => ⟨fun _ _ _ r h => by simp [laws_FnReach.j0] at h, fun _ _ _ _ r h => by simp [laws_FnReach.j1] at h, fun _ _ _ _ r h => by simp [laws_FnReach.l0] at h, fun _ _ _ _ _ r h => by simp [laws_FnReach.j3] at h, fun _ _ _ _ _ r h => by simp [laws_FnReach.l1] at h, fun _ _ _ _ _ _ _ r h => by simp [laws_FnReach.l2] at h⟩
  | k + 1 => by
    obtain ⟨ih0, ih1, ih2, ih3, ih4, ih5⟩ := laws_FnReach.mono_l k
    refine ⟨?_, ?_, ?_, ?_, ?_, ?_⟩
    · intro y0 y1 y2
      unfold laws_FnReach.j0
      repeat' first
      | (with_reducible exact ih0 _ _ _)
      | (with_reducible exact ih1 _ _ _ _)
      | (with_reducible exact ih2 _ _ _ _)
      | (with_reducible exact ih3 _ _ _ _ _)
      | (with_reducible exact ih4 _ _ _ _ _)
      | (with_reducible exact ih5 _ _ _ _ _ _ _)
      | (with_reducible exact impl_BestValue.mono _ _ _)
      | (with_reducible exact impl_ReachOf.mono _ _ _)
      | (with_reducible exact spec_BestValue.mono _ _ _)
      | (with_reducible exact spec_HasNumber.mono _ _ _)
      | (with_reducible exact spec_P6Values.mono _ _)
      | (with_reducible exact spec_ReachOf.mono _ _ _)
      | (with_reducible exact LeO.refl _)
      | (with_reducible exact LeO.none _)
      | (with_reducible refine LeO.ite ?_ ?_)
      | (with_reducible refine LeO.bind ?_ (fun _ => ?_))
      | exact ih0 _ _ _
      | exact ih1 _ _ _ _
      | exact ih2 _ _ _ _
      | exact ih3 _ _ _ _ _
      | exact ih4 _ _ _ _ _
      | exact ih5 _ _ _ _ _ _ _
      | exact impl_BestValue.mono _ _ _
      | exact impl_ReachOf.mono _ _ _
      | exact spec_BestValue.mono _ _ _
      | exact spec_HasNumber.mono _ _ _
      | exact spec_P6Values.mono _ _
      | exact spec_ReachOf.mono _ _ _
      | exact LeO.none _
      | refine LeO.ite ?_ ?_
      | refine LeO.bind ?_ (fun _ => ?_)
    · intro y0 y1 y2 y3
      unfold laws_FnReach.j1
      repeat' first
      | (with_reducible exact ih0 _ _ _)
      | (with_reducible exact ih1 _ _ _ _)
      | (with_reducible exact ih2 _ _ _ _)
      | (with_reducible exact ih3 _ _ _ _ _)
      | (with_reducible exact ih4 _ _ _ _ _)
      | (with_reducible exact ih5 _ _ _ _ _ _ _)
      | (with_reducible exact impl_BestValue.mono _ _ _)
      | (with_reducible exact impl_ReachOf.mono _ _ _)
      | (with_reducible exact spec_BestValue.mono _ _ _)
      | (with_reducible exact spec_HasNumber.mono _ _ _)
      | (with_reducible exact spec_P6Values.mono _ _)
      | (with_reducible exact spec_ReachOf.mono _ _ _)
      | (with_reducible exact LeO.refl _)
      | (with_reducible exact LeO.none _)
      | (with_reducible refine LeO.ite ?_ ?_)
      | (with_reducible refine LeO.bind ?_ (fun _ => ?_))
      | exact ih0 _ _ _
      | exact ih1 _ _ _ _
      | exact ih2 _ _ _ _
      | exact ih3 _ _ _ _ _
      | exact ih4 _ _ _ _ _
      | exact ih5 _ _ _ _ _ _ _
      | exact impl_BestValue.mono _ _ _
      | exact impl_ReachOf.mono _ _ _
      | exact spec_BestValue.mono _ _ _
      | exact spec_HasNumber.mono _ _ _
      | exact spec_P6Values.mono _ _
      | exact spec_ReachOf.mono _ _ _
      | exact LeO.none _
      | refine LeO.ite ?_ ?_
      | refine LeO.bind ?_ (fun _ => ?_)
    · intro y0 y1 y2 y3
      unfold laws_FnReach.l0
      repeat' first
      | (with_reducible exact ih0 _ _ _)
      | (with_reducible exact ih1 _ _ _ _)
      | (with_reducible exact ih2 _ _ _ _)
      | (with_reducible exact ih3 _ _ _ _ _)
      | (with_reducible exact ih4 _ _ _ _ _)
      | (with_reducible exact ih5 _ _ _ _ _ _ _)
      | (with_reducible exact impl_BestValue.mono _ _ _)
      | (with_reducible exact impl_ReachOf.mono _ _ _)
      | (with_reducible exact spec_BestValue.mono _ _ _)
      | (with_reducible exact spec_HasNumber.mono _ _ _)
      | (with_reducible exact spec_P6Values.mono _ _)
      | (with_reducible exact spec_ReachOf.mono _ _ _)
      | (with_reducible exact LeO.refl _)
      | (with_reducible exact LeO.none _)
      | (with_reducible refine LeO.ite ?_ ?_)
      | (with_reducible refine LeO.bind ?_ (fun _ => ?_))
      | exact ih0 _ _ _
      | exact ih1 _ _ _ _
      | exact ih2 _ _ _ _
      | exact ih3 _ _ _ _ _
      | exact ih4 _ _ _ _ _
      | exact ih5 _ _ _ _ _ _ _
      | exact impl_BestValue.mono _ _ _
      | exact impl_ReachOf.mono _ _ _
      | exact spec_BestValue.mono _ _ _
      | exact spec_HasNumber.mono _ _ _
      | exact spec_P6Values.mono _ _
      | exact spec_ReachOf.mono _ _ _
      | exact LeO.none _
      | refine LeO.ite ?_ ?_
      | refine LeO.bind ?_ (fun _ => ?_)
    · intro y0 y1 y2 y3 y4
      unfold laws_FnReach.j3
      repeat' first
      | (with_reducible exact ih0 _ _ _)
      | (with_reducible exact ih1 _ _ _ _)
      | (with_reducible exact ih2 _ _ _ _)
      | (with_reducible exact ih3 _ _ _ _ _)
      | (with_reducible exact ih4 _ _ _ _ _)
      | (with_reducible exact ih5 _ _ _ _ _ _ _)
      | (with_reducible exact impl_BestValue.mono _ _ _)
      | (with_reducible exact impl_ReachOf.mono _ _ _)
      | (with_reducible exact spec_BestValue.mono _ _ _)
      | (with_reducible exact spec_HasNumber.mono _ _ _)
      | (with_reducible exact spec_P6Values.mono _ _)
      | (with_reducible exact spec_ReachOf.mono _ _ _)
      | (with_reducible exact LeO.refl _)
      | (with_reducible exact LeO.none _)
      | (with_reducible refine LeO.ite ?_ ?_)
      | (with_reducible refine LeO.bind ?_ (fun _ => ?_))
      | exact ih0 _ _ _
      | exact ih1 _ _ _ _
      | exact ih2 _ _ _ _
      | exact ih3 _ _ _ _ _
      | exact ih4 _ _ _ _ _
      | exact ih5 _ _ _ _ _ _ _
      | exact impl_BestValue.mono _ _ _
      | exact impl_ReachOf.mono _ _ _
      | exact spec_BestValue.mono _ _ _
      | exact spec_HasNumber.mono _ _ _
      | exact spec_P6Values.mono _ _
      | exact spec_ReachOf.mono _ _ _
      | exact LeO.none _
      | refine LeO.ite ?_ ?_
      | refine LeO.bind ?_ (fun _ => ?_)
    · intro y0 y1 y2 y3 y4
      unfold laws_FnReach.l1
      repeat' first
      | (with_reducible exact ih0 _ _ _)
      | (with_reducible exact ih1 _ _ _ _)
      | (with_reducible exact ih2 _ _ _ _)
      | (with_reducible exact ih3 _ _ _ _ _)
      | (with_reducible exact ih4 _ _ _ _ _)
      | (with_reducible exact ih5 _ _ _ _ _ _ _)
      | (with_reducible exact impl_BestValue.mono _ _ _)
      | (with_reducible exact impl_ReachOf.mono _ _ _)
      | (with_reducible exact spec_BestValue.mono _ _ _)
      | (with_reducible exact spec_HasNumber.mono _ _ _)
      | (with_reducible exact spec_P6Values.mono _ _)
      | (with_reducible exact spec_ReachOf.mono _ _ _)
      | (with_reducible exact LeO.refl _)
      | (with_reducible exact LeO.none _)
      | (with_reducible refine LeO.ite ?_ ?_)
      | (with_reducible refine LeO.bind ?_ (fun _ => ?_))
      | exact ih0 _ _ _
      | exact ih1 _ _ _ _
      | exact ih2 _ _ _ _
      | exact ih3 _ _ _ _ _
      | exact ih4 _ _ _ _ _
      | exact ih5 _ _ _ _ _ _ _
      | exact impl_BestValue.mono _ _ _
      | exact impl_ReachOf.mono _ _ _
      | exact spec_BestValue.mono _ _ _
      | exact spec_HasNumber.mono _ _ _
      | exact spec_P6Values.mono _ _
      | exact spec_ReachOf.mono _ _ _
      | exact LeO.none _
      | refine LeO.ite ?_ ?_
      | refine LeO.bind ?_ (fun _ => ?_)
    · intro y0 y1 y2 y3 y4 y5 y6
      unfold laws_FnReach.l2
      repeat' first
      | (with_reducible exact ih0 _ _ _)
      | (with_reducible exact ih1 _ _ _ _)
      | (with_reducible exact ih2 _ _ _ _)
      | (with_reducible exact ih3 _ _ _ _ _)
      | (with_reducible exact ih4 _ _ _ _ _)
      | (with_reducible exact ih5 _ _ _ _ _ _ _)
      | (with_reducible exact impl_BestValue.mono _ _ _)
      | (with_reducible exact impl_ReachOf.mono _ _ _)
      | (with_reducible exact spec_BestValue.mono _ _ _)
      | (with_reducible exact spec_HasNumber.mono _ _ _)
      | (with_reducible exact spec_P6Values.mono _ _)
      | (with_reducible exact spec_ReachOf.mono _ _ _)
      | (with_reducible exact LeO.refl _)
      | (with_reducible exact LeO.none _)
      | (with_reducible refine LeO.ite ?_ ?_)
      | (with_reducible refine LeO.bind ?_ (fun _ => ?_))
      | exact ih0 _ _ _
      | exact ih1 _ _ _ _
      | exact ih2 _ _ _ _
      | exact ih3 _ _ _ _ _
      | exact ih4 _ _ _ _ _
      | exact ih5 _ _ _ _ _ _ _
      | exact impl_BestValue.mono _ _ _
      | exact impl_ReachOf.mono _ _ _
      | exact spec_BestValue.mono _ _ _
      | exact spec_HasNumber.mono _ _ _
      | exact spec_P6Values.mono _ _
      | exact spec_ReachOf.mono _ _ _
      | exact LeO.none _
      | refine LeO.ite ?_ ?_
      | refine LeO.bind ?_ (fun _ => ?_)
theorem laws_FnReach.mono : ∀ a0 a1 k, LeO (laws_FnReach.f k a0 a1) (laws_FnReach.f (k + 1) a0 a1) := by
  intro a0 a1 k
  obtain ⟨ih0, ih1, ih2, ih3, ih4, ih5⟩ := laws_FnReach.mono_l k
  unfold laws_FnReach.f
  repeat' first
      | (with_reducible exact ih0 _ _ _)
      | (with_reducible exact ih1 _ _ _ _)
      | (with_reducible exact ih2 _ _ _ _)
      | (with_reducible exact ih3 _ _ _ _ _)
      | (with_reducible exact ih4 _ _ _ _ _)
      | (with_reducible exact ih5 _ _ _ _ _ _ _)
      | (with_reducible exact impl_BestValue.mono _ _ _)
      | (with_reducible exact impl_ReachOf.mono _ _ _)
      | (with_reducible exact spec_BestValue.mono _ _ _)
      | (with_reducible exact spec_HasNumber.mono _ _ _)
      | (with_reducible exact spec_P6Values.mono _ _)
      | (with_reducible exact spec_ReachOf.mono _ _ _)
      | (with_reducible exact LeO.refl _)
      | (with_reducible exact LeO.none _)
      | (with_reducible refine LeO.ite ?_ ?_)
      | (with_reducible refine LeO.bind ?_ (fun _ => ?_))
      | exact ih0 _ _ _
      | exact ih1 _ _ _ _
      | exact ih2 _ _ _ _
      | exact ih3 _ _ _ _ _
      | exact ih4 _ _ _ _ _
      | exact ih5 _ _ _ _ _ _ _
      | exact impl_BestValue.mono _ _ _
      | exact impl_ReachOf.mono _ _ _
      | exact spec_BestValue.mono _ _ _
      | exact spec_HasNumber.mono _ _ _
      | exact spec_P6Values.mono _ _
      | exact spec_ReachOf.mono _ _ _
      | exact LeO.none _
      | refine LeO.ite ?_ ?_
      | refine LeO.bind ?_ (fun _ => ?_)
def laws_FnReach.T32 : Bool × List (List Nat × List Nat) := (true, [([], []), ([], []), ([1], [1]), ([0, 2], [0, 2]), ([], []), ([], []), ([4, 5], [4, 5]), ([3, 6, 3], [3, 6]), ([7, 7, 0, 1, 2, 3, 4, 5, 6, 7], [0, 7])])
def laws_FnReach.B32 : List Nat := [0, 0, 2, 7, 0, 0, 48, 127, 255]
theorem laws_FnReach.tab32 : rtab .any (opsOf Try.f4 32) = laws_FnReach.T32 := by kernel_rfl
theorem laws_FnReach.bits32 : waitsOk laws_FnReach.T32.2 laws_FnReach.B32 = true := by kernel_rfl
set_option maxHeartbeats 8000000 in
set_option maxRecDepth 100000 in
theorem laws_FnReach.calls (k : Nat) (A0 : Option Addr) (c0 : Nat) (l0 : List Int) (A1 : Option Addr) (c1 : Nat) (l1 : List Int) (r : Bool) (w : World) (hr0 : Kd.C (Kd.int .u8) w A0 l0.length l0) (hc0 : l0.length ≤ c0) (hr1 : Kd.C (Kd.int .u8) w A1 l1.length l1) (hc1 : l1.length ≤ c1) (h : laws_FnReach.f k l0 l1 = some r) :
    Calls Try.prog 4 #[.slice A0 l0.length c0, .slice A1 l1.length c1] w fun e w' => e = .returned (.bool r) ∧ Below w.heap.size w w' := by
  have HR0 := Aside0.mk hr0
  have HC0 := Aside0.mk hc0
  clear hr0 hc0
  have HR1 := Aside0.mk hr1
  have HC1 := Aside0.mk hc1
  clear hr1 hc1
  have HB := Aside0.mk (Below.refl w.heap.size w)
  have H : ((laws_f6big.f l0).bind fun t221 => (if t221 = true then (laws_FnReach.j0 k l0 l1 true) else ((laws_f6big.f l1).bind fun t222 => (laws_FnReach.j0 k l0 l1 t222)))) = some r := h
  clear h
  have HC3 := Aside0.mk H
  clear H
  go_enter Try.func4, Try.ntmps4
  go_upto_region 1 with (fail)
  go_cut [36] (fun v36 wc => ∃ (kq : Nat) (x36_2 : Bool), v36 = .bool x36_2 ∧ Aside0 (laws_FnReach.j0 kq l0 l1 x36_2 = some r) ∧ Aside0 (kq ≤ k) ∧ Aside0 (Below w.heap.size w wc))
  case first =>
    as_aux_lemma =>
      have H := HC3.out
      clear HC3
      replace H := Option.bind_eq_some_iff.mp H
      obtain ⟨t221, A40, H⟩ := H
      replace H : (if t221 = true then (laws_FnReach.j0 k l0 l1 true) else ((laws_f6big.f l1).bind fun t222 => (laws_FnReach.j0 k l0 l1 t222))) = some r := H
      have A4 := Aside0.mk A40
      clear A40
      by_cases c5 : t221 = true
      · subst c5
        have H1 : (laws_FnReach.j0 k l0 l1 true) = some r := by rw [if_pos rfl] at H; exact H
        clear H
        have H := H1
        clear H1
        have H' := Aside0.mk H
        clear H
        go_wp2_with (first | ((with_reducible refine gate_callee (f := 6) rfl ?_); refine goesL_ (some 32) rfl rfl Try.func6 (by kernel_rfl) rfl #[.slice A0 l0.length c0] rfl (by (try simp only [List.map_toArray, List.map_cons, List.map_nil]); first | done | rfl | (simp only [List.length_drop, List.length_take]; rfl)) ?_; (with_reducible refine (laws_f6big.calls _ _ l0 true _ ?side1 ?side2 A4.out).mono ?_); (case side1 => repeat (first | exact (Kd.C_below HR0.out HB.out) | (with_reducible refine Kd.C_alloc ?_ _) | (with_reducible refine Kd.C_drewN ?_ _) | (with_reducible refine Kd.C_drew ?_))); (case side2 => exact HC0.out); rintro e w' ⟨rfl, ⟨nd, rfl⟩⟩; refine ⟨_, rfl, ?_⟩))
        go_meet
        case rel => exact ⟨_, (true), (by first | rfl | (simp; done) | (simp [*]; done)), H', ⟨by first | omega | exact Nat.le_refl _⟩, ⟨by repeat (first | (with_reducible first | exact HB.out | apply below_alloc | apply pw_below_drewN | apply below_drew1) | exact HB.out)⟩⟩
      · replace c5 := Bool.eq_false_iff.mpr c5
        subst c5
        have H1 : ((laws_f6big.f l1).bind fun t222 => (laws_FnReach.j0 k l0 l1 t222)) = some r := by rw [if_neg (show ¬ (false = true) by decide)] at H; exact H
        clear H
        have H := H1
        clear H1
        replace H := Option.bind_eq_some_iff.mp H
        obtain ⟨t222, A60, H⟩ := H
        replace H : (laws_FnReach.j0 k l0 l1 t222) = some r := H
        have A6 := Aside0.mk A60
        clear A60
        have H' := Aside0.mk H
        clear H
        go_wp2_with (first | ((with_reducible refine gate_callee (f := 6) rfl ?_); refine goesL_ (some 32) rfl rfl Try.func6 (by kernel_rfl) rfl #[.slice A0 l0.length c0] rfl (by (try simp only [List.map_toArray, List.map_cons, List.map_nil]); first | done | rfl | (simp only [List.length_drop, List.length_take]; rfl)) ?_; (with_reducible refine (laws_f6big.calls _ _ l0 false _ ?side1 ?side2 A4.out).mono ?_); (case side1 => repeat (first | exact (Kd.C_below HR0.out HB.out) | (with_reducible refine Kd.C_alloc ?_ _) | (with_reducible refine Kd.C_drewN ?_ _) | (with_reducible refine Kd.C_drew ?_))); (case side2 => exact HC0.out); rintro e w' ⟨rfl, ⟨nd, rfl⟩⟩; refine ⟨_, rfl, ?_⟩) | (go_at_call 6; (with_reducible refine (laws_f6big.calls _ _ l1 t222 _ ?side1 ?side2 A6.out).mono ?_); (case side1 => repeat (first | exact (Kd.C_below HR1.out (by repeat (first | (with_reducible first | exact HB.out | apply below_alloc | apply pw_below_drewN | apply below_drew1) | exact HB.out))) | (with_reducible refine Kd.C_alloc ?_ _) | (with_reducible refine Kd.C_drewN ?_ _) | (with_reducible refine Kd.C_drew ?_))); (case side2 => exact HC1.out); rintro e w' ⟨rfl, ⟨nd, rfl⟩⟩))
        go_meet
        case rel => exact ⟨_, (t222), (by first | rfl | (simp; done) | (simp [*]; done)), H', ⟨by first | omega | exact Nat.le_refl _⟩, ⟨by repeat (first | (with_reducible first | exact HB.out | apply below_alloc | apply pw_below_drewN | apply below_drew1) | exact HB.out)⟩⟩
  case rest =>
    as_aux_lemma =>
      clear HC3
      try clear c1
      try clear p2
      try clear c4
      try clear c5
      try clear c6
      obtain ⟨kq, x36_2, rfl, HA, HJ2, HB⟩ := hcut
      cases kq with
      | zero => exact absurd HA.out (by simp [laws_FnReach.j0])
      | succ kj2 =>
        have H := HA.out
        clear HA
        simp only [laws_FnReach.j0] at H
        by_cases c7 : x36_2 = true
        · subst c7
          have H1 : (some true) = some r := by rw [if_pos rfl] at H; exact H
          clear H
          have H := H1
          clear H1
          obtain rfl := Option.some.inj H
          go_wp2
          go_ret
          exact ⟨by first | rfl | (simp [errW_none, errW_some] <;> rfl) | (simp [*, errW_none, errW_some] <;> rfl), by repeat (first | (with_reducible first | exact HB.out | apply below_alloc | apply pw_below_drewN | apply below_drew1) | exact HB.out)⟩
        · replace c7 := Bool.eq_false_iff.mpr c7
          subst c7
          have H1 : ((spec_P6Values.f kj2 l0).bind fun t223 => ((spec_P6Pick.f l1 4).bind fun t226 => ((impl_ReachOf.f kj2 t223 (wrap64 (1 + t226))).bind fun bt227 => ((spec_ReachOf.f kj2 t223 (wrap64 (1 + t226))).bind fun bt229 => ((impl_ReachOf.f kj2 t223 (wrap64 ((wrap64 (1 + t226)) - 1))).bind fun bt231 => ((impl_ReachOf.f kj2 t223 0).bind fun bt233 => (if bt227.2 = bt229.2 then (if bt227.2 = 0 then (if bt227.1 = bt229.1 then (if bt231.2 = 0 then (if bt231.1 > bt229.1 then (laws_FnReach.j1 kj2 t223 (wrap64 (1 + t226)) bt229.1 true) else (if bt233.2 = 0 then (if bt233.1 = 0 then (if 0 < (t223.length : Int) then (laws_FnReach.j1 kj2 t223 (wrap64 (1 + t226)) bt229.1 ((decide (bt229.1 > 0)) != ((rd t223 0) == 1))) else (none)) else (laws_FnReach.j1 kj2 t223 (wrap64 (1 + t226)) bt229.1 true)) else (laws_FnReach.j1 kj2 t223 (wrap64 (1 + t226)) bt229.1 true))) else (laws_FnReach.j1 kj2 t223 (wrap64 (1 + t226)) bt229.1 true)) else (laws_FnReach.j1 kj2 t223 (wrap64 (1 + t226)) bt229.1 true)) else (laws_FnReach.j1 kj2 t223 (wrap64 (1 + t226)) bt229.1 true)) else (laws_FnReach.j1 kj2 t223 (wrap64 (1 + t226)) bt229.1 true)))))))) = some r := by rw [if_neg (show ¬ (false = true) by decide)] at H; exact H
          clear H
          have H := H1
          clear H1
          replace H := Option.bind_eq_some_iff.mp H
          obtain ⟨t223, A80, H⟩ := H
          replace H : ((spec_P6Pick.f l1 4).bind fun t226 => ((impl_ReachOf.f kj2 t223 (wrap64 (1 + t226))).bind fun bt227 => ((spec_ReachOf.f kj2 t223 (wrap64 (1 + t226))).bind fun bt229 => ((impl_ReachOf.f kj2 t223 (wrap64 ((wrap64 (1 + t226)) - 1))).bind fun bt231 => ((impl_ReachOf.f kj2 t223 0).bind fun bt233 => (if bt227.2 = bt229.2 then (if bt227.2 = 0 then (if bt227.1 = bt229.1 then (if bt231.2 = 0 then (if bt231.1 > bt229.1 then (laws_FnReach.j1 kj2 t223 (wrap64 (1 + t226)) bt229.1 true) else (if bt233.2 = 0 then (if bt233.1 = 0 then (if 0 < (t223.length : Int) then (laws_FnReach.j1 kj2 t223 (wrap64 (1 + t226)) bt229.1 ((decide (bt229.1 > 0)) != ((rd t223 0) == 1))) else (none)) else (laws_FnReach.j1 kj2 t223 (wrap64 (1 + t226)) bt229.1 true)) else (laws_FnReach.j1 kj2 t223 (wrap64 (1 + t226)) bt229.1 true))) else (laws_FnReach.j1 kj2 t223 (wrap64 (1 + t226)) bt229.1 true)) else (laws_FnReach.j1 kj2 t223 (wrap64 (1 + t226)) bt229.1 true)) else (laws_FnReach.j1 kj2 t223 (wrap64 (1 + t226)) bt229.1 true)) else (laws_FnReach.j1 kj2 t223 (wrap64 (1 + t226)) bt229.1 true))))))) = some r := H
          have A8 := Aside0.mk A80
          clear A80
          replace H := Option.bind_eq_some_iff.mp H
          obtain ⟨t226, A90, H⟩ := H
          replace H : ((impl_ReachOf.f kj2 t223 (wrap64 (1 + t226))).bind fun bt227 => ((spec_ReachOf.f kj2 t223 (wrap64 (1 + t226))).bind fun bt229 => ((impl_ReachOf.f kj2 t223 (wrap64 ((wrap64 (1 + t226)) - 1))).bind fun bt231 => ((impl_ReachOf.f kj2 t223 0).bind fun bt233 => (if bt227.2 = bt229.2 then (if bt227.2 = 0 then (if bt227.1 = bt229.1 then (if bt231.2 = 0 then (if bt231.1 > bt229.1 then (laws_FnReach.j1 kj2 t223 (wrap64 (1 + t226)) bt229.1 true) else (if bt233.2 = 0 then (if bt233.1 = 0 then (if 0 < (t223.length : Int) then (laws_FnReach.j1 kj2 t223 (wrap64 (1 + t226)) bt229.1 ((decide (bt229.1 > 0)) != ((rd t223 0) == 1))) else (none)) else (laws_FnReach.j1 kj2 t223 (wrap64 (1 + t226)) bt229.1 true)) else (laws_FnReach.j1 kj2 t223 (wrap64 (1 + t226)) bt229.1 true))) else (laws_FnReach.j1 kj2 t223 (wrap64 (1 + t226)) bt229.1 true)) else (laws_FnReach.j1 kj2 t223 (wrap64 (1 + t226)) bt229.1 true)) else (laws_FnReach.j1 kj2 t223 (wrap64 (1 + t226)) bt229.1 true)) else (laws_FnReach.j1 kj2 t223 (wrap64 (1 + t226)) bt229.1 true)))))) = some r := H
          have A9 := Aside0.mk A90
          clear A90
          replace H := Option.bind_eq_some_iff.mp H
          obtain ⟨⟨t227, t228⟩, A100, H⟩ := H
          replace H : ((spec_ReachOf.f kj2 t223 (wrap64 (1 + t226))).bind fun bt229 => ((impl_ReachOf.f kj2 t223 (wrap64 ((wrap64 (1 + t226)) - 1))).bind fun bt231 => ((impl_ReachOf.f kj2 t223 0).bind fun bt233 => (if t228 = bt229.2 then (if t228 = 0 then (if t227 = bt229.1 then (if bt231.2 = 0 then (if bt231.1 > bt229.1 then (laws_FnReach.j1 kj2 t223 (wrap64 (1 + t226)) bt229.1 true) else (if bt233.2 = 0 then (if bt233.1 = 0 then (if 0 < (t223.length : Int) then (laws_FnReach.j1 kj2 t223 (wrap64 (1 + t226)) bt229.1 ((decide (bt229.1 > 0)) != ((rd t223 0) == 1))) else (none)) else (laws_FnReach.j1 kj2 t223 (wrap64 (1 + t226)) bt229.1 true)) else (laws_FnReach.j1 kj2 t223 (wrap64 (1 + t226)) bt229.1 true))) else (laws_FnReach.j1 kj2 t223 (wrap64 (1 + t226)) bt229.1 true)) else (laws_FnReach.j1 kj2 t223 (wrap64 (1 + t226)) bt229.1 true)) else (laws_FnReach.j1 kj2 t223 (wrap64 (1 + t226)) bt229.1 true)) else (laws_FnReach.j1 kj2 t223 (wrap64 (1 + t226)) bt229.1 true))))) = some r := H
          have A10 := Aside0.mk A100
          clear A100
          replace H := Option.bind_eq_some_iff.mp H
          obtain ⟨⟨t229, t230⟩, A110, H⟩ := H
          replace H : ((impl_ReachOf.f kj2 t223 (wrap64 ((wrap64 (1 + t226)) - 1))).bind fun bt231 => ((impl_ReachOf.f kj2 t223 0).bind fun bt233 => (if t228 = t230 then (if t228 = 0 then (if t227 = t229 then (if bt231.2 = 0 then (if bt231.1 > t229 then (laws_FnReach.j1 kj2 t223 (wrap64 (1 + t226)) t229 true) else (if bt233.2 = 0 then (if bt233.1 = 0 then (if 0 < (t223.length : Int) then (laws_FnReach.j1 kj2 t223 (wrap64 (1 + t226)) t229 ((decide (t229 > 0)) != ((rd t223 0) == 1))) else (none)) else (laws_FnReach.j1 kj2 t223 (wrap64 (1 + t226)) t229 true)) else (laws_FnReach.j1 kj2 t223 (wrap64 (1 + t226)) t229 true))) else (laws_FnReach.j1 kj2 t223 (wrap64 (1 + t226)) t229 true)) else (laws_FnReach.j1 kj2 t223 (wrap64 (1 + t226)) t229 true)) else (laws_FnReach.j1 kj2 t223 (wrap64 (1 + t226)) t229 true)) else (laws_FnReach.j1 kj2 t223 (wrap64 (1 + t226)) t229 true)))) = some r := H
          have A11 := Aside0.mk A110
          clear A110
          replace H := Option.bind_eq_some_iff.mp H
          obtain ⟨⟨t231, t232⟩, A120, H⟩ := H
          replace H : ((impl_ReachOf.f kj2 t223 0).bind fun bt233 => (if t228 = t230 then (if t228 = 0 then (if t227 = t229 then (if t232 = 0 then (if t231 > t229 then (laws_FnReach.j1 kj2 t223 (wrap64 (1 + t226)) t229 true) else (if bt233.2 = 0 then (if bt233.1 = 0 then (if 0 < (t223.length : Int) then (laws_FnReach.j1 kj2 t223 (wrap64 (1 + t226)) t229 ((decide (t229 > 0)) != ((rd t223 0) == 1))) else (none)) else (laws_FnReach.j1 kj2 t223 (wrap64 (1 + t226)) t229 true)) else (laws_FnReach.j1 kj2 t223 (wrap64 (1 + t226)) t229 true))) else (laws_FnReach.j1 kj2 t223 (wrap64 (1 + t226)) t229 true)) else (laws_FnReach.j1 kj2 t223 (wrap64 (1 + t226)) t229 true)) else (laws_FnReach.j1 kj2 t223 (wrap64 (1 + t226)) t229 true)) else (laws_FnReach.j1 kj2 t223 (wrap64 (1 + t226)) t229 true))) = some r := H
          have A12 := Aside0.mk A120
          clear A120
          replace H := Option.bind_eq_some_iff.mp H
          obtain ⟨⟨t233, t234⟩, A130, H⟩ := H
          replace H : (if t228 = t230 then (if t228 = 0 then (if t227 = t229 then (if t232 = 0 then (if t231 > t229 then (laws_FnReach.j1 kj2 t223 (wrap64 (1 + t226)) t229 true) else (if t234 = 0 then (if t233 = 0 then (if 0 < (t223.length : Int) then (laws_FnReach.j1 kj2 t223 (wrap64 (1 + t226)) t229 ((decide (t229 > 0)) != ((rd t223 0) == 1))) else (none)) else (laws_FnReach.j1 kj2 t223 (wrap64 (1 + t226)) t229 true)) else (laws_FnReach.j1 kj2 t223 (wrap64 (1 + t226)) t229 true))) else (laws_FnReach.j1 kj2 t223 (wrap64 (1 + t226)) t229 true)) else (laws_FnReach.j1 kj2 t223 (wrap64 (1 + t226)) t229 true)) else (laws_FnReach.j1 kj2 t223 (wrap64 (1 + t226)) t229 true)) else (laws_FnReach.j1 kj2 t223 (wrap64 (1 + t226)) t229 true)) = some r := H
          have A13 := Aside0.mk A130
          clear A130
          have HC14 := Aside0.mk H
          clear H
          go_upto_region 9 with (first | ((with_reducible refine gate_callee (f := 7) rfl ?_); refine goesL_ (some 38) rfl rfl Try.func7 (by kernel_rfl) rfl #[.slice A0 l0.length c0] rfl (by (try simp only [List.map_toArray, List.map_cons, List.map_nil]); first | done | rfl | (simp only [List.length_drop, List.length_take]; rfl)) ?_; (with_reducible refine (spec_P6Values.calls kj2 _ _ l0 t223 _ ?side1 ?side2 A8.out).mono ?_); (case side1 => repeat (first | exact (Kd.C_below HR0.out HB.out) | (with_reducible refine Kd.C_alloc ?_ _) | (with_reducible refine Kd.C_drewN ?_ _) | (with_reducible refine Kd.C_drew ?_))); (case side2 => exact HC0.out); rintro e w15 ⟨v224, rfl, ho0, hb⟩; refine ⟨_, rfl, ?_⟩; have n0_ := Aside0.mk (Kd.R_lower ho0 (below_size (by repeat (first | (with_reducible first | exact HB.out | apply below_alloc | apply pw_below_drewN | apply below_drew1) | exact HB.out)))); have n1_ := Aside0.mk (below_step (by repeat (first | (with_reducible first | exact HB.out | apply below_alloc | apply pw_below_drewN | apply below_drew1) | exact HB.out)) hb); clear HB; have HO225 := n0_; have HB := n1_; clear n0_ n1_; (try clear hb); (try clear hb2); (try clear hk); (try clear hi); (try clear ho0)) | ((with_reducible refine gate_callee (f := 8) rfl ?_); refine goesL_ (some 40) rfl rfl Try.func8 (by kernel_rfl) rfl #[.slice A1 l1.length c1, .int .i64 4] rfl (by (try simp only [List.map_toArray, List.map_cons, List.map_nil]); first | done | rfl | (simp only [List.length_drop, List.length_take]; rfl)) ?_; (with_reducible refine (spec_P6Pick.calls _ _ l1 4 t226 _ ?side1 ?side2 A9.out).mono ?_); (case side1 => repeat (first | exact (Kd.C_below HR1.out HB.out) | (with_reducible refine Kd.C_alloc ?_ _) | (with_reducible refine Kd.C_drewN ?_ _) | (with_reducible refine Kd.C_drew ?_))); (case side2 => exact HC1.out); rintro e w16 ⟨rfl, hb⟩; refine ⟨_, rfl, ?_⟩; have n0_ := Aside0.mk (Kd.R_below (by (with_reducible repeat (first | apply Kd.R_alloc | apply Kd.R_drewN | apply Kd.R_drew)); exact HO225.out) hb); have n1_ := Aside0.mk (below_step (by repeat (first | (with_reducible first | exact HB.out | apply below_alloc | apply pw_below_drewN | apply below_drew1) | exact HB.out)) hb); clear HO225; clear HB; have HO225 := n0_; have HB := n1_; clear n0_ n1_; (try clear hb); (try clear hb2); (try clear hk); (try clear hi); obtain ⟨Ao17, co17, eo17⟩ := Kd.R_slice HO225.out; subst eo17) | ((with_reducible refine gate_callee (f := 18) rfl ?_); refine goesL_ (some 45) rfl rfl Try.func18 (by kernel_rfl) rfl #[.slice Ao17 t223.length co17, .int .i64 (wrap64 (1 + t226))] rfl (by (try simp only [List.map_toArray, List.map_cons, List.map_nil]); first | done | rfl | (simp only [List.length_drop, List.length_take]; rfl)) ?_; (with_reducible refine (impl_ReachOf.calls kj2 _ _ t223 (wrap64 (1 + t226)) t227 t228 _ ?side1 ?side2 A10.out).mono ?_); (case side1 => repeat (first | exact (Kd.R_reads' HO225.out).2.2 | (with_reducible refine Kd.C_alloc ?_ _) | (with_reducible refine Kd.C_drewN ?_ _) | (with_reducible refine Kd.C_drew ?_))); (case side2 => exact (Kd.R_reads' HO225.out).2.1); rintro e w18 ⟨rfl, hb⟩; refine ⟨_, rfl, ?_⟩; have n0_ := Aside0.mk (Kd.R_below (by (with_reducible repeat (first | apply Kd.R_alloc | apply Kd.R_drewN | apply Kd.R_drew)); exact HO225.out) hb); have n1_ := Aside0.mk (below_step (by repeat (first | (with_reducible first | exact HB.out | apply below_alloc | apply pw_below_drewN | apply below_drew1) | exact HB.out)) hb); clear HO225; clear HB; have HO225 := n0_; have HB := n1_; clear n0_ n1_; (try clear hb); (try clear hb2); (try clear hk); (try clear hi)) | ((with_reducible refine gate_callee (f := 19) rfl ?_); refine goesL_ (some 51) rfl rfl Try.func19 (by kernel_rfl) rfl #[.slice Ao17 t223.length co17, .int .i64 (wrap64 (1 + t226))] rfl (by (try simp only [List.map_toArray, List.map_cons, List.map_nil]); first | done | rfl | (simp only [List.length_drop, List.length_take]; rfl)) ?_; (with_reducible refine (spec_ReachOf.calls kj2 _ _ t223 (wrap64 (1 + t226)) t229 t230 _ ?side1 ?side2 A11.out).mono ?_); (case side1 => repeat (first | exact (Kd.R_reads' HO225.out).2.2 | (with_reducible refine Kd.C_alloc ?_ _) | (with_reducible refine Kd.C_drewN ?_ _) | (with_reducible refine Kd.C_drew ?_))); (case side2 => exact (Kd.R_reads' HO225.out).2.1); rintro e w19 ⟨rfl, hb⟩; refine ⟨_, rfl, ?_⟩; have n0_ := Aside0.mk (Kd.R_below (by (with_reducible repeat (first | apply Kd.R_alloc | apply Kd.R_drewN | apply Kd.R_drew)); exact HO225.out) hb); have n1_ := Aside0.mk (below_step (by repeat (first | (with_reducible first | exact HB.out | apply below_alloc | apply pw_below_drewN | apply below_drew1) | exact HB.out)) hb); clear HO225; clear HB; have HO225 := n0_; have HB := n1_; clear n0_ n1_; (try clear hb); (try clear hb2); (try clear hk); (try clear hi)) | ((with_reducible refine gate_callee (f := 18) rfl ?_); refine goesL_ (some 58) rfl rfl Try.func18 (by kernel_rfl) rfl #[.slice Ao17 t223.length co17, .int .i64 (wrap64 ((wrap64 (1 + t226)) - 1))] rfl (by (try simp only [List.map_toArray, List.map_cons, List.map_nil]); first | done | rfl | (simp only [List.length_drop, List.length_take]; rfl)) ?_; (with_reducible refine (impl_ReachOf.calls kj2 _ _ t223 (wrap64 ((wrap64 (1 + t226)) - 1)) t231 t232 _ ?side1 ?side2 A12.out).mono ?_); (case side1 => repeat (first | exact (Kd.R_reads' HO225.out).2.2 | (with_reducible refine Kd.C_alloc ?_ _) | (with_reducible refine Kd.C_drewN ?_ _) | (with_reducible refine Kd.C_drew ?_))); (case side2 => exact (Kd.R_reads' HO225.out).2.1); rintro e w20 ⟨rfl, hb⟩; refine ⟨_, rfl, ?_⟩; have n0_ := Aside0.mk (Kd.R_below (by (with_reducible repeat (first | apply Kd.R_alloc | apply Kd.R_drewN | apply Kd.R_drew)); exact HO225.out) hb); have n1_ := Aside0.mk (below_step (by repeat (first | (with_reducible first | exact HB.out | apply below_alloc | apply pw_below_drewN | apply below_drew1) | exact HB.out)) hb); clear HO225; clear HB; have HO225 := n0_; have HB := n1_; clear n0_ n1_; (try clear hb); (try clear hb2); (try clear hk); (try clear hi)) | ((with_reducible refine gate_callee (f := 18) rfl ?_); refine goesL_ (some 63) rfl rfl Try.func18 (by kernel_rfl) rfl #[.slice Ao17 t223.length co17, .int .i64 0] rfl (by (try simp only [List.map_toArray, List.map_cons, List.map_nil]); first | done | rfl | (simp only [List.length_drop, List.length_take]; rfl)) ?_; (with_reducible refine (impl_ReachOf.calls kj2 _ _ t223 0 t233 t234 _ ?side1 ?side2 A13.out).mono ?_); (case side1 => repeat (first | exact (Kd.R_reads' HO225.out).2.2 | (with_reducible refine Kd.C_alloc ?_ _) | (with_reducible refine Kd.C_drewN ?_ _) | (with_reducible refine Kd.C_drew ?_))); (case side2 => exact (Kd.R_reads' HO225.out).2.1); rintro e w21 ⟨rfl, hb⟩; refine ⟨_, rfl, ?_⟩; have n0_ := Aside0.mk (Kd.R_below (by (with_reducible repeat (first | apply Kd.R_alloc | apply Kd.R_drewN | apply Kd.R_drew)); exact HO225.out) hb); have n1_ := Aside0.mk (below_step (by repeat (first | (with_reducible first | exact HB.out | apply below_alloc | apply pw_below_drewN | apply below_drew1) | exact HB.out)) hb); clear HO225; clear HB; have HO225 := n0_; have HB := n1_; clear n0_ n1_; (try clear hb); (try clear hb2); (try clear hk); (try clear hi)))
          (try simp only [Act.put, List.setIfInBounds_toArray, List.set_cons_zero, List.set_cons_succ])
          go_cut [103] (fun v103 wc => ∃ (kq : Nat) (x103_13 : Bool), v103 = .bool x103_13 ∧ Aside0 (laws_FnReach.j1 kq t223 (wrap64 (1 + t226)) t229 x103_13 = some r) ∧ Aside0 (kq ≤ kj2) ∧ Aside0 (Kd.R (Kd.int .i64) 2 wc w.heap.size (fun _ => True) (.slice Ao17 t223.length co17) t223) ∧ Aside0 (Below w.heap.size w wc))
          case first =>
            as_aux_lemma =>
              have H := HC14.out
              clear HC14
              by_cases c22 : t228 = t230
              · rw [if_pos c22] at H
                have c22b0 : (t228 == t230) = true := beq_iff_eq.mpr c22
                have c22b1 : (t228 != t230) = false := bne_eq_false_iff_eq.mpr c22
                clear c22
                (first | rw [c22b0] | (simp only [i64_w, i32_w]; rw [c22b0]) | skip)
                by_cases c23 : t228 = 0
                · rw [if_pos c23] at H
                  have c23b0 : (t228 == 0) = true := beq_iff_eq.mpr c23
                  have c23b1 : (t228 != 0) = false := bne_eq_false_iff_eq.mpr c23
                  clear c23
                  by_cases c24 : t227 = t229
                  · rw [if_pos c24] at H
                    have c24b0 : (t227 == t229) = true := beq_iff_eq.mpr c24
                    have c24b1 : (t227 != t229) = false := bne_eq_false_iff_eq.mpr c24
                    clear c24
                    by_cases c25 : t232 = 0
                    · rw [if_pos c25] at H
                      have c25b0 : (t232 == 0) = true := beq_iff_eq.mpr c25
                      have c25b1 : (t232 != 0) = false := bne_eq_false_iff_eq.mpr c25
                      clear c25
                      by_cases c26 : t231 > t229
                      · rw [if_pos c26] at H
                        have c26b0 : decide (t229 < t231) = true := decide_eq_true c26
                        clear c26
                        have H' := Aside0.mk H
                        clear H
                        go_wp2
                        go_meet
                        case rel => exact ⟨_, (true), (by first | rfl | (simp; done) | (simp [*]; done)), H', ⟨by have := HJ2.out; first | omega | exact Nat.le_refl _⟩, ⟨by (with_reducible repeat (first | apply Kd.R_alloc | apply Kd.R_drewN | apply Kd.R_drew)); exact HO225.out⟩, ⟨by repeat (first | (with_reducible first | exact HB.out | apply below_alloc | apply pw_below_drewN | apply below_drew1) | exact HB.out)⟩⟩
                      · rw [if_neg c26] at H
                        have c26b0 : decide (t229 < t231) = false := decide_eq_false c26
                        clear c26
                        by_cases c27 : t234 = 0
                        · rw [if_pos c27] at H
                          have c27b0 : (t234 == 0) = true := beq_iff_eq.mpr c27
                          have c27b1 : (t234 != 0) = false := bne_eq_false_iff_eq.mpr c27
                          clear c27
                          by_cases c28 : t233 = 0
                          · rw [if_pos c28] at H
                            have c28b0 : (t233 == 0) = true := beq_iff_eq.mpr c28
                            have c28b1 : (t233 != 0) = false := bne_eq_false_iff_eq.mpr c28
                            clear c28
                            by_cases c29 : 0 < (t223.length : Int)
                            · rw [if_pos c29] at H
                              have c29b0 : decide (0 < (t223.length : Int)) = true := decide_eq_true c29
                              have c29b1 : decide (0 < t223.length) = true := decide_eq_true (by omega)
                              clear c29
                              have H' := Aside0.mk H
                              clear H
                              have p235 : 0 ≤ (0 : Int) := (by omega)
                              have q235 : 0 < (t223.length : Int) := of_decide_eq_true (by first | (with_reducible assumption) | assumption)
                              obtain ⟨ad235, e235, hx235_0⟩ := Kd.at_int (Kd.R_reads' HO225.out).2.2 0 p235 q235
                              cases e235
                              have qi235 : (0 < t223.length) = True := eq_true (by omega)
                              (try rw [show ((0 : Int)).toNat = 0 from rfl] at hx235_0)
                              (try rw [Addr.add_zero'] at hx235_0)
                              replace p235 := eq_true p235
                              replace q235 := eq_true q235
                              go_wp2
                              go_meet
                              case rel => exact ⟨_, (((decide (t229 > 0)) != ((rd t223 0) == 1))), (by first | rfl | (simp; done) | (simp [*]; done)), H', ⟨by have := HJ2.out; first | omega | exact Nat.le_refl _⟩, ⟨by (with_reducible repeat (first | apply Kd.R_alloc | apply Kd.R_drewN | apply Kd.R_drew)); exact HO225.out⟩, ⟨by repeat (first | (with_reducible first | exact HB.out | apply below_alloc | apply pw_below_drewN | apply below_drew1) | exact HB.out)⟩⟩
                            · rw [if_neg c29] at H
                              exact absurd H (by simp)
                          · rw [if_neg c28] at H
                            have c28b0 : (t233 == 0) = false := beq_eq_false_iff_ne.mpr c28
                            have c28b1 : (t233 != 0) = true := bne_iff_ne.mpr c28
                            have H' := Aside0.mk H
                            clear H
                            go_wp2
                            go_meet
                            case rel => exact ⟨_, (true), (by first | rfl | (simp; done) | (simp [*]; done)), H', ⟨by have := HJ2.out; first | omega | exact Nat.le_refl _⟩, ⟨by (with_reducible repeat (first | apply Kd.R_alloc | apply Kd.R_drewN | apply Kd.R_drew)); exact HO225.out⟩, ⟨by repeat (first | (with_reducible first | exact HB.out | apply below_alloc | apply pw_below_drewN | apply below_drew1) | exact HB.out)⟩⟩
                        · rw [if_neg c27] at H
                          have c27b0 : (t234 == 0) = false := beq_eq_false_iff_ne.mpr c27
                          have c27b1 : (t234 != 0) = true := bne_iff_ne.mpr c27
                          have H' := Aside0.mk H
                          clear H
                          go_wp2
                          go_meet
                          case rel => exact ⟨_, (true), (by first | rfl | (simp; done) | (simp [*]; done)), H', ⟨by have := HJ2.out; first | omega | exact Nat.le_refl _⟩, ⟨by (with_reducible repeat (first | apply Kd.R_alloc | apply Kd.R_drewN | apply Kd.R_drew)); exact HO225.out⟩, ⟨by repeat (first | (with_reducible first | exact HB.out | apply below_alloc | apply pw_below_drewN | apply below_drew1) | exact HB.out)⟩⟩
                    · rw [if_neg c25] at H
                      have c25b0 : (t232 == 0) = false := beq_eq_false_iff_ne.mpr c25
                      have c25b1 : (t232 != 0) = true := bne_iff_ne.mpr c25
                      have H' := Aside0.mk H
                      clear H
                      go_wp2
                      go_meet
                      case rel => exact ⟨_, (true), (by first | rfl | (simp; done) | (simp [*]; done)), H', ⟨by have := HJ2.out; first | omega | exact Nat.le_refl _⟩, ⟨by (with_reducible repeat (first | apply Kd.R_alloc | apply Kd.R_drewN | apply Kd.R_drew)); exact HO225.out⟩, ⟨by repeat (first | (with_reducible first | exact HB.out | apply below_alloc | apply pw_below_drewN | apply below_drew1) | exact HB.out)⟩⟩
                  · rw [if_neg c24] at H
                    have c24b0 : (t227 == t229) = false := beq_eq_false_iff_ne.mpr c24
                    have c24b1 : (t227 != t229) = true := bne_iff_ne.mpr c24
                    have H' := Aside0.mk H
                    clear H
                    go_wp2
                    go_meet
                    case rel => exact ⟨_, (true), (by first | rfl | (simp; done) | (simp [*]; done)), H', ⟨by have := HJ2.out; first | omega | exact Nat.le_refl _⟩, ⟨by (with_reducible repeat (first | apply Kd.R_alloc | apply Kd.R_drewN | apply Kd.R_drew)); exact HO225.out⟩, ⟨by repeat (first | (with_reducible first | exact HB.out | apply below_alloc | apply pw_below_drewN | apply below_drew1) | exact HB.out)⟩⟩
                · rw [if_neg c23] at H
                  have c23b0 : (t228 == 0) = false := beq_eq_false_iff_ne.mpr c23
                  have c23b1 : (t228 != 0) = true := bne_iff_ne.mpr c23
                  have H' := Aside0.mk H
                  clear H
                  go_wp2
                  go_meet
                  case rel => exact ⟨_, (true), (by first | rfl | (simp; done) | (simp [*]; done)), H', ⟨by have := HJ2.out; first | omega | exact Nat.le_refl _⟩, ⟨by (with_reducible repeat (first | apply Kd.R_alloc | apply Kd.R_drewN | apply Kd.R_drew)); exact HO225.out⟩, ⟨by repeat (first | (with_reducible first | exact HB.out | apply below_alloc | apply pw_below_drewN | apply below_drew1) | exact HB.out)⟩⟩
              · rw [if_neg c22] at H
                have c22b0 : (t228 == t230) = false := beq_eq_false_iff_ne.mpr c22
                have c22b1 : (t228 != t230) = true := bne_iff_ne.mpr c22
                (first | rw [c22b0] | (simp only [i64_w, i32_w]; rw [c22b0]) | skip)
                have H' := Aside0.mk H
                clear H
                go_wp2
                go_meet
                case rel => exact ⟨_, (true), (by first | rfl | (simp; done) | (simp [*]; done)), H', ⟨by have := HJ2.out; first | omega | exact Nat.le_refl _⟩, ⟨by (with_reducible repeat (first | apply Kd.R_alloc | apply Kd.R_drewN | apply Kd.R_drew)); exact HO225.out⟩, ⟨by repeat (first | (with_reducible first | exact HB.out | apply below_alloc | apply pw_below_drewN | apply below_drew1) | exact HB.out)⟩⟩
          case rest =>
            as_aux_lemma =>
              clear HC14
              try clear c1
              try clear c2
              try clear p2
              try clear q2
              try clear hx2
              try clear qi2
              try clear c4
              try clear c5
              try clear c6
              try clear p6
              try clear c7
              try clear c8
              try clear c18
              try clear c19
              try clear c22
              try clear c22b0
              try clear c22b1
              try clear c23
              try clear c23b0
              try clear c23b1
              try clear p23
              try clear q23
              try clear hx23
              try clear qi23
              try clear c24
              try clear c24b0
              try clear c24b1
              try clear c25
              try clear c25b0
              try clear c25b1
              try clear c26
              try clear c26b0
              try clear c27
              try clear c27b0
              try clear c27b1
              try clear c28
              try clear c28b0
              try clear c28b1
              try clear c29
              try clear c29b0
              try clear c29b1
              try clear hx235_0
              try clear p2
              try clear p235
              try clear q235
              obtain ⟨kq, x103_13, rfl, HA, HJ13, HO_5, HB⟩ := hcut
              cases kq with
              | zero => exact absurd HA.out (by simp [laws_FnReach.j1])
              | succ kj13 =>
                have H := HA.out
                clear HA
                simp only [laws_FnReach.j1] at H
                by_cases c30 : x103_13 = true
                · subst c30
                  have H1 : (some false) = some r := by rw [if_pos rfl] at H; exact H
                  clear H
                  have H := H1
                  clear H1
                  obtain rfl := Option.some.inj H
                  go_wp2
                  go_ret
                  exact ⟨by first | rfl | (simp [errW_none, errW_some] <;> rfl) | (simp [*, errW_none, errW_some] <;> rfl), by repeat (first | (with_reducible first | exact HB.out | apply below_alloc | apply pw_below_drewN | apply below_drew1) | exact HB.out)⟩
                · replace c30 := Bool.eq_false_iff.mpr c30
                  subst c30
                  have H1 : (laws_FnReach.l0 kj13 t223 (wrap64 (1 + t226)) t229 1) = some r := by rw [if_neg (show ¬ (false = true) by decide)] at H; exact H
                  clear H
                  have H := H1
                  clear H1
                  have H' := Aside0.mk H
                  clear H
                  go_wp2
                  go_loopg [15] kj13 (fun kq v15 w' => ∃ (x15_3 : Int), v15 = .int .i64 x15_3 ∧ Aside0 (laws_FnReach.l0 kq t223 (wrap64 (1 + t226)) t229 x15_3 = some r) ∧ Aside0 (kq ≤ kj13) ∧ Aside0 (Kd.R (Kd.int .i64) 2 w' w.heap.size (fun _ => True) (.slice Ao17 t223.length co17) t223) ∧ Aside0 (Below w.heap.size w w'))
                  case atStart => exact ⟨(1), (by first | rfl | (simp; done) | (simp [*]; done)), H', ⟨Nat.le_refl _⟩, ⟨by (with_reducible repeat (first | apply Kd.R_alloc | apply Kd.R_drewN | apply Kd.R_drew)); exact HO_5.out⟩, ⟨by repeat (first | (with_reducible first | exact HB.out | apply below_alloc | apply pw_below_drewN | apply below_drew1) | exact HB.out)⟩⟩
                  case round =>
                    as_aux_lemma =>
                      clear H'
                      try clear c1
                      try clear c2
                      try clear p2
                      try clear q2
                      try clear hx2
                      try clear qi2
                      try clear c3
                      try clear c4
                      try clear c5
                      try clear c6
                      try clear p6
                      try clear c7
                      try clear c8
                      try clear c18
                      try clear c19
                      try clear c22
                      try clear c22b0
                      try clear c22b1
                      try clear c23
                      try clear c23b0
                      try clear c23b1
                      try clear p23
                      try clear q23
                      try clear hx23
                      try clear qi23
                      try clear c24
                      try clear c24b0
                      try clear c24b1
                      try clear c25
                      try clear c25b0
                      try clear c25b1
                      try clear c26
                      try clear c26b0
                      try clear c27
                      try clear c27b0
                      try clear c27b1
                      try clear c28
                      try clear c28b0
                      try clear c28b1
                      try clear c29
                      try clear c29b0
                      try clear c29b1
                      try clear c30
                      try clear hx235_0
                      try clear p2
                      try clear p23
                      try clear p235
                      try clear p6
                      try clear q2
                      try clear q23
                      try clear q235
                      obtain ⟨x15_3, rfl, HA, HK3, HO_5, HB⟩ := hrel
                      cases gk with
                      | zero => exact absurd HA.out (by simp [laws_FnReach.l0])
                      | succ k3 =>
                        have H := HA.out
                        clear HA
                        simp only [laws_FnReach.l0] at H
                        by_cases c31 : x15_3 ≤ (wrap64 (t229 + 1))
                        · rw [if_pos c31] at H
                          have c31b0 : decide (x15_3 ≤ (wrap64 (t229 + 1))) = true := decide_eq_true c31
                          clear c31
                          replace H := Option.bind_eq_some_iff.mp H
                          obtain ⟨⟨t236, t237, t238⟩, A320, H⟩ := H
                          replace H : (if t238 = 0 then (if ((decide (t237 ≤ (wrap64 (1 + t226)))) != (decide (x15_3 ≤ t229))) = true then (some false) else (laws_FnReach.l0 k3 t223 (wrap64 (1 + t226)) t229 (wrap64 (x15_3 + 1)))) else (if (false != (decide (x15_3 ≤ t229))) = true then (some false) else (laws_FnReach.l0 k3 t223 (wrap64 (1 + t226)) t229 (wrap64 (x15_3 + 1))))) = some r := H
                          have A32 := Aside0.mk A320
                          clear A320
                          by_cases c33 : t238 = 0
                          · rw [if_pos c33] at H
                            have c33b0 : (t238 == 0) = true := beq_iff_eq.mpr c33
                            have c33b1 : (t238 != 0) = false := bne_eq_false_iff_eq.mpr c33
                            clear c33
                            by_cases c34 : ((decide (t237 ≤ (wrap64 (1 + t226)))) != (decide (x15_3 ≤ t229))) = true
                            · rw [if_pos c34] at H
                              have c34b0 : ((decide (t237 ≤ (wrap64 (1 + t226)))) != (decide (x15_3 ≤ t229))) = true := c34
                              (try (have c34b1 : decide ((decide (t237 ≤ (wrap64 (1 + t226)))) = (decide (x15_3 ≤ t229))) = false := by simpa using c34))
                              (try (have c34b2 : ((decide (t237 ≤ (wrap64 (1 + t226)))) == (decide (x15_3 ≤ t229))) = false := by simpa using c34))
                              (try (have c34b3 : ¬ ((decide (t237 ≤ (wrap64 (1 + t226)))) = (decide (x15_3 ≤ t229))) := by simpa using c34))
                              clear c34
                              obtain rfl := Option.some.inj H
                              go_wp2_with (first | ((with_reducible refine gate_callee (f := 20) rfl ?_); refine goesL_ (some 113) rfl rfl Try.func20 (by kernel_rfl) rfl #[.slice Ao17 t223.length co17, .int .i64 x15_3] rfl (by (try simp only [List.map_toArray, List.map_cons, List.map_nil]); first | done | rfl | (simp only [List.length_drop, List.length_take]; rfl)) ?_; (with_reducible refine (impl_FewestStamps.calls _ _ t223 x15_3 t236 t237 t238 _ ?side1 ?side2 A32.out).mono ?_); (case side1 => repeat (first | exact (Kd.R_reads' HO_5.out).2.2 | (with_reducible refine Kd.C_alloc ?_ _) | (with_reducible refine Kd.C_drewN ?_ _) | (with_reducible refine Kd.C_drew ?_))); (case side2 => exact (Kd.R_reads' HO_5.out).2.1); rintro e w35 ⟨v239, rfl, ho0, hb⟩; refine ⟨_, rfl, ?_⟩; have n0_ := Aside0.mk (Kd.R_elder' (by (with_reducible repeat (first | apply Kd.R_alloc | apply Kd.R_drewN | apply Kd.R_drew)); exact HO_5.out) (Kd.R_base ho0) hb); have n1_ := Aside0.mk (Kd.R_lower (Kd.R_new' ho0 (Kd.R_lt (by (with_reducible repeat (first | apply Kd.R_alloc | apply Kd.R_drewN | apply Kd.R_drew)); exact HO_5.out))) (below_size (by repeat (first | (with_reducible first | exact HB.out | apply below_alloc | apply pw_below_drewN | apply below_drew1) | exact HB.out)))); have n2_ := Aside0.mk (below_step (by repeat (first | (with_reducible first | exact HB.out | apply below_alloc | apply pw_below_drewN | apply below_drew1) | exact HB.out)) hb); clear HO_5; clear HB; have HO_5 := n0_; have HO240 := n1_; have HB := n2_; clear n0_ n1_ n2_; (try clear hb); (try clear hb2); (try clear hk); (try clear hi); (try clear ho0)))
                              go_ret
                              exact ⟨by first | rfl | (simp [errW_none, errW_some] <;> rfl) | (simp [*, errW_none, errW_some] <;> rfl), by repeat (first | (with_reducible first | exact HB.out | apply below_alloc | apply pw_below_drewN | apply below_drew1) | exact HB.out)⟩
                            · rw [if_neg c34] at H
                              have c34b0 : ((decide (t237 ≤ (wrap64 (1 + t226)))) != (decide (x15_3 ≤ t229))) = false := by simpa using c34
                              (try (have c34b1 : decide ((decide (t237 ≤ (wrap64 (1 + t226)))) = (decide (x15_3 ≤ t229))) = true := by simpa using c34))
                              (try (have c34b2 : ((decide (t237 ≤ (wrap64 (1 + t226)))) == (decide (x15_3 ≤ t229))) = true := by simpa using c34))
                              clear c34
                              have H' := Aside0.mk H
                              clear H
                              go_wp2_with (first | ((with_reducible refine gate_callee (f := 20) rfl ?_); refine goesL_ (some 113) rfl rfl Try.func20 (by kernel_rfl) rfl #[.slice Ao17 t223.length co17, .int .i64 x15_3] rfl (by (try simp only [List.map_toArray, List.map_cons, List.map_nil]); first | done | rfl | (simp only [List.length_drop, List.length_take]; rfl)) ?_; (with_reducible refine (impl_FewestStamps.calls _ _ t223 x15_3 t236 t237 t238 _ ?side1 ?side2 A32.out).mono ?_); (case side1 => repeat (first | exact (Kd.R_reads' HO_5.out).2.2 | (with_reducible refine Kd.C_alloc ?_ _) | (with_reducible refine Kd.C_drewN ?_ _) | (with_reducible refine Kd.C_drew ?_))); (case side2 => exact (Kd.R_reads' HO_5.out).2.1); rintro e w36 ⟨v239, rfl, ho0, hb⟩; refine ⟨_, rfl, ?_⟩; have n0_ := Aside0.mk (Kd.R_elder' (by (with_reducible repeat (first | apply Kd.R_alloc | apply Kd.R_drewN | apply Kd.R_drew)); exact HO_5.out) (Kd.R_base ho0) hb); have n1_ := Aside0.mk (Kd.R_lower (Kd.R_new' ho0 (Kd.R_lt (by (with_reducible repeat (first | apply Kd.R_alloc | apply Kd.R_drewN | apply Kd.R_drew)); exact HO_5.out))) (below_size (by repeat (first | (with_reducible first | exact HB.out | apply below_alloc | apply pw_below_drewN | apply below_drew1) | exact HB.out)))); have n2_ := Aside0.mk (below_step (by repeat (first | (with_reducible first | exact HB.out | apply below_alloc | apply pw_below_drewN | apply below_drew1) | exact HB.out)) hb); clear HO_5; clear HB; have HO_5 := n0_; have HO240 := n1_; have HB := n2_; clear n0_ n1_ n2_; (try clear hb); (try clear hb2); (try clear hk); (try clear hi); (try clear ho0)))
                              go_roundg k3
                              case measure => have := HJ2.out; have := HJ13.out; have := HK3.out; omega
                              case rel => exact ⟨(wrap64 (x15_3 + 1)), (by first | rfl | (simp; done) | (simp [*]; done)), H', ⟨by have := HJ2.out; have := HJ13.out; have := HK3.out; omega⟩, ⟨by (with_reducible repeat (first | apply Kd.R_alloc | apply Kd.R_drewN | apply Kd.R_drew)); exact Kd.R_mono HO_5.out (fun _ hk => trivial)⟩, ⟨by repeat (first | (with_reducible first | exact HB.out | apply below_alloc | apply pw_below_drewN | apply below_drew1) | exact HB.out)⟩⟩
                          · rw [if_neg c33] at H
                            have c33b0 : (t238 == 0) = false := beq_eq_false_iff_ne.mpr c33
                            have c33b1 : (t238 != 0) = true := bne_iff_ne.mpr c33
                            by_cases c37 : (false != (decide (x15_3 ≤ t229))) = true
                            · rw [if_pos c37] at H
                              have c37b0 : (false != (decide (x15_3 ≤ t229))) = true := c37
                              (try (have c37b1 : decide (false = (decide (x15_3 ≤ t229))) = false := by simpa using c37))
                              (try (have c37b2 : (false == (decide (x15_3 ≤ t229))) = false := by simpa using c37))
                              (try (have c37b3 : ¬ (false = (decide (x15_3 ≤ t229))) := by simpa using c37))
                              clear c37
                              obtain rfl := Option.some.inj H
                              go_wp2_with (first | ((with_reducible refine gate_callee (f := 20) rfl ?_); refine goesL_ (some 113) rfl rfl Try.func20 (by kernel_rfl) rfl #[.slice Ao17 t223.length co17, .int .i64 x15_3] rfl (by (try simp only [List.map_toArray, List.map_cons, List.map_nil]); first | done | rfl | (simp only [List.length_drop, List.length_take]; rfl)) ?_; (with_reducible refine (impl_FewestStamps.calls _ _ t223 x15_3 t236 t237 t238 _ ?side1 ?side2 A32.out).mono ?_); (case side1 => repeat (first | exact (Kd.R_reads' HO_5.out).2.2 | (with_reducible refine Kd.C_alloc ?_ _) | (with_reducible refine Kd.C_drewN ?_ _) | (with_reducible refine Kd.C_drew ?_))); (case side2 => exact (Kd.R_reads' HO_5.out).2.1); rintro e w38 ⟨v239, rfl, ho0, hb⟩; refine ⟨_, rfl, ?_⟩; have n0_ := Aside0.mk (Kd.R_elder' (by (with_reducible repeat (first | apply Kd.R_alloc | apply Kd.R_drewN | apply Kd.R_drew)); exact HO_5.out) (Kd.R_base ho0) hb); have n1_ := Aside0.mk (Kd.R_lower (Kd.R_new' ho0 (Kd.R_lt (by (with_reducible repeat (first | apply Kd.R_alloc | apply Kd.R_drewN | apply Kd.R_drew)); exact HO_5.out))) (below_size (by repeat (first | (with_reducible first | exact HB.out | apply below_alloc | apply pw_below_drewN | apply below_drew1) | exact HB.out)))); have n2_ := Aside0.mk (below_step (by repeat (first | (with_reducible first | exact HB.out | apply below_alloc | apply pw_below_drewN | apply below_drew1) | exact HB.out)) hb); clear HO_5; clear HB; have HO_5 := n0_; have HO240 := n1_; have HB := n2_; clear n0_ n1_ n2_; (try clear hb); (try clear hb2); (try clear hk); (try clear hi); (try clear ho0)))
                              go_ret
                              exact ⟨by first | rfl | (simp [errW_none, errW_some] <;> rfl) | (simp [*, errW_none, errW_some] <;> rfl), by repeat (first | (with_reducible first | exact HB.out | apply below_alloc | apply pw_below_drewN | apply below_drew1) | exact HB.out)⟩
                            · rw [if_neg c37] at H
                              have c37b0 : (false != (decide (x15_3 ≤ t229))) = false := by simpa using c37
                              (try (have c37b1 : decide (false = (decide (x15_3 ≤ t229))) = true := by simpa using c37))
                              (try (have c37b2 : (false == (decide (x15_3 ≤ t229))) = true := by simpa using c37))
                              clear c37
                              have H' := Aside0.mk H
                              clear H
                              go_wp2_with (first | ((with_reducible refine gate_callee (f := 20) rfl ?_); refine goesL_ (some 113) rfl rfl Try.func20 (by kernel_rfl) rfl #[.slice Ao17 t223.length co17, .int .i64 x15_3] rfl (by (try simp only [List.map_toArray, List.map_cons, List.map_nil]); first | done | rfl | (simp only [List.length_drop, List.length_take]; rfl)) ?_; (with_reducible refine (impl_FewestStamps.calls _ _ t223 x15_3 t236 t237 t238 _ ?side1 ?side2 A32.out).mono ?_); (case side1 => repeat (first | exact (Kd.R_reads' HO_5.out).2.2 | (with_reducible refine Kd.C_alloc ?_ _) | (with_reducible refine Kd.C_drewN ?_ _) | (with_reducible refine Kd.C_drew ?_))); (case side2 => exact (Kd.R_reads' HO_5.out).2.1); rintro e w39 ⟨v239, rfl, ho0, hb⟩; refine ⟨_, rfl, ?_⟩; have n0_ := Aside0.mk (Kd.R_elder' (by (with_reducible repeat (first | apply Kd.R_alloc | apply Kd.R_drewN | apply Kd.R_drew)); exact HO_5.out) (Kd.R_base ho0) hb); have n1_ := Aside0.mk (Kd.R_lower (Kd.R_new' ho0 (Kd.R_lt (by (with_reducible repeat (first | apply Kd.R_alloc | apply Kd.R_drewN | apply Kd.R_drew)); exact HO_5.out))) (below_size (by repeat (first | (with_reducible first | exact HB.out | apply below_alloc | apply pw_below_drewN | apply below_drew1) | exact HB.out)))); have n2_ := Aside0.mk (below_step (by repeat (first | (with_reducible first | exact HB.out | apply below_alloc | apply pw_below_drewN | apply below_drew1) | exact HB.out)) hb); clear HO_5; clear HB; have HO_5 := n0_; have HO240 := n1_; have HB := n2_; clear n0_ n1_ n2_; (try clear hb); (try clear hb2); (try clear hk); (try clear hi); (try clear ho0)))
                              go_roundg k3
                              case measure => have := HJ2.out; have := HJ13.out; have := HK3.out; omega
                              case rel => exact ⟨(wrap64 (x15_3 + 1)), (by first | rfl | (simp; done) | (simp [*]; done)), H', ⟨by have := HJ2.out; have := HJ13.out; have := HK3.out; omega⟩, ⟨by (with_reducible repeat (first | apply Kd.R_alloc | apply Kd.R_drewN | apply Kd.R_drew)); exact Kd.R_mono HO_5.out (fun _ hk => trivial)⟩, ⟨by repeat (first | (with_reducible first | exact HB.out | apply below_alloc | apply pw_below_drewN | apply below_drew1) | exact HB.out)⟩⟩
                        · rw [if_neg c31] at H
                          have c31b0 : decide (x15_3 ≤ (wrap64 (t229 + 1))) = false := decide_eq_false c31
                          clear c31
                          replace H := Option.bind_eq_some_iff.mp H
                          obtain ⟨⟨t241, t242, t243⟩, A400, H⟩ := H
                          replace H : ((spec_BestValue.f k3 t223 (wrap64 (1 + t226))).bind fun bt244 => (if t243 = bt244.2.2 then (if t243 = 0 then (if t241 = bt244.1 then (if t242 = bt244.2.1 then (if bt244.2.1 < t229 then (laws_FnReach.j3 k3 t223 (wrap64 (1 + t226)) bt244.1 bt244.2.1 true) else (if bt244.1 < 1 then (laws_FnReach.j3 k3 t223 (wrap64 (1 + t226)) bt244.1 bt244.2.1 true) else ((spec_HasNumber.f k3 t223 bt244.1).bind fun t247 => (laws_FnReach.j3 k3 t223 (wrap64 (1 + t226)) bt244.1 bt244.2.1 t247)))) else (laws_FnReach.j3 k3 t223 (wrap64 (1 + t226)) bt244.1 bt244.2.1 true)) else (laws_FnReach.j3 k3 t223 (wrap64 (1 + t226)) bt244.1 bt244.2.1 true)) else (laws_FnReach.j3 k3 t223 (wrap64 (1 + t226)) bt244.1 bt244.2.1 true)) else (laws_FnReach.j3 k3 t223 (wrap64 (1 + t226)) bt244.1 bt244.2.1 true))) = some r := H
                          have A40 := Aside0.mk A400
                          clear A400
                          replace H := Option.bind_eq_some_iff.mp H
                          obtain ⟨⟨t244, t245, t246⟩, A410, H⟩ := H
                          replace H : (if t243 = t246 then (if t243 = 0 then (if t241 = t244 then (if t242 = t245 then (if t245 < t229 then (laws_FnReach.j3 k3 t223 (wrap64 (1 + t226)) t244 t245 true) else (if t244 < 1 then (laws_FnReach.j3 k3 t223 (wrap64 (1 + t226)) t244 t245 true) else ((spec_HasNumber.f k3 t223 t244).bind fun t247 => (laws_FnReach.j3 k3 t223 (wrap64 (1 + t226)) t244 t245 t247)))) else (laws_FnReach.j3 k3 t223 (wrap64 (1 + t226)) t244 t245 true)) else (laws_FnReach.j3 k3 t223 (wrap64 (1 + t226)) t244 t245 true)) else (laws_FnReach.j3 k3 t223 (wrap64 (1 + t226)) t244 t245 true)) else (laws_FnReach.j3 k3 t223 (wrap64 (1 + t226)) t244 t245 true)) = some r := H
                          have A41 := Aside0.mk A410
                          clear A410
                          have HC42 := Aside0.mk H
                          clear H
                          go_upto_region 19 with (first | ((with_reducible refine gate_callee (f := 21) rfl ?_); refine goesL_ (some 131) rfl rfl Try.func21 (by kernel_rfl) rfl #[.slice Ao17 t223.length co17, .int .i64 (wrap64 (1 + t226))] rfl (by (try simp only [List.map_toArray, List.map_cons, List.map_nil]); first | done | rfl | (simp only [List.length_drop, List.length_take]; rfl)) ?_; (with_reducible refine (impl_BestValue.calls k3 _ _ t223 (wrap64 (1 + t226)) t241 t242 t243 _ ?side1 ?side2 A40.out).mono ?_); (case side1 => repeat (first | exact (Kd.R_reads' HO_5.out).2.2 | (with_reducible refine Kd.C_alloc ?_ _) | (with_reducible refine Kd.C_drewN ?_ _) | (with_reducible refine Kd.C_drew ?_))); (case side2 => exact (Kd.R_reads' HO_5.out).2.1); rintro e w43 ⟨rfl, hb⟩; refine ⟨_, rfl, ?_⟩; have n0_ := Aside0.mk (Kd.R_below (by (with_reducible repeat (first | apply Kd.R_alloc | apply Kd.R_drewN | apply Kd.R_drew)); exact HO_5.out) hb); have n1_ := Aside0.mk (below_step (by repeat (first | (with_reducible first | exact HB.out | apply below_alloc | apply pw_below_drewN | apply below_drew1) | exact HB.out)) hb); clear HO_5; clear HB; have HO_5 := n0_; have HB := n1_; clear n0_ n1_; (try clear hb); (try clear hb2); (try clear hk); (try clear hi)) | ((with_reducible refine gate_callee (f := 22) rfl ?_); refine goesL_ (some 138) rfl rfl Try.func22 (by kernel_rfl) rfl #[.slice Ao17 t223.length co17, .int .i64 (wrap64 (1 + t226))] rfl (by (try simp only [List.map_toArray, List.map_cons, List.map_nil]); first | done | rfl | (simp only [List.length_drop, List.length_take]; rfl)) ?_; (with_reducible refine (spec_BestValue.calls k3 _ _ t223 (wrap64 (1 + t226)) t244 t245 t246 _ ?side1 ?side2 A41.out).mono ?_); (case side1 => repeat (first | exact (Kd.R_reads' HO_5.out).2.2 | (with_reducible refine Kd.C_alloc ?_ _) | (with_reducible refine Kd.C_drewN ?_ _) | (with_reducible refine Kd.C_drew ?_))); (case side2 => exact (Kd.R_reads' HO_5.out).2.1); rintro e w44 ⟨rfl, hb⟩; refine ⟨_, rfl, ?_⟩; have n0_ := Aside0.mk (Kd.R_below (by (with_reducible repeat (first | apply Kd.R_alloc | apply Kd.R_drewN | apply Kd.R_drew)); exact HO_5.out) hb); have n1_ := Aside0.mk (below_step (by repeat (first | (with_reducible first | exact HB.out | apply below_alloc | apply pw_below_drewN | apply below_drew1) | exact HB.out)) hb); clear HO_5; clear HB; have HO_5 := n0_; have HB := n1_; clear n0_ n1_; (try clear hb); (try clear hb2); (try clear hk); (try clear hi)))
                          (try simp only [Act.put, List.setIfInBounds_toArray, List.set_cons_zero, List.set_cons_succ])
                          go_cut [172] (fun v172 wc => ∃ (kq : Nat) (x172_41 : Bool), v172 = .bool x172_41 ∧ Aside0 (laws_FnReach.j3 kq t223 (wrap64 (1 + t226)) t244 t245 x172_41 = some r) ∧ Aside0 (kq ≤ k3) ∧ Aside0 (Kd.R (Kd.int .i64) 2 wc w.heap.size (fun _ => True) (.slice Ao17 t223.length co17) t223) ∧ Aside0 (Below w.heap.size w wc))
                          case first =>
                            as_aux_lemma =>
                              have H := HC42.out
                              clear HC42
                              by_cases c45 : t243 = t246
                              · rw [if_pos c45] at H
                                have c45b0 : (t243 == t246) = true := beq_iff_eq.mpr c45
                                have c45b1 : (t243 != t246) = false := bne_eq_false_iff_eq.mpr c45
                                clear c45
                                (first | rw [c45b0] | (simp only [i64_w, i32_w]; rw [c45b0]) | skip)
                                by_cases c46 : t243 = 0
                                · rw [if_pos c46] at H
                                  have c46b0 : (t243 == 0) = true := beq_iff_eq.mpr c46
                                  have c46b1 : (t243 != 0) = false := bne_eq_false_iff_eq.mpr c46
                                  clear c46
                                  by_cases c47 : t241 = t244
                                  · rw [if_pos c47] at H
                                    have c47b0 : (t241 == t244) = true := beq_iff_eq.mpr c47
                                    have c47b1 : (t241 != t244) = false := bne_eq_false_iff_eq.mpr c47
                                    clear c47
                                    by_cases c48 : t242 = t245
                                    · rw [if_pos c48] at H
                                      have c48b0 : (t242 == t245) = true := beq_iff_eq.mpr c48
                                      have c48b1 : (t242 != t245) = false := bne_eq_false_iff_eq.mpr c48
                                      clear c48
                                      by_cases c49 : t245 < t229
                                      · rw [if_pos c49] at H
                                        have c49b0 : decide (t245 < t229) = true := decide_eq_true c49
                                        clear c49
                                        have H' := Aside0.mk H
                                        clear H
                                        go_wp2
                                        go_meet
                                        case rel => exact ⟨_, (true), (by first | rfl | (simp; done) | (simp [*]; done)), H', ⟨by have := HJ2.out; have := HJ13.out; have := HK3.out; first | omega | exact Nat.le_refl _⟩, ⟨by (with_reducible repeat (first | apply Kd.R_alloc | apply Kd.R_drewN | apply Kd.R_drew)); exact HO_5.out⟩, ⟨by repeat (first | (with_reducible first | exact HB.out | apply below_alloc | apply pw_below_drewN | apply below_drew1) | exact HB.out)⟩⟩
                                      · rw [if_neg c49] at H
                                        have c49b0 : decide (t245 < t229) = false := decide_eq_false c49
                                        clear c49
                                        by_cases c50 : t244 < 1
                                        · rw [if_pos c50] at H
                                          have c50b0 : decide (t244 < 1) = true := decide_eq_true c50
                                          clear c50
                                          have H' := Aside0.mk H
                                          clear H
                                          go_wp2
                                          go_meet
                                          case rel => exact ⟨_, (true), (by first | rfl | (simp; done) | (simp [*]; done)), H', ⟨by have := HJ2.out; have := HJ13.out; have := HK3.out; first | omega | exact Nat.le_refl _⟩, ⟨by (with_reducible repeat (first | apply Kd.R_alloc | apply Kd.R_drewN | apply Kd.R_drew)); exact HO_5.out⟩, ⟨by repeat (first | (with_reducible first | exact HB.out | apply below_alloc | apply pw_below_drewN | apply below_drew1) | exact HB.out)⟩⟩
                                        · rw [if_neg c50] at H
                                          have c50b0 : decide (t244 < 1) = false := decide_eq_false c50
                                          clear c50
                                          replace H := Option.bind_eq_some_iff.mp H
                                          obtain ⟨t247, A510, H⟩ := H
                                          replace H : (laws_FnReach.j3 k3 t223 (wrap64 (1 + t226)) t244 t245 t247) = some r := H
                                          have A51 := Aside0.mk A510
                                          clear A510
                                          have H' := Aside0.mk H
                                          clear H
                                          go_wp2_with (first | (go_at_call 15; (with_reducible refine (spec_HasNumber.calls k3 _ _ t223 t244 t247 _ ?side1 ?side2 A51.out).mono ?_); (case side1 => repeat (first | exact (Kd.R_reads' HO_5.out).2.2 | (with_reducible refine Kd.C_alloc ?_ _) | (with_reducible refine Kd.C_drewN ?_ _) | (with_reducible refine Kd.C_drew ?_))); (case side2 => exact (Kd.R_reads' HO_5.out).2.1); rintro e w' ⟨rfl, ⟨nd, rfl⟩⟩))
                                          go_meet
                                          case rel => exact ⟨_, (t247), (by first | rfl | (simp; done) | (simp [*]; done)), H', ⟨by have := HJ2.out; have := HJ13.out; have := HK3.out; first | omega | exact Nat.le_refl _⟩, ⟨by (with_reducible repeat (first | apply Kd.R_alloc | apply Kd.R_drewN | apply Kd.R_drew)); exact HO_5.out⟩, ⟨by repeat (first | (with_reducible first | exact HB.out | apply below_alloc | apply pw_below_drewN | apply below_drew1) | exact HB.out)⟩⟩
                                    · rw [if_neg c48] at H
                                      have c48b0 : (t242 == t245) = false := beq_eq_false_iff_ne.mpr c48
                                      have c48b1 : (t242 != t245) = true := bne_iff_ne.mpr c48
                                      have H' := Aside0.mk H
                                      clear H
                                      go_wp2
                                      go_meet
                                      case rel => exact ⟨_, (true), (by first | rfl | (simp; done) | (simp [*]; done)), H', ⟨by have := HJ2.out; have := HJ13.out; have := HK3.out; first | omega | exact Nat.le_refl _⟩, ⟨by (with_reducible repeat (first | apply Kd.R_alloc | apply Kd.R_drewN | apply Kd.R_drew)); exact HO_5.out⟩, ⟨by repeat (first | (with_reducible first | exact HB.out | apply below_alloc | apply pw_below_drewN | apply below_drew1) | exact HB.out)⟩⟩
                                  · rw [if_neg c47] at H
                                    have c47b0 : (t241 == t244) = false := beq_eq_false_iff_ne.mpr c47
                                    have c47b1 : (t241 != t244) = true := bne_iff_ne.mpr c47
                                    have H' := Aside0.mk H
                                    clear H
                                    go_wp2
                                    go_meet
                                    case rel => exact ⟨_, (true), (by first | rfl | (simp; done) | (simp [*]; done)), H', ⟨by have := HJ2.out; have := HJ13.out; have := HK3.out; first | omega | exact Nat.le_refl _⟩, ⟨by (with_reducible repeat (first | apply Kd.R_alloc | apply Kd.R_drewN | apply Kd.R_drew)); exact HO_5.out⟩, ⟨by repeat (first | (with_reducible first | exact HB.out | apply below_alloc | apply pw_below_drewN | apply below_drew1) | exact HB.out)⟩⟩
                                · rw [if_neg c46] at H
                                  have c46b0 : (t243 == 0) = false := beq_eq_false_iff_ne.mpr c46
                                  have c46b1 : (t243 != 0) = true := bne_iff_ne.mpr c46
                                  have H' := Aside0.mk H
                                  clear H
                                  go_wp2
                                  go_meet
                                  case rel => exact ⟨_, (true), (by first | rfl | (simp; done) | (simp [*]; done)), H', ⟨by have := HJ2.out; have := HJ13.out; have := HK3.out; first | omega | exact Nat.le_refl _⟩, ⟨by (with_reducible repeat (first | apply Kd.R_alloc | apply Kd.R_drewN | apply Kd.R_drew)); exact HO_5.out⟩, ⟨by repeat (first | (with_reducible first | exact HB.out | apply below_alloc | apply pw_below_drewN | apply below_drew1) | exact HB.out)⟩⟩
                              · rw [if_neg c45] at H
                                have c45b0 : (t243 == t246) = false := beq_eq_false_iff_ne.mpr c45
                                have c45b1 : (t243 != t246) = true := bne_iff_ne.mpr c45
                                (first | rw [c45b0] | (simp only [i64_w, i32_w]; rw [c45b0]) | skip)
                                have H' := Aside0.mk H
                                clear H
                                go_wp2
                                go_meet
                                case rel => exact ⟨_, (true), (by first | rfl | (simp; done) | (simp [*]; done)), H', ⟨by have := HJ2.out; have := HJ13.out; have := HK3.out; first | omega | exact Nat.le_refl _⟩, ⟨by (with_reducible repeat (first | apply Kd.R_alloc | apply Kd.R_drewN | apply Kd.R_drew)); exact HO_5.out⟩, ⟨by repeat (first | (with_reducible first | exact HB.out | apply below_alloc | apply pw_below_drewN | apply below_drew1) | exact HB.out)⟩⟩
                          case rest =>
                            as_aux_lemma =>
                              clear HC42
                              try clear c1
                              try clear c2
                              try clear p2
                              try clear q2
                              try clear hx2
                              try clear qi2
                              try clear c3
                              try clear c4
                              try clear c5
                              try clear c6
                              try clear p6
                              try clear c7
                              try clear c8
                              try clear c18
                              try clear c19
                              try clear c20
                              try clear c21
                              try clear c22
                              try clear c22b0
                              try clear c22b1
                              try clear c23
                              try clear c23b0
                              try clear c23b1
                              try clear p23
                              try clear q23
                              try clear hx23
                              try clear qi23
                              try clear c24
                              try clear c24b0
                              try clear c24b1
                              try clear c25
                              try clear c25b0
                              try clear c25b1
                              try clear c26
                              try clear c26b0
                              try clear c27
                              try clear c27b0
                              try clear c27b1
                              try clear c28
                              try clear c28b0
                              try clear c28b1
                              try clear c29
                              try clear c29b0
                              try clear c29b1
                              try clear c30
                              try clear c31
                              try clear c31b0
                              try clear c33
                              try clear c33b0
                              try clear c33b1
                              try clear c34
                              try clear c34b0
                              try clear c34b1
                              try clear c34b2
                              try clear c37
                              try clear c37b0
                              try clear c37b1
                              try clear c37b2
                              try clear c45
                              try clear c45b0
                              try clear c45b1
                              try clear c46
                              try clear c46b0
                              try clear c46b1
                              try clear c47
                              try clear c47b0
                              try clear c47b1
                              try clear c48
                              try clear c48b0
                              try clear c48b1
                              try clear c49
                              try clear c49b0
                              try clear c50
                              try clear c50b0
                              try clear hx235_0
                              try clear p2
                              try clear p23
                              try clear p235
                              try clear p6
                              try clear q2
                              try clear q23
                              try clear q235
                              obtain ⟨kq, x172_41, rfl, HA, HJ41, HO_5, HB⟩ := hcut
                              cases kq with
                              | zero => exact absurd HA.out (by simp [laws_FnReach.j3])
                              | succ kj41 =>
                                have H := HA.out
                                clear HA
                                simp only [laws_FnReach.j3] at H
                                by_cases c52 : x172_41 = true
                                · subst c52
                                  have H1 : (some false) = some r := by rw [if_pos rfl] at H; exact H
                                  clear H
                                  have H := H1
                                  clear H1
                                  obtain rfl := Option.some.inj H
                                  go_wp2
                                  go_ret
                                  exact ⟨by first | rfl | (simp [errW_none, errW_some] <;> rfl) | (simp [*, errW_none, errW_some] <;> rfl), by repeat (first | (with_reducible first | exact HB.out | apply below_alloc | apply pw_below_drewN | apply below_drew1) | exact HB.out)⟩
                                · replace c52 := Bool.eq_false_iff.mpr c52
                                  subst c52
                                  have H1 : (laws_FnReach.l1 kj41 t223 (wrap64 (1 + t226)) t244 t245 1) = some r := by rw [if_neg (show ¬ (false = true) by decide)] at H; exact H
                                  clear H
                                  have H := H1
                                  clear H1
                                  have H' := Aside0.mk H
                                  clear H
                                  go_wp2
                                  go_loopg [25] kj41 (fun kq v25 w' => ∃ (x25_5 : Int), v25 = .int .i64 x25_5 ∧ Aside0 (laws_FnReach.l1 kq t223 (wrap64 (1 + t226)) t244 t245 x25_5 = some r) ∧ Aside0 (kq ≤ kj41) ∧ Aside0 (Kd.R (Kd.int .i64) 2 w' w.heap.size (fun _ => True) (.slice Ao17 t223.length co17) t223) ∧ Aside0 (Below w.heap.size w w'))
                                  case atStart => exact ⟨(1), (by first | rfl | (simp; done) | (simp [*]; done)), H', ⟨Nat.le_refl _⟩, ⟨by (with_reducible repeat (first | apply Kd.R_alloc | apply Kd.R_drewN | apply Kd.R_drew)); exact HO_5.out⟩, ⟨by repeat (first | (with_reducible first | exact HB.out | apply below_alloc | apply pw_below_drewN | apply below_drew1) | exact HB.out)⟩⟩
                                  case round =>
                                    as_aux_lemma =>
                                      clear H'
                                      try clear c1
                                      try clear c2
                                      try clear p2
                                      try clear q2
                                      try clear hx2
                                      try clear qi2
                                      try clear c3
                                      try clear c4
                                      try clear c5
                                      try clear c6
                                      try clear p6
                                      try clear c7
                                      try clear c8
                                      try clear c18
                                      try clear c19
                                      try clear c20
                                      try clear c21
                                      try clear c22
                                      try clear c22b0
                                      try clear c22b1
                                      try clear c23
                                      try clear c23b0
                                      try clear c23b1
                                      try clear p23
                                      try clear q23
                                      try clear hx23
                                      try clear qi23
                                      try clear c24
                                      try clear c24b0
                                      try clear c24b1
                                      try clear c25
                                      try clear c25b0
                                      try clear c25b1
                                      try clear c26
                                      try clear c26b0
                                      try clear c27
                                      try clear c27b0
                                      try clear c27b1
                                      try clear c28
                                      try clear c28b0
                                      try clear c28b1
                                      try clear c29
                                      try clear c29b0
                                      try clear c29b1
                                      try clear c30
                                      try clear c31
                                      try clear c31b0
                                      try clear c33
                                      try clear c33b0
                                      try clear c33b1
                                      try clear c34
                                      try clear c34b0
                                      try clear c34b1
                                      try clear c34b2
                                      try clear c37
                                      try clear c37b0
                                      try clear c37b1
                                      try clear c37b2
                                      try clear c45
                                      try clear c45b0
                                      try clear c45b1
                                      try clear c46
                                      try clear c46b0
                                      try clear c46b1
                                      try clear c47
                                      try clear c47b0
                                      try clear c47b1
                                      try clear c48
                                      try clear c48b0
                                      try clear c48b1
                                      try clear c49
                                      try clear c49b0
                                      try clear c50
                                      try clear c50b0
                                      try clear c52
                                      try clear hx235_0
                                      try clear p2
                                      try clear p23
                                      try clear p235
                                      try clear p6
                                      try clear q2
                                      try clear q23
                                      try clear q235
                                      obtain ⟨x25_5, rfl, HA, HK5, HO_5, HB⟩ := hrel
                                      cases gk with
                                      | zero => exact absurd HA.out (by simp [laws_FnReach.l1])
                                      | succ k5 =>
                                        have H := HA.out
                                        clear HA
                                        simp only [laws_FnReach.l1] at H
                                        by_cases c53 : x25_5 ≤ 12
                                        · rw [if_pos c53] at H
                                          have c53b0 : decide (x25_5 ≤ 12) = true := decide_eq_true c53
                                          clear c53
                                          replace H := Option.bind_eq_some_iff.mp H
                                          obtain ⟨t248, A540, H⟩ := H
                                          replace H : (if t248 = true then (laws_FnReach.l1 k5 t223 (wrap64 (1 + t226)) t244 t245 (wrap64 (x25_5 + 1))) else (laws_FnReach.l2 k5 t223 (wrap64 (1 + t226)) t244 t245 x25_5 (([] : List Int)) 0)) = some r := H
                                          have A54 := Aside0.mk A540
                                          clear A540
                                          by_cases c55 : t248 = true
                                          · subst c55
                                            have H1 : (laws_FnReach.l1 k5 t223 (wrap64 (1 + t226)) t244 t245 (wrap64 (x25_5 + 1))) = some r := by rw [if_pos rfl] at H; exact H
                                            clear H
                                            have H := H1
                                            clear H1
                                            have H' := Aside0.mk H
                                            clear H
                                            go_wp2_with (first | ((with_reducible refine gate_callee (f := 15) rfl ?_); refine goesL_ (some 179) rfl rfl Try.func15 (by kernel_rfl) rfl #[.slice Ao17 t223.length co17, .int .i64 x25_5] rfl (by (try simp only [List.map_toArray, List.map_cons, List.map_nil]); first | done | rfl | (simp only [List.length_drop, List.length_take]; rfl)) ?_; (with_reducible refine (spec_HasNumber.calls k5 _ _ t223 x25_5 true _ ?side1 ?side2 A54.out).mono ?_); (case side1 => repeat (first | exact (Kd.R_reads' HO_5.out).2.2 | (with_reducible refine Kd.C_alloc ?_ _) | (with_reducible refine Kd.C_drewN ?_ _) | (with_reducible refine Kd.C_drew ?_))); (case side2 => exact (Kd.R_reads' HO_5.out).2.1); rintro e w' ⟨rfl, ⟨nd, rfl⟩⟩; refine ⟨_, rfl, ?_⟩))
                                            go_roundg k5
                                            case measure => have := HJ2.out; have := HJ13.out; have := HK3.out; have := HJ41.out; have := HK5.out; omega
                                            case rel => exact ⟨(wrap64 (x25_5 + 1)), (by first | rfl | (simp; done) | (simp [*]; done)), H', ⟨by have := HJ2.out; have := HJ13.out; have := HK3.out; have := HJ41.out; have := HK5.out; omega⟩, ⟨by (with_reducible repeat (first | apply Kd.R_alloc | apply Kd.R_drewN | apply Kd.R_drew)); exact HO_5.out⟩, ⟨by repeat (first | (with_reducible first | exact HB.out | apply below_alloc | apply pw_below_drewN | apply below_drew1) | exact HB.out)⟩⟩
                                          · replace c55 := Bool.eq_false_iff.mpr c55
                                            subst c55
                                            have H1 : (laws_FnReach.l2 k5 t223 (wrap64 (1 + t226)) t244 t245 x25_5 (([] : List Int)) 0) = some r := by rw [if_neg (show ¬ (false = true) by decide)] at H; exact H
                                            clear H
                                            have H := H1
                                            clear H1
                                            obtain ⟨y249, hy249⟩ : ∃ y_ : List Int, y_ = (([] : List Int)) := ⟨_, rfl⟩
                                            replace H : (laws_FnReach.l2 k5 t223 (wrap64 (1 + t226)) t244 t245 x25_5 y249 0) = some r := by first | (rw [hy249]; with_reducible exact H) | (have H2_ := (Option.bind_some _ _).symm.trans H; rw [hy249]; with_reducible exact H2_) | (have H2_ := (Option.bind_some _ _).symm.trans H; with_reducible exact H2_) | with_reducible exact H | (rw [hy249]; exact H) | exact H
                                            have Ny249 := Aside0.mk hy249
                                            clear hy249
                                            have H' := Aside0.mk H
                                            clear H
                                            go_wp2_with (first | ((with_reducible refine gate_callee (f := 15) rfl ?_); refine goesL_ (some 179) rfl rfl Try.func15 (by kernel_rfl) rfl #[.slice Ao17 t223.length co17, .int .i64 x25_5] rfl (by (try simp only [List.map_toArray, List.map_cons, List.map_nil]); first | done | rfl | (simp only [List.length_drop, List.length_take]; rfl)) ?_; (with_reducible refine (spec_HasNumber.calls k5 _ _ t223 x25_5 false _ ?side1 ?side2 A54.out).mono ?_); (case side1 => repeat (first | exact (Kd.R_reads' HO_5.out).2.2 | (with_reducible refine Kd.C_alloc ?_ _) | (with_reducible refine Kd.C_drewN ?_ _) | (with_reducible refine Kd.C_drew ?_))); (case side2 => exact (Kd.R_reads' HO_5.out).2.1); rintro e w' ⟨rfl, ⟨nd, rfl⟩⟩; refine ⟨_, rfl, ?_⟩) | ((with_reducible refine gate_dst (N := 180) rfl ?_); refine Kd.R_lit (Kd.int .i64) _ 2 ?hg (N := 180) ?hd (xs := ([] : List Int)) (inner := []) (ok := fun _ => True) (okp := fun _ => True) ?hr ?hp (fun _ hk => hk) trivial (Below.refl _ _) (Nat.le_refl _) (by simp) ?_; (case hd => rfl); (case hg => rfl); (case hr => first | (go_simp; done) | (go_simp; rfl)); (case hp => exact (Reps.none _ _)); intro v250 w56 ho57 hb hg_ hnew_; clear hg_ hnew_; (first | rw [← Ny249.out] at ho57 | (simp only [Int.reduceToNat] at ho57; rw [← Ny249.out] at ho57)); have n0_ := Aside0.mk (Kd.R_elder' (by (with_reducible repeat (first | apply Kd.R_alloc | apply Kd.R_drewN | apply Kd.R_drew)); exact HO_5.out) (Kd.R_base ho57) hb); have n1_ := Aside0.mk (Kd.R_lower (Kd.R_new' ho57 (Kd.R_lt (by (with_reducible repeat (first | apply Kd.R_alloc | apply Kd.R_drewN | apply Kd.R_drew)); exact HO_5.out))) (below_size (by repeat (first | (with_reducible first | exact HB.out | apply below_alloc | apply pw_below_drewN | apply below_drew1) | exact HB.out)))); have n2_ := Aside0.mk (below_step (by repeat (first | (with_reducible first | exact HB.out | apply below_alloc | apply pw_below_drewN | apply below_drew1) | exact HB.out)) hb); clear HO_5; clear HB; have HO_5 := n0_; have HO251 := n1_; have HB := n2_; clear n0_ n1_ n2_; clear hb ho57))
                                            go_loopg [26, 27] k5 (fun kq v26 v27 w' => ∃ (x26_6 : List Int) (x27_6 : Int), v27 = .int .i64 x27_6 ∧ Aside0 (laws_FnReach.l2 kq t223 (wrap64 (1 + t226)) t244 t245 x25_5 x26_6 x27_6 = some r) ∧ Aside0 (kq ≤ k5) ∧ Aside0 (Kd.R (Kd.int .i64) 2 w' w.heap.size (fun k_ => some k_ ≠ (v26 : Value).ownBlock) (.slice Ao17 t223.length co17) t223) ∧ Aside0 (Kd.R (Kd.int .i64) 2 w' w.heap.size (fun k_ => some k_ ≠ ((.slice Ao17 t223.length co17) : Value).ownBlock) v26 x26_6) ∧ Aside0 (Below w.heap.size w w'))
                                            case atStart => exact ⟨(y249), (0), (by first | rfl | (simp; done) | (simp [*]; done)), H', ⟨Nat.le_refl _⟩, ⟨by (with_reducible repeat (first | apply Kd.R_alloc | apply Kd.R_drewN | apply Kd.R_drew)); exact Kd.R_mono HO_5.out (fun _ hk => hk.2)⟩, ⟨by (with_reducible repeat (first | apply Kd.R_alloc | apply Kd.R_drewN | apply Kd.R_drew)); exact Kd.R_mono HO251.out (fun _ hk => hk.2)⟩, ⟨by repeat (first | (with_reducible first | exact HB.out | apply below_alloc | apply pw_below_drewN | apply below_drew1) | exact HB.out)⟩⟩
                                            case round =>
                                              as_aux_lemma =>
                                                clear H'
                                                try clear c1
                                                try clear c2
                                                try clear p2
                                                try clear q2
                                                try clear hx2
                                                try clear qi2
                                                try clear c3
                                                try clear c4
                                                try clear c5
                                                try clear c6
                                                try clear p6
                                                try clear c7
                                                try clear c8
                                                try clear c15
                                                try clear c18
                                                try clear c19
                                                try clear c20
                                                try clear c21
                                                try clear c22
                                                try clear c22b0
                                                try clear c22b1
                                                try clear c23
                                                try clear c23b0
                                                try clear c23b1
                                                try clear p23
                                                try clear q23
                                                try clear hx23
                                                try clear qi23
                                                try clear c24
                                                try clear c24b0
                                                try clear c24b1
                                                try clear c25
                                                try clear c25b0
                                                try clear c25b1
                                                try clear c26
                                                try clear c26b0
                                                try clear c27
                                                try clear c27b0
                                                try clear c27b1
                                                try clear c28
                                                try clear c28b0
                                                try clear c28b1
                                                try clear c29
                                                try clear c29b0
                                                try clear c29b1
                                                try clear c30
                                                try clear c31
                                                try clear c31b0
                                                try clear c33
                                                try clear c33b0
                                                try clear c33b1
                                                try clear c34
                                                try clear c34b0
                                                try clear c34b1
                                                try clear c34b2
                                                try clear c37
                                                try clear c37b0
                                                try clear c37b1
                                                try clear c37b2
                                                try clear c45
                                                try clear c45b0
                                                try clear c45b1
                                                try clear c46
                                                try clear c46b0
                                                try clear c46b1
                                                try clear c47
                                                try clear c47b0
                                                try clear c47b1
                                                try clear c48
                                                try clear c48b0
                                                try clear c48b1
                                                try clear c49
                                                try clear c49b0
                                                try clear c50
                                                try clear c50b0
                                                try clear c52
                                                try clear c53
                                                try clear c53b0
                                                try clear c55
                                                try clear hx235_0
                                                try clear p2
                                                try clear p23
                                                try clear p235
                                                try clear p6
                                                try clear q2
                                                try clear q23
                                                try clear q235
                                                obtain ⟨x26_6, x27_6, rfl, HA, HK6, HO_5, HO_26, HB⟩ := hrel
                                                cases gk with
                                                | zero => exact absurd HA.out (by simp [laws_FnReach.l2])
                                                | succ k6 =>
                                                  have H := HA.out
                                                  clear HA
                                                  simp only [laws_FnReach.l2] at H
                                                  by_cases c58 : x27_6 < (t223.length : Int)
                                                  · rw [if_pos c58] at H
                                                    have c58b0 : decide (x27_6 < (t223.length : Int)) = true := decide_eq_true c58
                                                    clear c58
                                                    by_cases c59 : 0 ≤ x27_6
                                                    · rw [if_pos c59] at H
                                                      have c59b0 : decide (0 ≤ x27_6) = true := decide_eq_true c59
                                                      clear c59
                                                      by_cases c60 : (rd t223 x27_6) < x25_5
                                                      · rw [if_pos c60] at H
                                                        have c60b0 : decide ((rd t223 x27_6) < x25_5) = true := decide_eq_true c60
                                                        clear c60
                                                        by_cases c61 : x26_6.length < 17592186044416
                                                        · rw [if_pos c61] at H
                                                          have LMc61 := Aside0.mk c61
                                                          clear c61
                                                          obtain ⟨y254, hy254⟩ : ∃ y_ : List Int, y_ = (x26_6 ++ [rd t223 x27_6]) := ⟨_, rfl⟩
                                                          replace H : (laws_FnReach.l2 k6 t223 (wrap64 (1 + t226)) t244 t245 x25_5 y254 (wrap64 (x27_6 + 1))) = some r := by first | (rw [hy254]; with_reducible exact H) | (have H2_ := (Option.bind_some _ _).symm.trans H; rw [hy254]; with_reducible exact H2_) | (have H2_ := (Option.bind_some _ _).symm.trans H; with_reducible exact H2_) | with_reducible exact H | (rw [hy254]; exact H) | exact H
                                                          have Ny254 := Aside0.mk hy254
                                                          clear hy254
                                                          have H' := Aside0.mk H
                                                          clear H
                                                          have p252 : 0 ≤ (x27_6 : Int) := of_decide_eq_true (by first | (with_reducible assumption) | assumption)
                                                          have q252 : x27_6 < (t223.length : Int) := of_decide_eq_true (by first | (with_reducible assumption) | assumption)
                                                          obtain ⟨ad252, e252, hx252_0⟩ := Kd.at_int (Kd.R_reads' HO_5.out).2.2 x27_6 p252 q252
                                                          cases e252
                                                          replace p252 := eq_true p252
                                                          replace q252 := eq_true q252
                                                          have p253 : 0 ≤ (x27_6 : Int) := of_decide_eq_true (by first | (with_reducible assumption) | assumption)
                                                          have q253 : x27_6 < (t223.length : Int) := of_decide_eq_true (by first | (with_reducible assumption) | assumption)
                                                          obtain ⟨ad253, e253, hx253_0⟩ := Kd.at_int (Kd.R_reads' HO_5.out).2.2 x27_6 p253 q253
                                                          obtain rfl : ad252 = ad253 := (by injection e253)
                                                          replace p253 := eq_true p253
                                                          replace q253 := eq_true q253
                                                          go_wp2_with (first | ((with_reducible refine gate_builtin (b := .append) (xs := #[.tmp 193, .tmp 198]) rfl ?_); at_builtin; refine Kd.R_append (Kd.int .i64) (w0 := w) w.heap.size rfl (.tmp 193) (.tmp 198) 24 2 (.int .i64 0) 8 rfl Try.underlying24 info2 rfl (by decide) (by omega) u26 x26_6 (rd t223 x27_6) [.int .i64 (rd t223 x27_6)] (fun k_ => some k_ ≠ (.slice (some ad252) t223.length co17 : Value).ownBlock) (fun _ => False) rfl rfl ?aP (fun _ hk => hk.elim) ?aF ?aO ?aB ?aS ?aL ?_; (case aP => exact rfl); (case aB => exact (by repeat (first | (with_reducible first | exact HB.out | apply below_alloc | apply pw_below_drewN | apply below_drew1) | exact HB.out))); (case aF => exact (fun k_ hk => Kd.fresh' (Kd.R_lt (by (with_reducible repeat (first | apply Kd.R_alloc | apply Kd.R_drewN | apply Kd.R_drew)); exact HO_5.out)) k_ hk)); (case aO => exact (by (with_reducible repeat (first | apply Kd.R_alloc | apply Kd.R_drewN | apply Kd.R_drew)); exact HO_26.out)); (case aS => exact (below_size (by repeat (first | (with_reducible first | exact HB.out | apply below_alloc | apply pw_below_drewN | apply below_drew1) | exact HB.out)))); (case aL => have := LMc61.out; omega); intro v255 w62 ho hb hg hat; rw [← Ny254.out] at ho; have n0_ := Aside0.mk (Kd.R_after (ok := (fun _ => True)) (by (with_reducible repeat (first | apply Kd.R_alloc | apply Kd.R_drewN | apply Kd.R_drew)); exact Kd.R_mono HO_5.out (fun _ hk => ⟨trivial, hk⟩)) hg hat); have n1_ := Aside0.mk (hb); have n2_ := Aside0.mk (ho); clear HO_5; clear HB; clear HO_26; have HO_5 := n0_; have HB := n1_; have HO256 := n2_; clear n0_ n1_ n2_; clear ho hb hg hat))
                                                          go_roundg k6
                                                          case measure => have := HJ2.out; have := HJ13.out; have := HK3.out; have := HJ41.out; have := HK5.out; have := HK6.out; omega
                                                          case rel => exact ⟨(y254), (wrap64 (x27_6 + 1)), (by first | rfl | (simp; done) | (simp [*]; done)), H', ⟨by have := HJ2.out; have := HJ13.out; have := HK3.out; have := HJ41.out; have := HK5.out; have := HK6.out; omega⟩, ⟨by (with_reducible repeat (first | apply Kd.R_alloc | apply Kd.R_drewN | apply Kd.R_drew)); exact Kd.R_mono HO_5.out (fun _ hk => hk.2)⟩, ⟨by (with_reducible repeat (first | apply Kd.R_alloc | apply Kd.R_drewN | apply Kd.R_drew)); exact HO256.out⟩, ⟨by repeat (first | (with_reducible first | exact HB.out | apply below_alloc | apply pw_below_drewN | apply below_drew1) | exact HB.out)⟩⟩
                                                        · rw [if_neg c61] at H
                                                          exact absurd H (by simp)
                                                      · rw [if_neg c60] at H
                                                        have c60b0 : decide ((rd t223 x27_6) < x25_5) = false := decide_eq_false c60
                                                        clear c60
                                                        have H' := Aside0.mk H
                                                        clear H
                                                        have p252 : 0 ≤ (x27_6 : Int) := of_decide_eq_true (by first | (with_reducible assumption) | assumption)
                                                        have q252 : x27_6 < (t223.length : Int) := of_decide_eq_true (by first | (with_reducible assumption) | assumption)
                                                        obtain ⟨ad252, e252, hx252_0⟩ := Kd.at_int (Kd.R_reads' HO_5.out).2.2 x27_6 p252 q252
                                                        cases e252
                                                        replace p252 := eq_true p252
                                                        replace q252 := eq_true q252
                                                        go_wp2
                                                        go_roundg k6
                                                        case measure => have := HJ2.out; have := HJ13.out; have := HK3.out; have := HJ41.out; have := HK5.out; have := HK6.out; omega
                                                        case rel => exact ⟨(x26_6), (wrap64 (x27_6 + 1)), (by first | rfl | (simp; done) | (simp [*]; done)), H', ⟨by have := HJ2.out; have := HJ13.out; have := HK3.out; have := HJ41.out; have := HK5.out; have := HK6.out; omega⟩, ⟨by (with_reducible repeat (first | apply Kd.R_alloc | apply Kd.R_drewN | apply Kd.R_drew)); exact HO_5.out⟩, ⟨by (with_reducible repeat (first | apply Kd.R_alloc | apply Kd.R_drewN | apply Kd.R_drew)); exact HO_26.out⟩, ⟨by repeat (first | (with_reducible first | exact HB.out | apply below_alloc | apply pw_below_drewN | apply below_drew1) | exact HB.out)⟩⟩
                                                    · rw [if_neg c59] at H
                                                      exact absurd H (by simp)
                                                  · rw [if_neg c58] at H
                                                    have c58b0 : decide (x27_6 < (t223.length : Int)) = false := decide_eq_false c58
                                                    clear c58
                                                    by_cases c63 : x26_6.length < 17592186044416
                                                    · rw [if_pos c63] at H
                                                      have LMc63 := Aside0.mk c63
                                                      clear c63
                                                      obtain ⟨y257, hy257⟩ : ∃ y_ : List Int, y_ = (x26_6 ++ [x25_5]) := ⟨_, rfl⟩
                                                      replace H : (if 0 ≤ (x26_6.length : Int) then (if (x26_6.length : Int) ≤ (t223.length : Int) then ((some (t223.drop ((x26_6.length : Int) : Int).toNat : List Int)).bind fun y260 => (if y257.length + y260.length < 17592186044416 then ((impl_ReachOf.f k6 (y257 ++ y260) (wrap64 (1 + t226))).bind fun bt267 => (if bt267.2 = 0 then (if bt267.1 > t245 then (some false) else (if bt267.1 = t245 then (if x25_5 < t244 then (some false) else (if x25_5 = t244 then (laws_FnReach.l1 k6 t223 (wrap64 (1 + t226)) t244 t245 (wrap64 (x25_5 + 1))) else (laws_FnReach.l1 k6 t223 (wrap64 (1 + t226)) t244 t245 (wrap64 (x25_5 + 1))))) else (if x25_5 = t244 then (some false) else (laws_FnReach.l1 k6 t223 (wrap64 (1 + t226)) t244 t245 (wrap64 (x25_5 + 1)))))) else (some false))) else (none))) else (none)) else (none)) = some r := by first | (rw [hy257]; with_reducible exact H) | (have H2_ := (Option.bind_some _ _).symm.trans H; rw [hy257]; with_reducible exact H2_) | (have H2_ := (Option.bind_some _ _).symm.trans H; with_reducible exact H2_) | with_reducible exact H | (rw [hy257]; exact H) | exact H
                                                      have Ny257 := Aside0.mk hy257
                                                      clear hy257
                                                      by_cases c64 : 0 ≤ (x26_6.length : Int)
                                                      · rw [if_pos c64] at H
                                                        have c64b0 := eq_true c64
                                                        have c64b1 : decide (0 ≤ (x26_6.length : Int)) = true := decide_eq_true c64
                                                        clear c64
                                                        by_cases c65 : (x26_6.length : Int) ≤ (t223.length : Int)
                                                        · rw [if_pos c65] at H
                                                          have c65b0 := eq_true c65
                                                          have c65b1 : decide ((x26_6.length : Int) ≤ (t223.length : Int)) = true := decide_eq_true c65
                                                          clear c65
                                                          obtain ⟨y260, hy260⟩ : ∃ y_ : List Int, y_ = (t223.drop ((x26_6.length : Int) : Int).toNat) := ⟨_, rfl⟩
                                                          replace H : (if y257.length + y260.length < 17592186044416 then ((impl_ReachOf.f k6 (y257 ++ y260) (wrap64 (1 + t226))).bind fun bt267 => (if bt267.2 = 0 then (if bt267.1 > t245 then (some false) else (if bt267.1 = t245 then (if x25_5 < t244 then (some false) else (if x25_5 = t244 then (laws_FnReach.l1 k6 t223 (wrap64 (1 + t226)) t244 t245 (wrap64 (x25_5 + 1))) else (laws_FnReach.l1 k6 t223 (wrap64 (1 + t226)) t244 t245 (wrap64 (x25_5 + 1))))) else (if x25_5 = t244 then (some false) else (laws_FnReach.l1 k6 t223 (wrap64 (1 + t226)) t244 t245 (wrap64 (x25_5 + 1)))))) else (some false))) else (none)) = some r := by first | (rw [hy260]; with_reducible exact H) | (have H2_ := (Option.bind_some _ _).symm.trans H; rw [hy260]; with_reducible exact H2_) | (have H2_ := (Option.bind_some _ _).symm.trans H; with_reducible exact H2_) | with_reducible exact H | (rw [hy260]; exact H) | exact H
                                                          have Ny260 := Aside0.mk hy260
                                                          clear hy260
                                                          by_cases c66 : y257.length + y260.length < 17592186044416
                                                          · rw [if_pos c66] at H
                                                            have LMc66 := Aside0.mk c66
                                                            clear c66
                                                            obtain ⟨y264, hy264⟩ : ∃ y_ : List Int, y_ = (y257 ++ y260) := ⟨_, rfl⟩
                                                            replace H : ((impl_ReachOf.f k6 y264 (wrap64 (1 + t226))).bind fun bt267 => (if bt267.2 = 0 then (if bt267.1 > t245 then (some false) else (if bt267.1 = t245 then (if x25_5 < t244 then (some false) else (if x25_5 = t244 then (laws_FnReach.l1 k6 t223 (wrap64 (1 + t226)) t244 t245 (wrap64 (x25_5 + 1))) else (laws_FnReach.l1 k6 t223 (wrap64 (1 + t226)) t244 t245 (wrap64 (x25_5 + 1))))) else (if x25_5 = t244 then (some false) else (laws_FnReach.l1 k6 t223 (wrap64 (1 + t226)) t244 t245 (wrap64 (x25_5 + 1)))))) else (some false))) = some r := by first | (rw [hy264]; with_reducible exact H) | (have H2_ := (Option.bind_some _ _).symm.trans H; rw [hy264]; with_reducible exact H2_) | (have H2_ := (Option.bind_some _ _).symm.trans H; with_reducible exact H2_) | with_reducible exact H | (rw [hy264]; exact H) | exact H
                                                            have Ny264 := Aside0.mk hy264
                                                            clear hy264
                                                            replace H := Option.bind_eq_some_iff.mp H
                                                            obtain ⟨⟨t267, t268⟩, A670, H⟩ := H
                                                            replace H : (if t268 = 0 then (if t267 > t245 then (some false) else (if t267 = t245 then (if x25_5 < t244 then (some false) else (if x25_5 = t244 then (laws_FnReach.l1 k6 t223 (wrap64 (1 + t226)) t244 t245 (wrap64 (x25_5 + 1))) else (laws_FnReach.l1 k6 t223 (wrap64 (1 + t226)) t244 t245 (wrap64 (x25_5 + 1))))) else (if x25_5 = t244 then (some false) else (laws_FnReach.l1 k6 t223 (wrap64 (1 + t226)) t244 t245 (wrap64 (x25_5 + 1)))))) else (some false)) = some r := H
                                                            have A67 := Aside0.mk A670
                                                            clear A670
                                                            by_cases c68 : t268 = 0
                                                            · rw [if_pos c68] at H
                                                              have c68b0 : (t268 == 0) = true := beq_iff_eq.mpr c68
                                                              have c68b1 : (t268 != 0) = false := bne_eq_false_iff_eq.mpr c68
                                                              clear c68
                                                              by_cases c69 : t267 > t245
                                                              · rw [if_pos c69] at H
                                                                have c69b0 : decide (t245 < t267) = true := decide_eq_true c69
                                                                clear c69
                                                                obtain rfl := Option.some.inj H
                                                                obtain ⟨Ao70, co70, eo70⟩ := Kd.R_slice HO_26.out
                                                                subst eo70
                                                                try go_wp2
                                                                have n0_ := Aside0.mk (Kd.R_drew HO_5.out)
                                                                have n1_ := Aside0.mk (Kd.R_drew HO_26.out)
                                                                have n2_ := Aside0.mk (below_drew1 HB.out)
                                                                clear HO_5
                                                                clear HO_26
                                                                clear HB
                                                                have HO_5 := n0_
                                                                have HO_26 := n1_
                                                                have HB := n2_
                                                                clear n0_ n1_ n2_
                                                                have q72 : ((x26_6.length : Int) : Int) ≤ ((t223.length : Int) : Int) := of_decide_eq_true (by first | (with_reducible assumption) | assumption)
                                                                obtain ⟨i072, hi072, _, hsz72, _⟩ := info_parts info2
                                                                have hroom72 : t223.length ≤ co17 := (Kd.R_reads' HO_5.out).2.1
                                                                have hC72 : Kd.C (Kd.int .i64) _ Ao17 t223.length t223 := (Kd.R_reads' HO_5.out).2.2
                                                                have q072 : (0 : Int) ≤ ((x26_6.length : Int) : Int) := of_decide_eq_true (by first | (with_reducible assumption) | assumption)
                                                                have hcut72 := cut_from (P := Try.prog) 24 2 .i64 Try.underlying24 hi072 1 hsz72 Ao17 t223.length co17 (x26_6.length : Int) q072 q72
                                                                have hr72 := Kd.C_drop (m := ((x26_6.length : Int) : Int).toNat) (c := co17) hC72 (by omega) hroom72
                                                                obtain ⟨A72, hA72⟩ : ∃ A1, A1 = (if co17 = ((x26_6.length : Int) : Int).toNat then Ao17 else (Ao17 : Option Addr).map (·.add (((x26_6.length : Int) : Int).toNat * 1))) := ⟨_, rfl⟩
                                                                obtain ⟨c72, hc72⟩ : ∃ c1, c1 = co17 - ((x26_6.length : Int) : Int).toNat := ⟨_, rfl⟩
                                                                have hy72 : y260.length = t223.length - ((x26_6.length : Int) : Int).toNat := (by rw [Ny260.out, List.length_drop] <;> omega)
                                                                rw [show (t223).drop ((x26_6.length : Int) : Int).toNat = y260 from Ny260.out.symm] at hr72
                                                                replace hr72 : Kd.C (Kd.int .i64) _ A72 y260.length y260 := (by rw [hA72]; exact hr72)
                                                                rw [← hy72, ← hA72, ← hc72] at hcut72
                                                                have HR263 := Aside0.mk hr72
                                                                have HC263 := Aside0.mk (show y260.length ≤ c72 from by rw [hy72, hc72]; exact Nat.sub_le_sub_right hroom72 _)
                                                                clear hr72 hC72 hroom72 hi072 hsz72 hc72
                                                                have KY72 := Aside0.mk hy72
                                                                have KA72 := Aside0.mk hA72
                                                                clear hy72 hA72
                                                                have KL72 := Aside0.mk (show ((x26_6.length : Int) : Int).toNat ≤ t223.length from by omega)
                                                                replace q72 := eq_true q72
                                                                refine start_ (n := 9) (S := fun w' => True) (ds := []) #[false, false, false, false, false, false, false, false, false] (by kernel_rfl) rfl rfl trivial (fun hHeld => ?_); refine with_tabW laws_FnReach.tab32 laws_FnReach.bits32 (fun HT_ HW_ => ?_)
                                                                generalize wr.drew = w71 at HO_5 HO_26 HB HR263 hHeld ⊢
                                                                refine pure_ (i := 0) (N := some 202) (v := ?_) (a' := ?_) #[true, false, false, false, false, false, false, false, false] rfl rfl (any_of HT_.out (by kernel_rfl)) (fun _ _ _ h => h) (Or.inl ⟨by rfl, ?_⟩) ?_ ?_
                                                                rotate_left
                                                                · intro w'
                                                                  go_simp
                                                                  with_reducible rfl
                                                                rotate_left
                                                                · simp only [Act.put, List.setIfInBounds_toArray, List.set_cons_zero, List.set_cons_succ, i64_w, i32_w]
                                                                  rfl
                                                                refine pure_ (i := 1) (N := some 203) (v := ?_) (a' := ?_) #[true, true, false, false, false, false, false, false, false] rfl rfl (any_of HT_.out (by kernel_rfl)) (fun _ _ _ h => h) (Or.inl ⟨by rfl, ?_⟩) ?_ ?_
                                                                rotate_left
                                                                · intro w'
                                                                  go_simp
                                                                  with_reducible rfl
                                                                rotate_left
                                                                · simp only [Act.put, List.setIfInBounds_toArray, List.set_cons_zero, List.set_cons_succ, i64_w, i32_w]
                                                                  rfl
                                                                refine pure_ (i := 4) (N := some 206) (v := ?_) (a' := ?_) #[true, true, false, false, true, false, false, false, false] rfl rfl (any_of HT_.out (by kernel_rfl)) (fun _ _ _ h => h) (Or.inl ⟨by rfl, ?_⟩) ?_ ?_
                                                                rotate_left
                                                                · intro w'
                                                                  go_simp
                                                                  with_reducible rfl
                                                                rotate_left
                                                                · simp only [Act.put, List.setIfInBounds_toArray, List.set_cons_zero, List.set_cons_succ, i64_w, i32_w]
                                                                  rfl
                                                                refine pure_ (i := 5) (N := some 207) (v := ?_) (a' := ?_) #[true, true, false, false, true, true, false, false, false] rfl rfl (any_of HT_.out (by kernel_rfl)) (fun _ _ _ h => h) (Or.inl ⟨by rfl, ?_⟩) ?_ ?_
                                                                rotate_left
                                                                · intro w'
                                                                  go_simp
                                                                  with_reducible rfl
                                                                rotate_left
                                                                · simp only [Act.put, List.setIfInBounds_toArray, List.set_cons_zero, List.set_cons_succ, i64_w, i32_w]
                                                                  rfl
                                                                refine pure_ (i := 6) (N := some 208) (v := ?_) (a' := ?_) #[true, true, false, false, true, true, true, false, false] rfl rfl (any_of HT_.out (by kernel_rfl)) (fun _ _ _ h => h) (Or.inl ⟨by rfl, ?_⟩) ?_ ?_
                                                                rotate_left
                                                                · intro w'
                                                                  go_simp
                                                                  with_reducible rfl
                                                                rotate_left
                                                                · simp only [Act.put, List.setIfInBounds_toArray, List.set_cons_zero, List.set_cons_succ, i64_w, i32_w]
                                                                  rfl
                                                                refine one_ (i := 2) (N := some 204) #[true, true, true, false, true, true, true, false, false] rfl rfl (one_of HT_.out (by kernel_rfl)) (by decide) (fun K hK => ?_)
                                                                refine value_ (w1 := ?_) (v := ?_) (by rfl) rfl ?_ ?_
                                                                rotate_left 2
                                                                · go_simp
                                                                  constructor
                                                                  · rfl
                                                                  · rfl
                                                                refine hK.out _ _ trivial (fun hHeld => ?_)
                                                                clear hK K
                                                                refine norm_ (a' := ?_) ?_ ?_
                                                                rotate_left
                                                                · show Act.put _ (some 204) _ = _
                                                                  simp only [Act.put, List.setIfInBounds_toArray, List.set_cons_zero, List.set_cons_succ, i64_w, i32_w]
                                                                  rfl
                                                                refine one_ (i := 3) (N := some 205) #[true, true, true, true, true, true, true, false, false] rfl rfl (one_of HT_.out (by kernel_rfl)) (by decide) (fun K hK => ?_)
                                                                refine Kd.R_append_step (Kd.int .i64) (w0 := w) w.heap.size (by rfl) (.tmp 202) (.tmp 204) 24 2 (.int .i64 0) 8 rfl Try.underlying24 info2 rfl (by decide) (by omega) (.slice Ao70 x26_6.length co70) x26_6 x25_5 [.int .i64 x25_5] (fun k_ => some k_ ≠ (.slice Ao17 t223.length co17 : Value).ownBlock) (fun _ => False) rfl rfl ?aP (fun _ hk => hk.elim) ?aF ?aO ?aB ?aS ?aL ?_
                                                                (case aP => exact rfl)
                                                                (case aB => exact (by repeat (first | (with_reducible first | exact HB.out | apply below_alloc | apply pw_below_drewN | apply below_drew1) | exact HB.out)))
                                                                (case aF => exact (fun k_ hk => Kd.fresh' (Kd.R_lt (by (with_reducible repeat (first | apply Kd.R_alloc | apply Kd.R_drewN | apply Kd.R_drew)); exact HO_5.out)) k_ hk))
                                                                (case aO => exact (by (with_reducible repeat (first | apply Kd.R_alloc | apply Kd.R_drewN | apply Kd.R_drew)); exact HO_26.out))
                                                                (case aS => exact (below_size (by repeat (first | (with_reducible first | exact HB.out | apply below_alloc | apply pw_below_drewN | apply below_drew1) | exact HB.out))))
                                                                (case aL => have := LMc63.out; omega)
                                                                intro v258 w73 ho hb hg hat
                                                                rw [← Ny257.out] at ho
                                                                have n0_ := Aside0.mk (Kd.R_after (ok := (fun _ => True)) (by (with_reducible repeat (first | apply Kd.R_alloc | apply Kd.R_drewN | apply Kd.R_drew)); exact Kd.R_mono HO_5.out (fun _ hk => ⟨trivial, hk⟩)) hg hat)
                                                                have n1_ := Aside0.mk (hb)
                                                                have n2_ := Aside0.mk ((show Kd.C (Kd.int .i64) w73 A72 y260.length y260 from by rw [Ny260.out, KA72.out]; exact Kd.C_drop (m := ((x26_6.length : Int) : Int).toNat) (c := co17) ((Kd.R_reads' (Kd.R_after (ok := (fun _ => True)) (by (with_reducible repeat (first | apply Kd.R_alloc | apply Kd.R_drewN | apply Kd.R_drew)); exact Kd.R_mono HO_5.out (fun _ hk => ⟨trivial, hk⟩)) hg hat)).2.2) KL72.out ((Kd.R_reads' (Kd.R_after (ok := (fun _ => True)) (by (with_reducible repeat (first | apply Kd.R_alloc | apply Kd.R_drewN | apply Kd.R_drew)); exact Kd.R_mono HO_5.out (fun _ hk => ⟨trivial, hk⟩)) hg hat)).2.1)))
                                                                have n3_ := Aside0.mk (ho)
                                                                clear HO_5
                                                                clear HB
                                                                clear HR263
                                                                clear HO_26
                                                                have HO_5 := n0_
                                                                have HB := n1_
                                                                have HR263 := n2_
                                                                have HO259 := n3_
                                                                clear n0_ n1_ n2_ n3_
                                                                clear ho hb hg hat
                                                                refine hK.out _ _ trivial (fun hHeld => ?_)
                                                                clear hK K
                                                                refine norm_ (a' := ?_) ?_ ?_
                                                                rotate_left
                                                                · show Act.put _ (some 205) _ = _
                                                                  simp only [Act.put, List.setIfInBounds_toArray, List.set_cons_zero, List.set_cons_succ, i64_w, i32_w]
                                                                  rfl
                                                                refine one_ (i := 7) (N := some 209) #[true, true, true, true, true, true, true, true, false] rfl rfl (one_of HT_.out (by kernel_rfl)) (by decide) (fun K hK => ?_)
                                                                refine Kd.R_append_rows_step (Kd.int .i64) (w0 := w) w.heap.size (by rfl) (.tmp 205) (.tmp 208) 24 2 (.int .i64 0) 8 rfl Try.underlying24 info2 rfl (by decide) (by omega) v258 y257 y260 _ _ _ (fun k_ => some k_ ≠ (.slice Ao17 t223.length co17 : Value).ownBlock) (fun _ => False) rfl rfl ?aO ?aR (fun _ _ h => h) (fun _ h => h.elim) ?aF ?aB ?aS ?aL ?_
                                                                (case aR => repeat (first | exact (by repeat (first | (with_reducible exact HR263.out) | (with_reducible refine Kd.C_alloc ?_ _) | (with_reducible refine Kd.C_drewN ?_ _) | (with_reducible refine Kd.C_drew ?_) | exact HR263.out)) | (with_reducible refine Kd.C_alloc ?_ _) | (with_reducible refine Kd.C_drewN ?_ _) | (with_reducible refine Kd.C_drew ?_)))
                                                                (case aB => exact (by repeat (first | (with_reducible first | exact HB.out | apply below_alloc | apply pw_below_drewN | apply below_drew1) | exact HB.out)))
                                                                (case aF => exact (fun k_ hk => Kd.fresh' (Kd.R_lt (by (with_reducible repeat (first | apply Kd.R_alloc | apply Kd.R_drewN | apply Kd.R_drew)); exact HO_5.out)) k_ hk))
                                                                (case aO => exact (by (with_reducible repeat (first | apply Kd.R_alloc | apply Kd.R_drewN | apply Kd.R_drew)); exact HO259.out))
                                                                (case aS => exact (below_size (by repeat (first | (with_reducible first | exact HB.out | apply below_alloc | apply pw_below_drewN | apply below_drew1) | exact HB.out))))
                                                                (case aL => have := LMc66.out; omega)
                                                                intro v265 w74 ho hb hg hat
                                                                rw [← Ny264.out] at ho
                                                                have n0_ := Aside0.mk (Kd.R_after (ok := (fun _ => True)) (by (with_reducible repeat (first | apply Kd.R_alloc | apply Kd.R_drewN | apply Kd.R_drew)); exact HO_5.out) hg hat)
                                                                have n1_ := Aside0.mk (hb)
                                                                have n2_ := Aside0.mk ((show Kd.C (Kd.int .i64) w74 A72 y260.length y260 from by rw [Ny260.out, KA72.out]; exact Kd.C_drop (m := ((x26_6.length : Int) : Int).toNat) (c := co17) ((Kd.R_reads' (Kd.R_after (ok := (fun _ => True)) (by (with_reducible repeat (first | apply Kd.R_alloc | apply Kd.R_drewN | apply Kd.R_drew)); exact HO_5.out) hg hat)).2.2) KL72.out ((Kd.R_reads' (Kd.R_after (ok := (fun _ => True)) (by (with_reducible repeat (first | apply Kd.R_alloc | apply Kd.R_drewN | apply Kd.R_drew)); exact HO_5.out) hg hat)).2.1)))
                                                                have n3_ := Aside0.mk (ho)
                                                                clear HO_5
                                                                clear HB
                                                                clear HR263
                                                                clear HO259
                                                                have HO_5 := n0_
                                                                have HB := n1_
                                                                have HR263 := n2_
                                                                have HO266 := n3_
                                                                clear n0_ n1_ n2_ n3_
                                                                clear ho hb hg hat
                                                                refine hK.out _ _ trivial (fun hHeld => ?_)
                                                                clear hK K
                                                                refine norm_ (a' := ?_) ?_ ?_
                                                                rotate_left
                                                                · show Act.put _ (some 209) _ = _
                                                                  simp only [Act.put, List.setIfInBounds_toArray, List.set_cons_zero, List.set_cons_succ, i64_w, i32_w]
                                                                  rfl
                                                                refine pure_ (i := 8) (N := some 26) (v := ?_) (a' := ?_) #[true, true, true, true, true, true, true, true, true] rfl rfl (any_of HT_.out (by kernel_rfl)) (fun _ _ _ h => h) (Or.inl ⟨by rfl, ?_⟩) ?_ ?_
                                                                rotate_left
                                                                · intro w'
                                                                  go_simp
                                                                  with_reducible rfl
                                                                rotate_left
                                                                · simp only [Act.put, List.setIfInBounds_toArray, List.set_cons_zero, List.set_cons_succ, i64_w, i32_w]
                                                                  rfl
                                                                refine done_ (done_of HT_.out (by kernel_rfl)) ?_
                                                                obtain ⟨Ao75, co75, eo75⟩ := Kd.R_slice HO266.out
                                                                subst eo75
                                                                try go_wp2_with (first | ((with_reducible refine gate_callee (f := 18) rfl ?_); refine goesL_ (some 213) rfl rfl Try.func18 (by kernel_rfl) rfl #[.slice Ao75 y264.length co75, .int .i64 (wrap64 (1 + t226))] rfl (by (try simp only [List.map_toArray, List.map_cons, List.map_nil]); first | done | rfl | (simp only [List.length_drop, List.length_take]; rfl)) ?_; (with_reducible refine (impl_ReachOf.calls k6 _ _ y264 (wrap64 (1 + t226)) t267 t268 _ ?side1 ?side2 A67.out).mono ?_); (case side1 => repeat (first | exact (Kd.R_reads' HO266.out).2.2 | (with_reducible refine Kd.C_alloc ?_ _) | (with_reducible refine Kd.C_drewN ?_ _) | (with_reducible refine Kd.C_drew ?_))); (case side2 => exact (Kd.R_reads' HO266.out).2.1); rintro e w76 ⟨rfl, hb⟩; refine ⟨_, rfl, ?_⟩; have n0_ := Aside0.mk (Kd.R_below (by (with_reducible repeat (first | apply Kd.R_alloc | apply Kd.R_drewN | apply Kd.R_drew)); exact HO_5.out) hb); have n1_ := Aside0.mk (Kd.R_below (by (with_reducible repeat (first | apply Kd.R_alloc | apply Kd.R_drewN | apply Kd.R_drew)); exact HO266.out) hb); have n2_ := Aside0.mk (Kd.C_below (by repeat (first | (with_reducible exact HR263.out) | (with_reducible refine Kd.C_alloc ?_ _) | (with_reducible refine Kd.C_drewN ?_ _) | (with_reducible refine Kd.C_drew ?_) | exact HR263.out)) hb); have n3_ := Aside0.mk (below_step (by repeat (first | (with_reducible first | exact HB.out | apply below_alloc | apply pw_below_drewN | apply below_drew1) | exact HB.out)) hb); clear HO_5; clear HO266; clear HR263; clear HB; have HO_5 := n0_; have HO266 := n1_; have HR263 := n2_; have HB := n3_; clear n0_ n1_ n2_ n3_; (try clear hb); (try clear hb2); (try clear hk); (try clear hi)))
                                                                go_ret
                                                                exact ⟨by first | rfl | (simp [errW_none, errW_some] <;> rfl) | (simp [*, errW_none, errW_some] <;> rfl), by repeat (first | (with_reducible first | exact HB.out | apply below_alloc | apply pw_below_drewN | apply below_drew1) | exact HB.out)⟩
                                                              · rw [if_neg c69] at H
                                                                have c69b0 : decide (t245 < t267) = false := decide_eq_false c69
                                                                clear c69
                                                                by_cases c77 : t267 = t245
                                                                · rw [if_pos c77] at H
                                                                  have c77b0 : (t267 == t245) = true := beq_iff_eq.mpr c77
                                                                  have c77b1 : (t267 != t245) = false := bne_eq_false_iff_eq.mpr c77
                                                                  clear c77
                                                                  by_cases c78 : x25_5 < t244
                                                                  · rw [if_pos c78] at H
                                                                    have c78b0 : decide (x25_5 < t244) = true := decide_eq_true c78
                                                                    clear c78
                                                                    obtain rfl := Option.some.inj H
                                                                    obtain ⟨Ao79, co79, eo79⟩ := Kd.R_slice HO_26.out
                                                                    subst eo79
                                                                    try go_wp2
                                                                    have n0_ := Aside0.mk (Kd.R_drew HO_5.out)
                                                                    have n1_ := Aside0.mk (Kd.R_drew HO_26.out)
                                                                    have n2_ := Aside0.mk (below_drew1 HB.out)
                                                                    clear HO_5
                                                                    clear HO_26
                                                                    clear HB
                                                                    have HO_5 := n0_
                                                                    have HO_26 := n1_
                                                                    have HB := n2_
                                                                    clear n0_ n1_ n2_
                                                                    have q81 : ((x26_6.length : Int) : Int) ≤ ((t223.length : Int) : Int) := of_decide_eq_true (by first | (with_reducible assumption) | assumption)
                                                                    obtain ⟨i081, hi081, _, hsz81, _⟩ := info_parts info2
                                                                    have hroom81 : t223.length ≤ co17 := (Kd.R_reads' HO_5.out).2.1
                                                                    have hC81 : Kd.C (Kd.int .i64) _ Ao17 t223.length t223 := (Kd.R_reads' HO_5.out).2.2
                                                                    have q081 : (0 : Int) ≤ ((x26_6.length : Int) : Int) := of_decide_eq_true (by first | (with_reducible assumption) | assumption)
                                                                    have hcut81 := cut_from (P := Try.prog) 24 2 .i64 Try.underlying24 hi081 1 hsz81 Ao17 t223.length co17 (x26_6.length : Int) q081 q81
                                                                    have hr81 := Kd.C_drop (m := ((x26_6.length : Int) : Int).toNat) (c := co17) hC81 (by omega) hroom81
                                                                    obtain ⟨A81, hA81⟩ : ∃ A1, A1 = (if co17 = ((x26_6.length : Int) : Int).toNat then Ao17 else (Ao17 : Option Addr).map (·.add (((x26_6.length : Int) : Int).toNat * 1))) := ⟨_, rfl⟩
                                                                    obtain ⟨c81, hc81⟩ : ∃ c1, c1 = co17 - ((x26_6.length : Int) : Int).toNat := ⟨_, rfl⟩
                                                                    have hy81 : y260.length = t223.length - ((x26_6.length : Int) : Int).toNat := (by rw [Ny260.out, List.length_drop] <;> omega)
                                                                    rw [show (t223).drop ((x26_6.length : Int) : Int).toNat = y260 from Ny260.out.symm] at hr81
                                                                    replace hr81 : Kd.C (Kd.int .i64) _ A81 y260.length y260 := (by rw [hA81]; exact hr81)
                                                                    rw [← hy81, ← hA81, ← hc81] at hcut81
                                                                    have HR263 := Aside0.mk hr81
                                                                    have HC263 := Aside0.mk (show y260.length ≤ c81 from by rw [hy81, hc81]; exact Nat.sub_le_sub_right hroom81 _)
                                                                    clear hr81 hC81 hroom81 hi081 hsz81 hc81
                                                                    have KY81 := Aside0.mk hy81
                                                                    have KA81 := Aside0.mk hA81
                                                                    clear hy81 hA81
                                                                    have KL81 := Aside0.mk (show ((x26_6.length : Int) : Int).toNat ≤ t223.length from by omega)
                                                                    replace q81 := eq_true q81
                                                                    refine start_ (n := 9) (S := fun w' => True) (ds := []) #[false, false, false, false, false, false, false, false, false] (by kernel_rfl) rfl rfl trivial (fun hHeld => ?_); refine with_tabW laws_FnReach.tab32 laws_FnReach.bits32 (fun HT_ HW_ => ?_)
                                                                    generalize wr.drew = w80 at HO_5 HO_26 HB HR263 hHeld ⊢
                                                                    refine pure_ (i := 0) (N := some 202) (v := ?_) (a' := ?_) #[true, false, false, false, false, false, false, false, false] rfl rfl (any_of HT_.out (by kernel_rfl)) (fun _ _ _ h => h) (Or.inl ⟨by rfl, ?_⟩) ?_ ?_
                                                                    rotate_left
                                                                    · intro w'
                                                                      go_simp
                                                                      with_reducible rfl
                                                                    rotate_left
                                                                    · simp only [Act.put, List.setIfInBounds_toArray, List.set_cons_zero, List.set_cons_succ, i64_w, i32_w]
                                                                      rfl
                                                                    refine pure_ (i := 1) (N := some 203) (v := ?_) (a' := ?_) #[true, true, false, false, false, false, false, false, false] rfl rfl (any_of HT_.out (by kernel_rfl)) (fun _ _ _ h => h) (Or.inl ⟨by rfl, ?_⟩) ?_ ?_
                                                                    rotate_left
                                                                    · intro w'
                                                                      go_simp
                                                                      with_reducible rfl
                                                                    rotate_left
                                                                    · simp only [Act.put, List.setIfInBounds_toArray, List.set_cons_zero, List.set_cons_succ, i64_w, i32_w]
                                                                      rfl
                                                                    refine pure_ (i := 4) (N := some 206) (v := ?_) (a' := ?_) #[true, true, false, false, true, false, false, false, false] rfl rfl (any_of HT_.out (by kernel_rfl)) (fun _ _ _ h => h) (Or.inl ⟨by rfl, ?_⟩) ?_ ?_
                                                                    rotate_left
                                                                    · intro w'
                                                                      go_simp
                                                                      with_reducible rfl
                                                                    rotate_left
                                                                    · simp only [Act.put, List.setIfInBounds_toArray, List.set_cons_zero, List.set_cons_succ, i64_w, i32_w]
                                                                      rfl
                                                                    refine pure_ (i := 5) (N := some 207) (v := ?_) (a' := ?_) #[true, true, false, false, true, true, false, false, false] rfl rfl (any_of HT_.out (by kernel_rfl)) (fun _ _ _ h => h) (Or.inl ⟨by rfl, ?_⟩) ?_ ?_
                                                                    rotate_left
                                                                    · intro w'
                                                                      go_simp
                                                                      with_reducible rfl
                                                                    rotate_left
                                                                    · simp only [Act.put, List.setIfInBounds_toArray, List.set_cons_zero, List.set_cons_succ, i64_w, i32_w]
                                                                      rfl
                                                                    refine pure_ (i := 6) (N := some 208) (v := ?_) (a' := ?_) #[true, true, false, false, true, true, true, false, false] rfl rfl (any_of HT_.out (by kernel_rfl)) (fun _ _ _ h => h) (Or.inl ⟨by rfl, ?_⟩) ?_ ?_
                                                                    rotate_left
                                                                    · intro w'
                                                                      go_simp
                                                                      with_reducible rfl
                                                                    rotate_left
                                                                    · simp only [Act.put, List.setIfInBounds_toArray, List.set_cons_zero, List.set_cons_succ, i64_w, i32_w]
                                                                      rfl
                                                                    refine one_ (i := 2) (N := some 204) #[true, true, true, false, true, true, true, false, false] rfl rfl (one_of HT_.out (by kernel_rfl)) (by decide) (fun K hK => ?_)
                                                                    refine value_ (w1 := ?_) (v := ?_) (by rfl) rfl ?_ ?_
                                                                    rotate_left 2
                                                                    · go_simp
                                                                      constructor
                                                                      · rfl
                                                                      · rfl
                                                                    refine hK.out _ _ trivial (fun hHeld => ?_)
                                                                    clear hK K
                                                                    refine norm_ (a' := ?_) ?_ ?_
                                                                    rotate_left
                                                                    · show Act.put _ (some 204) _ = _
                                                                      simp only [Act.put, List.setIfInBounds_toArray, List.set_cons_zero, List.set_cons_succ, i64_w, i32_w]
                                                                      rfl
                                                                    refine one_ (i := 3) (N := some 205) #[true, true, true, true, true, true, true, false, false] rfl rfl (one_of HT_.out (by kernel_rfl)) (by decide) (fun K hK => ?_)
                                                                    refine Kd.R_append_step (Kd.int .i64) (w0 := w) w.heap.size (by rfl) (.tmp 202) (.tmp 204) 24 2 (.int .i64 0) 8 rfl Try.underlying24 info2 rfl (by decide) (by omega) (.slice Ao79 x26_6.length co79) x26_6 x25_5 [.int .i64 x25_5] (fun k_ => some k_ ≠ (.slice Ao17 t223.length co17 : Value).ownBlock) (fun _ => False) rfl rfl ?aP (fun _ hk => hk.elim) ?aF ?aO ?aB ?aS ?aL ?_
                                                                    (case aP => exact rfl)
                                                                    (case aB => exact (by repeat (first | (with_reducible first | exact HB.out | apply below_alloc | apply pw_below_drewN | apply below_drew1) | exact HB.out)))
                                                                    (case aF => exact (fun k_ hk => Kd.fresh' (Kd.R_lt (by (with_reducible repeat (first | apply Kd.R_alloc | apply Kd.R_drewN | apply Kd.R_drew)); exact HO_5.out)) k_ hk))
                                                                    (case aO => exact (by (with_reducible repeat (first | apply Kd.R_alloc | apply Kd.R_drewN | apply Kd.R_drew)); exact HO_26.out))
                                                                    (case aS => exact (below_size (by repeat (first | (with_reducible first | exact HB.out | apply below_alloc | apply pw_below_drewN | apply below_drew1) | exact HB.out))))
                                                                    (case aL => have := LMc63.out; omega)
                                                                    intro v258 w82 ho hb hg hat
                                                                    rw [← Ny257.out] at ho
                                                                    have n0_ := Aside0.mk (Kd.R_after (ok := (fun _ => True)) (by (with_reducible repeat (first | apply Kd.R_alloc | apply Kd.R_drewN | apply Kd.R_drew)); exact Kd.R_mono HO_5.out (fun _ hk => ⟨trivial, hk⟩)) hg hat)
                                                                    have n1_ := Aside0.mk (hb)
                                                                    have n2_ := Aside0.mk ((show Kd.C (Kd.int .i64) w82 A81 y260.length y260 from by rw [Ny260.out, KA81.out]; exact Kd.C_drop (m := ((x26_6.length : Int) : Int).toNat) (c := co17) ((Kd.R_reads' (Kd.R_after (ok := (fun _ => True)) (by (with_reducible repeat (first | apply Kd.R_alloc | apply Kd.R_drewN | apply Kd.R_drew)); exact Kd.R_mono HO_5.out (fun _ hk => ⟨trivial, hk⟩)) hg hat)).2.2) KL81.out ((Kd.R_reads' (Kd.R_after (ok := (fun _ => True)) (by (with_reducible repeat (first | apply Kd.R_alloc | apply Kd.R_drewN | apply Kd.R_drew)); exact Kd.R_mono HO_5.out (fun _ hk => ⟨trivial, hk⟩)) hg hat)).2.1)))
                                                                    have n3_ := Aside0.mk (ho)
                                                                    clear HO_5
                                                                    clear HB
                                                                    clear HR263
                                                                    clear HO_26
                                                                    have HO_5 := n0_
                                                                    have HB := n1_
                                                                    have HR263 := n2_
                                                                    have HO259 := n3_
                                                                    clear n0_ n1_ n2_ n3_
                                                                    clear ho hb hg hat
                                                                    refine hK.out _ _ trivial (fun hHeld => ?_)
                                                                    clear hK K
                                                                    refine norm_ (a' := ?_) ?_ ?_
                                                                    rotate_left
                                                                    · show Act.put _ (some 205) _ = _
                                                                      simp only [Act.put, List.setIfInBounds_toArray, List.set_cons_zero, List.set_cons_succ, i64_w, i32_w]
                                                                      rfl
                                                                    refine one_ (i := 7) (N := some 209) #[true, true, true, true, true, true, true, true, false] rfl rfl (one_of HT_.out (by kernel_rfl)) (by decide) (fun K hK => ?_)
                                                                    refine Kd.R_append_rows_step (Kd.int .i64) (w0 := w) w.heap.size (by rfl) (.tmp 205) (.tmp 208) 24 2 (.int .i64 0) 8 rfl Try.underlying24 info2 rfl (by decide) (by omega) v258 y257 y260 _ _ _ (fun k_ => some k_ ≠ (.slice Ao17 t223.length co17 : Value).ownBlock) (fun _ => False) rfl rfl ?aO ?aR (fun _ _ h => h) (fun _ h => h.elim) ?aF ?aB ?aS ?aL ?_
                                                                    (case aR => repeat (first | exact (by repeat (first | (with_reducible exact HR263.out) | (with_reducible refine Kd.C_alloc ?_ _) | (with_reducible refine Kd.C_drewN ?_ _) | (with_reducible refine Kd.C_drew ?_) | exact HR263.out)) | (with_reducible refine Kd.C_alloc ?_ _) | (with_reducible refine Kd.C_drewN ?_ _) | (with_reducible refine Kd.C_drew ?_)))
                                                                    (case aB => exact (by repeat (first | (with_reducible first | exact HB.out | apply below_alloc | apply pw_below_drewN | apply below_drew1) | exact HB.out)))
                                                                    (case aF => exact (fun k_ hk => Kd.fresh' (Kd.R_lt (by (with_reducible repeat (first | apply Kd.R_alloc | apply Kd.R_drewN | apply Kd.R_drew)); exact HO_5.out)) k_ hk))
                                                                    (case aO => exact (by (with_reducible repeat (first | apply Kd.R_alloc | apply Kd.R_drewN | apply Kd.R_drew)); exact HO259.out))
                                                                    (case aS => exact (below_size (by repeat (first | (with_reducible first | exact HB.out | apply below_alloc | apply pw_below_drewN | apply below_drew1) | exact HB.out))))
                                                                    (case aL => have := LMc66.out; omega)
                                                                    intro v265 w83 ho hb hg hat
                                                                    rw [← Ny264.out] at ho
                                                                    have n0_ := Aside0.mk (Kd.R_after (ok := (fun _ => True)) (by (with_reducible repeat (first | apply Kd.R_alloc | apply Kd.R_drewN | apply Kd.R_drew)); exact HO_5.out) hg hat)
                                                                    have n1_ := Aside0.mk (hb)
                                                                    have n2_ := Aside0.mk ((show Kd.C (Kd.int .i64) w83 A81 y260.length y260 from by rw [Ny260.out, KA81.out]; exact Kd.C_drop (m := ((x26_6.length : Int) : Int).toNat) (c := co17) ((Kd.R_reads' (Kd.R_after (ok := (fun _ => True)) (by (with_reducible repeat (first | apply Kd.R_alloc | apply Kd.R_drewN | apply Kd.R_drew)); exact HO_5.out) hg hat)).2.2) KL81.out ((Kd.R_reads' (Kd.R_after (ok := (fun _ => True)) (by (with_reducible repeat (first | apply Kd.R_alloc | apply Kd.R_drewN | apply Kd.R_drew)); exact HO_5.out) hg hat)).2.1)))
                                                                    have n3_ := Aside0.mk (ho)
                                                                    clear HO_5
                                                                    clear HB
                                                                    clear HR263
                                                                    clear HO259
                                                                    have HO_5 := n0_
                                                                    have HB := n1_
                                                                    have HR263 := n2_
                                                                    have HO266 := n3_
                                                                    clear n0_ n1_ n2_ n3_
                                                                    clear ho hb hg hat
                                                                    refine hK.out _ _ trivial (fun hHeld => ?_)
                                                                    clear hK K
                                                                    refine norm_ (a' := ?_) ?_ ?_
                                                                    rotate_left
                                                                    · show Act.put _ (some 209) _ = _
                                                                      simp only [Act.put, List.setIfInBounds_toArray, List.set_cons_zero, List.set_cons_succ, i64_w, i32_w]
                                                                      rfl
                                                                    refine pure_ (i := 8) (N := some 26) (v := ?_) (a' := ?_) #[true, true, true, true, true, true, true, true, true] rfl rfl (any_of HT_.out (by kernel_rfl)) (fun _ _ _ h => h) (Or.inl ⟨by rfl, ?_⟩) ?_ ?_
                                                                    rotate_left
                                                                    · intro w'
                                                                      go_simp
                                                                      with_reducible rfl
                                                                    rotate_left
                                                                    · simp only [Act.put, List.setIfInBounds_toArray, List.set_cons_zero, List.set_cons_succ, i64_w, i32_w]
                                                                      rfl
                                                                    refine done_ (done_of HT_.out (by kernel_rfl)) ?_
                                                                    obtain ⟨Ao84, co84, eo84⟩ := Kd.R_slice HO266.out
                                                                    subst eo84
                                                                    try go_wp2_with (first | ((with_reducible refine gate_callee (f := 18) rfl ?_); refine goesL_ (some 213) rfl rfl Try.func18 (by kernel_rfl) rfl #[.slice Ao84 y264.length co84, .int .i64 (wrap64 (1 + t226))] rfl (by (try simp only [List.map_toArray, List.map_cons, List.map_nil]); first | done | rfl | (simp only [List.length_drop, List.length_take]; rfl)) ?_; (with_reducible refine (impl_ReachOf.calls k6 _ _ y264 (wrap64 (1 + t226)) t267 t268 _ ?side1 ?side2 A67.out).mono ?_); (case side1 => repeat (first | exact (Kd.R_reads' HO266.out).2.2 | (with_reducible refine Kd.C_alloc ?_ _) | (with_reducible refine Kd.C_drewN ?_ _) | (with_reducible refine Kd.C_drew ?_))); (case side2 => exact (Kd.R_reads' HO266.out).2.1); rintro e w85 ⟨rfl, hb⟩; refine ⟨_, rfl, ?_⟩; have n0_ := Aside0.mk (Kd.R_below (by (with_reducible repeat (first | apply Kd.R_alloc | apply Kd.R_drewN | apply Kd.R_drew)); exact HO_5.out) hb); have n1_ := Aside0.mk (Kd.R_below (by (with_reducible repeat (first | apply Kd.R_alloc | apply Kd.R_drewN | apply Kd.R_drew)); exact HO266.out) hb); have n2_ := Aside0.mk (Kd.C_below (by repeat (first | (with_reducible exact HR263.out) | (with_reducible refine Kd.C_alloc ?_ _) | (with_reducible refine Kd.C_drewN ?_ _) | (with_reducible refine Kd.C_drew ?_) | exact HR263.out)) hb); have n3_ := Aside0.mk (below_step (by repeat (first | (with_reducible first | exact HB.out | apply below_alloc | apply pw_below_drewN | apply below_drew1) | exact HB.out)) hb); clear HO_5; clear HO266; clear HR263; clear HB; have HO_5 := n0_; have HO266 := n1_; have HR263 := n2_; have HB := n3_; clear n0_ n1_ n2_ n3_; (try clear hb); (try clear hb2); (try clear hk); (try clear hi)))
                                                                    go_ret
                                                                    exact ⟨by first | rfl | (simp [errW_none, errW_some] <;> rfl) | (simp [*, errW_none, errW_some] <;> rfl), by repeat (first | (with_reducible first | exact HB.out | apply below_alloc | apply pw_below_drewN | apply below_drew1) | exact HB.out)⟩
                                                                  · rw [if_neg c78] at H
                                                                    have c78b0 : decide (x25_5 < t244) = false := decide_eq_false c78
                                                                    clear c78
                                                                    by_cases c86 : x25_5 = t244
                                                                    · rw [if_pos c86] at H
                                                                      have c86b0 : (x25_5 == t244) = true := beq_iff_eq.mpr c86
                                                                      have c86b1 : (x25_5 != t244) = false := bne_eq_false_iff_eq.mpr c86
                                                                      clear c86
                                                                      have H' := Aside0.mk H
                                                                      clear H
                                                                      obtain ⟨Ao87, co87, eo87⟩ := Kd.R_slice HO_26.out
                                                                      subst eo87
                                                                      try go_wp2
                                                                      have n0_ := Aside0.mk (Kd.R_drew HO_5.out)
                                                                      have n1_ := Aside0.mk (Kd.R_drew HO_26.out)
                                                                      have n2_ := Aside0.mk (below_drew1 HB.out)
                                                                      clear HO_5
                                                                      clear HO_26
                                                                      clear HB
                                                                      have HO_5 := n0_
                                                                      have HO_26 := n1_
                                                                      have HB := n2_
                                                                      clear n0_ n1_ n2_
                                                                      have q89 : ((x26_6.length : Int) : Int) ≤ ((t223.length : Int) : Int) := of_decide_eq_true (by first | (with_reducible assumption) | assumption)
                                                                      obtain ⟨i089, hi089, _, hsz89, _⟩ := info_parts info2
                                                                      have hroom89 : t223.length ≤ co17 := (Kd.R_reads' HO_5.out).2.1
                                                                      have hC89 : Kd.C (Kd.int .i64) _ Ao17 t223.length t223 := (Kd.R_reads' HO_5.out).2.2
                                                                      have q089 : (0 : Int) ≤ ((x26_6.length : Int) : Int) := of_decide_eq_true (by first | (with_reducible assumption) | assumption)
                                                                      have hcut89 := cut_from (P := Try.prog) 24 2 .i64 Try.underlying24 hi089 1 hsz89 Ao17 t223.length co17 (x26_6.length : Int) q089 q89
                                                                      have hr89 := Kd.C_drop (m := ((x26_6.length : Int) : Int).toNat) (c := co17) hC89 (by omega) hroom89
                                                                      obtain ⟨A89, hA89⟩ : ∃ A1, A1 = (if co17 = ((x26_6.length : Int) : Int).toNat then Ao17 else (Ao17 : Option Addr).map (·.add (((x26_6.length : Int) : Int).toNat * 1))) := ⟨_, rfl⟩
                                                                      obtain ⟨c89, hc89⟩ : ∃ c1, c1 = co17 - ((x26_6.length : Int) : Int).toNat := ⟨_, rfl⟩
                                                                      have hy89 : y260.length = t223.length - ((x26_6.length : Int) : Int).toNat := (by rw [Ny260.out, List.length_drop] <;> omega)
                                                                      rw [show (t223).drop ((x26_6.length : Int) : Int).toNat = y260 from Ny260.out.symm] at hr89
                                                                      replace hr89 : Kd.C (Kd.int .i64) _ A89 y260.length y260 := (by rw [hA89]; exact hr89)
                                                                      rw [← hy89, ← hA89, ← hc89] at hcut89
                                                                      have HR263 := Aside0.mk hr89
                                                                      have HC263 := Aside0.mk (show y260.length ≤ c89 from by rw [hy89, hc89]; exact Nat.sub_le_sub_right hroom89 _)
                                                                      clear hr89 hC89 hroom89 hi089 hsz89 hc89
                                                                      have KY89 := Aside0.mk hy89
                                                                      have KA89 := Aside0.mk hA89
                                                                      clear hy89 hA89
                                                                      have KL89 := Aside0.mk (show ((x26_6.length : Int) : Int).toNat ≤ t223.length from by omega)
                                                                      replace q89 := eq_true q89
                                                                      refine start_ (n := 9) (S := fun w' => True) (ds := []) #[false, false, false, false, false, false, false, false, false] (by kernel_rfl) rfl rfl trivial (fun hHeld => ?_); refine with_tabW laws_FnReach.tab32 laws_FnReach.bits32 (fun HT_ HW_ => ?_)
                                                                      generalize wr.drew = w88 at HO_5 HO_26 HB HR263 hHeld ⊢
                                                                      refine pure_ (i := 0) (N := some 202) (v := ?_) (a' := ?_) #[true, false, false, false, false, false, false, false, false] rfl rfl (any_of HT_.out (by kernel_rfl)) (fun _ _ _ h => h) (Or.inl ⟨by rfl, ?_⟩) ?_ ?_
                                                                      rotate_left
                                                                      · intro w'
                                                                        go_simp
                                                                        with_reducible rfl
                                                                      rotate_left
                                                                      · simp only [Act.put, List.setIfInBounds_toArray, List.set_cons_zero, List.set_cons_succ, i64_w, i32_w]
                                                                        rfl
                                                                      refine pure_ (i := 1) (N := some 203) (v := ?_) (a' := ?_) #[true, true, false, false, false, false, false, false, false] rfl rfl (any_of HT_.out (by kernel_rfl)) (fun _ _ _ h => h) (Or.inl ⟨by rfl, ?_⟩) ?_ ?_
                                                                      rotate_left
                                                                      · intro w'
                                                                        go_simp
                                                                        with_reducible rfl
                                                                      rotate_left
                                                                      · simp only [Act.put, List.setIfInBounds_toArray, List.set_cons_zero, List.set_cons_succ, i64_w, i32_w]
                                                                        rfl
                                                                      refine pure_ (i := 4) (N := some 206) (v := ?_) (a' := ?_) #[true, true, false, false, true, false, false, false, false] rfl rfl (any_of HT_.out (by kernel_rfl)) (fun _ _ _ h => h) (Or.inl ⟨by rfl, ?_⟩) ?_ ?_
                                                                      rotate_left
                                                                      · intro w'
                                                                        go_simp
                                                                        with_reducible rfl
                                                                      rotate_left
                                                                      · simp only [Act.put, List.setIfInBounds_toArray, List.set_cons_zero, List.set_cons_succ, i64_w, i32_w]
                                                                        rfl
                                                                      refine pure_ (i := 5) (N := some 207) (v := ?_) (a' := ?_) #[true, true, false, false, true, true, false, false, false] rfl rfl (any_of HT_.out (by kernel_rfl)) (fun _ _ _ h => h) (Or.inl ⟨by rfl, ?_⟩) ?_ ?_
                                                                      rotate_left
                                                                      · intro w'
                                                                        go_simp
                                                                        with_reducible rfl
                                                                      rotate_left
                                                                      · simp only [Act.put, List.setIfInBounds_toArray, List.set_cons_zero, List.set_cons_succ, i64_w, i32_w]
                                                                        rfl
                                                                      refine pure_ (i := 6) (N := some 208) (v := ?_) (a' := ?_) #[true, true, false, false, true, true, true, false, false] rfl rfl (any_of HT_.out (by kernel_rfl)) (fun _ _ _ h => h) (Or.inl ⟨by rfl, ?_⟩) ?_ ?_
                                                                      rotate_left
                                                                      · intro w'
                                                                        go_simp
                                                                        with_reducible rfl
                                                                      rotate_left
                                                                      · simp only [Act.put, List.setIfInBounds_toArray, List.set_cons_zero, List.set_cons_succ, i64_w, i32_w]
                                                                        rfl
                                                                      refine one_ (i := 2) (N := some 204) #[true, true, true, false, true, true, true, false, false] rfl rfl (one_of HT_.out (by kernel_rfl)) (by decide) (fun K hK => ?_)
                                                                      refine value_ (w1 := ?_) (v := ?_) (by rfl) rfl ?_ ?_
                                                                      rotate_left 2
                                                                      · go_simp
                                                                        constructor
                                                                        · rfl
                                                                        · rfl
                                                                      refine hK.out _ _ trivial (fun hHeld => ?_)
                                                                      clear hK K
                                                                      refine norm_ (a' := ?_) ?_ ?_
                                                                      rotate_left
                                                                      · show Act.put _ (some 204) _ = _
                                                                        simp only [Act.put, List.setIfInBounds_toArray, List.set_cons_zero, List.set_cons_succ, i64_w, i32_w]
                                                                        rfl
                                                                      refine one_ (i := 3) (N := some 205) #[true, true, true, true, true, true, true, false, false] rfl rfl (one_of HT_.out (by kernel_rfl)) (by decide) (fun K hK => ?_)
                                                                      refine Kd.R_append_step (Kd.int .i64) (w0 := w) w.heap.size (by rfl) (.tmp 202) (.tmp 204) 24 2 (.int .i64 0) 8 rfl Try.underlying24 info2 rfl (by decide) (by omega) (.slice Ao87 x26_6.length co87) x26_6 x25_5 [.int .i64 x25_5] (fun k_ => some k_ ≠ (.slice Ao17 t223.length co17 : Value).ownBlock) (fun _ => False) rfl rfl ?aP (fun _ hk => hk.elim) ?aF ?aO ?aB ?aS ?aL ?_
                                                                      (case aP => exact rfl)
                                                                      (case aB => exact (by repeat (first | (with_reducible first | exact HB.out | apply below_alloc | apply pw_below_drewN | apply below_drew1) | exact HB.out)))
                                                                      (case aF => exact (fun k_ hk => Kd.fresh' (Kd.R_lt (by (with_reducible repeat (first | apply Kd.R_alloc | apply Kd.R_drewN | apply Kd.R_drew)); exact HO_5.out)) k_ hk))
                                                                      (case aO => exact (by (with_reducible repeat (first | apply Kd.R_alloc | apply Kd.R_drewN | apply Kd.R_drew)); exact HO_26.out))
                                                                      (case aS => exact (below_size (by repeat (first | (with_reducible first | exact HB.out | apply below_alloc | apply pw_below_drewN | apply below_drew1) | exact HB.out))))
                                                                      (case aL => have := LMc63.out; omega)
                                                                      intro v258 w90 ho hb hg hat
                                                                      rw [← Ny257.out] at ho
                                                                      have n0_ := Aside0.mk (Kd.R_after (ok := (fun _ => True)) (by (with_reducible repeat (first | apply Kd.R_alloc | apply Kd.R_drewN | apply Kd.R_drew)); exact Kd.R_mono HO_5.out (fun _ hk => ⟨trivial, hk⟩)) hg hat)
                                                                      have n1_ := Aside0.mk (hb)
                                                                      have n2_ := Aside0.mk ((show Kd.C (Kd.int .i64) w90 A89 y260.length y260 from by rw [Ny260.out, KA89.out]; exact Kd.C_drop (m := ((x26_6.length : Int) : Int).toNat) (c := co17) ((Kd.R_reads' (Kd.R_after (ok := (fun _ => True)) (by (with_reducible repeat (first | apply Kd.R_alloc | apply Kd.R_drewN | apply Kd.R_drew)); exact Kd.R_mono HO_5.out (fun _ hk => ⟨trivial, hk⟩)) hg hat)).2.2) KL89.out ((Kd.R_reads' (Kd.R_after (ok := (fun _ => True)) (by (with_reducible repeat (first | apply Kd.R_alloc | apply Kd.R_drewN | apply Kd.R_drew)); exact Kd.R_mono HO_5.out (fun _ hk => ⟨trivial, hk⟩)) hg hat)).2.1)))
                                                                      have n3_ := Aside0.mk (ho)
                                                                      clear HO_5
                                                                      clear HB
                                                                      clear HR263
                                                                      clear HO_26
                                                                      have HO_5 := n0_
                                                                      have HB := n1_
                                                                      have HR263 := n2_
                                                                      have HO259 := n3_
                                                                      clear n0_ n1_ n2_ n3_
                                                                      clear ho hb hg hat
                                                                      refine hK.out _ _ trivial (fun hHeld => ?_)
                                                                      clear hK K
                                                                      refine norm_ (a' := ?_) ?_ ?_
                                                                      rotate_left
                                                                      · show Act.put _ (some 205) _ = _
                                                                        simp only [Act.put, List.setIfInBounds_toArray, List.set_cons_zero, List.set_cons_succ, i64_w, i32_w]
                                                                        rfl
                                                                      refine one_ (i := 7) (N := some 209) #[true, true, true, true, true, true, true, true, false] rfl rfl (one_of HT_.out (by kernel_rfl)) (by decide) (fun K hK => ?_)
                                                                      refine Kd.R_append_rows_step (Kd.int .i64) (w0 := w) w.heap.size (by rfl) (.tmp 205) (.tmp 208) 24 2 (.int .i64 0) 8 rfl Try.underlying24 info2 rfl (by decide) (by omega) v258 y257 y260 _ _ _ (fun k_ => some k_ ≠ (.slice Ao17 t223.length co17 : Value).ownBlock) (fun _ => False) rfl rfl ?aO ?aR (fun _ _ h => h) (fun _ h => h.elim) ?aF ?aB ?aS ?aL ?_
                                                                      (case aR => repeat (first | exact (by repeat (first | (with_reducible exact HR263.out) | (with_reducible refine Kd.C_alloc ?_ _) | (with_reducible refine Kd.C_drewN ?_ _) | (with_reducible refine Kd.C_drew ?_) | exact HR263.out)) | (with_reducible refine Kd.C_alloc ?_ _) | (with_reducible refine Kd.C_drewN ?_ _) | (with_reducible refine Kd.C_drew ?_)))
                                                                      (case aB => exact (by repeat (first | (with_reducible first | exact HB.out | apply below_alloc | apply pw_below_drewN | apply below_drew1) | exact HB.out)))
                                                                      (case aF => exact (fun k_ hk => Kd.fresh' (Kd.R_lt (by (with_reducible repeat (first | apply Kd.R_alloc | apply Kd.R_drewN | apply Kd.R_drew)); exact HO_5.out)) k_ hk))
                                                                      (case aO => exact (by (with_reducible repeat (first | apply Kd.R_alloc | apply Kd.R_drewN | apply Kd.R_drew)); exact HO259.out))
                                                                      (case aS => exact (below_size (by repeat (first | (with_reducible first | exact HB.out | apply below_alloc | apply pw_below_drewN | apply below_drew1) | exact HB.out))))
                                                                      (case aL => have := LMc66.out; omega)
                                                                      intro v265 w91 ho hb hg hat
                                                                      rw [← Ny264.out] at ho
                                                                      have n0_ := Aside0.mk (Kd.R_after (ok := (fun _ => True)) (by (with_reducible repeat (first | apply Kd.R_alloc | apply Kd.R_drewN | apply Kd.R_drew)); exact HO_5.out) hg hat)
                                                                      have n1_ := Aside0.mk (hb)
                                                                      have n2_ := Aside0.mk ((show Kd.C (Kd.int .i64) w91 A89 y260.length y260 from by rw [Ny260.out, KA89.out]; exact Kd.C_drop (m := ((x26_6.length : Int) : Int).toNat) (c := co17) ((Kd.R_reads' (Kd.R_after (ok := (fun _ => True)) (by (with_reducible repeat (first | apply Kd.R_alloc | apply Kd.R_drewN | apply Kd.R_drew)); exact HO_5.out) hg hat)).2.2) KL89.out ((Kd.R_reads' (Kd.R_after (ok := (fun _ => True)) (by (with_reducible repeat (first | apply Kd.R_alloc | apply Kd.R_drewN | apply Kd.R_drew)); exact HO_5.out) hg hat)).2.1)))
                                                                      have n3_ := Aside0.mk (ho)
                                                                      clear HO_5
                                                                      clear HB
                                                                      clear HR263
                                                                      clear HO259
                                                                      have HO_5 := n0_
                                                                      have HB := n1_
                                                                      have HR263 := n2_
                                                                      have HO266 := n3_
                                                                      clear n0_ n1_ n2_ n3_
                                                                      clear ho hb hg hat
                                                                      refine hK.out _ _ trivial (fun hHeld => ?_)
                                                                      clear hK K
                                                                      refine norm_ (a' := ?_) ?_ ?_
                                                                      rotate_left
                                                                      · show Act.put _ (some 209) _ = _
                                                                        simp only [Act.put, List.setIfInBounds_toArray, List.set_cons_zero, List.set_cons_succ, i64_w, i32_w]
                                                                        rfl
                                                                      refine pure_ (i := 8) (N := some 26) (v := ?_) (a' := ?_) #[true, true, true, true, true, true, true, true, true] rfl rfl (any_of HT_.out (by kernel_rfl)) (fun _ _ _ h => h) (Or.inl ⟨by rfl, ?_⟩) ?_ ?_
                                                                      rotate_left
                                                                      · intro w'
                                                                        go_simp
                                                                        with_reducible rfl
                                                                      rotate_left
                                                                      · simp only [Act.put, List.setIfInBounds_toArray, List.set_cons_zero, List.set_cons_succ, i64_w, i32_w]
                                                                        rfl
                                                                      refine done_ (done_of HT_.out (by kernel_rfl)) ?_
                                                                      obtain ⟨Ao92, co92, eo92⟩ := Kd.R_slice HO266.out
                                                                      subst eo92
                                                                      try go_wp2_with (first | ((with_reducible refine gate_callee (f := 18) rfl ?_); refine goesL_ (some 213) rfl rfl Try.func18 (by kernel_rfl) rfl #[.slice Ao92 y264.length co92, .int .i64 (wrap64 (1 + t226))] rfl (by (try simp only [List.map_toArray, List.map_cons, List.map_nil]); first | done | rfl | (simp only [List.length_drop, List.length_take]; rfl)) ?_; (with_reducible refine (impl_ReachOf.calls k6 _ _ y264 (wrap64 (1 + t226)) t267 t268 _ ?side1 ?side2 A67.out).mono ?_); (case side1 => repeat (first | exact (Kd.R_reads' HO266.out).2.2 | (with_reducible refine Kd.C_alloc ?_ _) | (with_reducible refine Kd.C_drewN ?_ _) | (with_reducible refine Kd.C_drew ?_))); (case side2 => exact (Kd.R_reads' HO266.out).2.1); rintro e w93 ⟨rfl, hb⟩; refine ⟨_, rfl, ?_⟩; have n0_ := Aside0.mk (Kd.R_below (by (with_reducible repeat (first | apply Kd.R_alloc | apply Kd.R_drewN | apply Kd.R_drew)); exact HO_5.out) hb); have n1_ := Aside0.mk (Kd.R_below (by (with_reducible repeat (first | apply Kd.R_alloc | apply Kd.R_drewN | apply Kd.R_drew)); exact HO266.out) hb); have n2_ := Aside0.mk (Kd.C_below (by repeat (first | (with_reducible exact HR263.out) | (with_reducible refine Kd.C_alloc ?_ _) | (with_reducible refine Kd.C_drewN ?_ _) | (with_reducible refine Kd.C_drew ?_) | exact HR263.out)) hb); have n3_ := Aside0.mk (below_step (by repeat (first | (with_reducible first | exact HB.out | apply below_alloc | apply pw_below_drewN | apply below_drew1) | exact HB.out)) hb); clear HO_5; clear HO266; clear HR263; clear HB; have HO_5 := n0_; have HO266 := n1_; have HR263 := n2_; have HB := n3_; clear n0_ n1_ n2_ n3_; (try clear hb); (try clear hb2); (try clear hk); (try clear hi)))
                                                                      go_roundg k6
                                                                      case measure => have := HJ2.out; have := HJ13.out; have := HK3.out; have := HJ41.out; have := HK5.out; have := HK6.out; omega
                                                                      case rel => exact ⟨(wrap64 (x25_5 + 1)), (by first | rfl | (simp; done) | (simp [*]; done)), H', ⟨by have := HJ2.out; have := HJ13.out; have := HK3.out; have := HJ41.out; have := HK5.out; have := HK6.out; omega⟩, ⟨by (with_reducible repeat (first | apply Kd.R_alloc | apply Kd.R_drewN | apply Kd.R_drew)); exact Kd.R_mono HO_5.out (fun _ hk => trivial)⟩, ⟨by repeat (first | (with_reducible first | exact HB.out | apply below_alloc | apply pw_below_drewN | apply below_drew1) | exact HB.out)⟩⟩
                                                                    · rw [if_neg c86] at H
                                                                      have c86b0 : (x25_5 == t244) = false := beq_eq_false_iff_ne.mpr c86
                                                                      have c86b1 : (x25_5 != t244) = true := bne_iff_ne.mpr c86
                                                                      have H' := Aside0.mk H
                                                                      clear H
                                                                      obtain ⟨Ao94, co94, eo94⟩ := Kd.R_slice HO_26.out
                                                                      subst eo94
                                                                      try go_wp2
                                                                      have n0_ := Aside0.mk (Kd.R_drew HO_5.out)
                                                                      have n1_ := Aside0.mk (Kd.R_drew HO_26.out)
                                                                      have n2_ := Aside0.mk (below_drew1 HB.out)
                                                                      clear HO_5
                                                                      clear HO_26
                                                                      clear HB
                                                                      have HO_5 := n0_
                                                                      have HO_26 := n1_
                                                                      have HB := n2_
                                                                      clear n0_ n1_ n2_
                                                                      have q96 : ((x26_6.length : Int) : Int) ≤ ((t223.length : Int) : Int) := of_decide_eq_true (by first | (with_reducible assumption) | assumption)
                                                                      obtain ⟨i096, hi096, _, hsz96, _⟩ := info_parts info2
                                                                      have hroom96 : t223.length ≤ co17 := (Kd.R_reads' HO_5.out).2.1
                                                                      have hC96 : Kd.C (Kd.int .i64) _ Ao17 t223.length t223 := (Kd.R_reads' HO_5.out).2.2
                                                                      have q096 : (0 : Int) ≤ ((x26_6.length : Int) : Int) := of_decide_eq_true (by first | (with_reducible assumption) | assumption)
                                                                      have hcut96 := cut_from (P := Try.prog) 24 2 .i64 Try.underlying24 hi096 1 hsz96 Ao17 t223.length co17 (x26_6.length : Int) q096 q96
                                                                      have hr96 := Kd.C_drop (m := ((x26_6.length : Int) : Int).toNat) (c := co17) hC96 (by omega) hroom96
                                                                      obtain ⟨A96, hA96⟩ : ∃ A1, A1 = (if co17 = ((x26_6.length : Int) : Int).toNat then Ao17 else (Ao17 : Option Addr).map (·.add (((x26_6.length : Int) : Int).toNat * 1))) := ⟨_, rfl⟩
                                                                      obtain ⟨c96, hc96⟩ : ∃ c1, c1 = co17 - ((x26_6.length : Int) : Int).toNat := ⟨_, rfl⟩
                                                                      have hy96 : y260.length = t223.length - ((x26_6.length : Int) : Int).toNat := (by rw [Ny260.out, List.length_drop] <;> omega)
                                                                      rw [show (t223).drop ((x26_6.length : Int) : Int).toNat = y260 from Ny260.out.symm] at hr96
                                                                      replace hr96 : Kd.C (Kd.int .i64) _ A96 y260.length y260 := (by rw [hA96]; exact hr96)
                                                                      rw [← hy96, ← hA96, ← hc96] at hcut96
                                                                      have HR263 := Aside0.mk hr96
                                                                      have HC263 := Aside0.mk (show y260.length ≤ c96 from by rw [hy96, hc96]; exact Nat.sub_le_sub_right hroom96 _)
                                                                      clear hr96 hC96 hroom96 hi096 hsz96 hc96
                                                                      have KY96 := Aside0.mk hy96
                                                                      have KA96 := Aside0.mk hA96
                                                                      clear hy96 hA96
                                                                      have KL96 := Aside0.mk (show ((x26_6.length : Int) : Int).toNat ≤ t223.length from by omega)
                                                                      replace q96 := eq_true q96
                                                                      refine start_ (n := 9) (S := fun w' => True) (ds := []) #[false, false, false, false, false, false, false, false, false] (by kernel_rfl) rfl rfl trivial (fun hHeld => ?_); refine with_tabW laws_FnReach.tab32 laws_FnReach.bits32 (fun HT_ HW_ => ?_)
                                                                      generalize wr.drew = w95 at HO_5 HO_26 HB HR263 hHeld ⊢
                                                                      refine pure_ (i := 0) (N := some 202) (v := ?_) (a' := ?_) #[true, false, false, false, false, false, false, false, false] rfl rfl (any_of HT_.out (by kernel_rfl)) (fun _ _ _ h => h) (Or.inl ⟨by rfl, ?_⟩) ?_ ?_
                                                                      rotate_left
                                                                      · intro w'
                                                                        go_simp
                                                                        with_reducible rfl
                                                                      rotate_left
                                                                      · simp only [Act.put, List.setIfInBounds_toArray, List.set_cons_zero, List.set_cons_succ, i64_w, i32_w]
                                                                        rfl
                                                                      refine pure_ (i := 1) (N := some 203) (v := ?_) (a' := ?_) #[true, true, false, false, false, false, false, false, false] rfl rfl (any_of HT_.out (by kernel_rfl)) (fun _ _ _ h => h) (Or.inl ⟨by rfl, ?_⟩) ?_ ?_
                                                                      rotate_left
                                                                      · intro w'
                                                                        go_simp
                                                                        with_reducible rfl
                                                                      rotate_left
                                                                      · simp only [Act.put, List.setIfInBounds_toArray, List.set_cons_zero, List.set_cons_succ, i64_w, i32_w]
                                                                        rfl
                                                                      refine pure_ (i := 4) (N := some 206) (v := ?_) (a' := ?_) #[true, true, false, false, true, false, false, false, false] rfl rfl (any_of HT_.out (by kernel_rfl)) (fun _ _ _ h => h) (Or.inl ⟨by rfl, ?_⟩) ?_ ?_
                                                                      rotate_left
                                                                      · intro w'
                                                                        go_simp
                                                                        with_reducible rfl
                                                                      rotate_left
                                                                      · simp only [Act.put, List.setIfInBounds_toArray, List.set_cons_zero, List.set_cons_succ, i64_w, i32_w]
                                                                        rfl
                                                                      refine pure_ (i := 5) (N := some 207) (v := ?_) (a' := ?_) #[true, true, false, false, true, true, false, false, false] rfl rfl (any_of HT_.out (by kernel_rfl)) (fun _ _ _ h => h) (Or.inl ⟨by rfl, ?_⟩) ?_ ?_
                                                                      rotate_left
                                                                      · intro w'
                                                                        go_simp
                                                                        with_reducible rfl
                                                                      rotate_left
                                                                      · simp only [Act.put, List.setIfInBounds_toArray, List.set_cons_zero, List.set_cons_succ, i64_w, i32_w]
                                                                        rfl
                                                                      refine pure_ (i := 6) (N := some 208) (v := ?_) (a' := ?_) #[true, true, false, false, true, true, true, false, false] rfl rfl (any_of HT_.out (by kernel_rfl)) (fun _ _ _ h => h) (Or.inl ⟨by rfl, ?_⟩) ?_ ?_
                                                                      rotate_left
                                                                      · intro w'
                                                                        go_simp
                                                                        with_reducible rfl
                                                                      rotate_left
                                                                      · simp only [Act.put, List.setIfInBounds_toArray, List.set_cons_zero, List.set_cons_succ, i64_w, i32_w]
                                                                        rfl
                                                                      refine one_ (i := 2) (N := some 204) #[true, true, true, false, true, true, true, false, false] rfl rfl (one_of HT_.out (by kernel_rfl)) (by decide) (fun K hK => ?_)
                                                                      refine value_ (w1 := ?_) (v := ?_) (by rfl) rfl ?_ ?_
                                                                      rotate_left 2
                                                                      · go_simp
                                                                        constructor
                                                                        · rfl
                                                                        · rfl
                                                                      refine hK.out _ _ trivial (fun hHeld => ?_)
                                                                      clear hK K
                                                                      refine norm_ (a' := ?_) ?_ ?_
                                                                      rotate_left
                                                                      · show Act.put _ (some 204) _ = _
                                                                        simp only [Act.put, List.setIfInBounds_toArray, List.set_cons_zero, List.set_cons_succ, i64_w, i32_w]
                                                                        rfl
                                                                      refine one_ (i := 3) (N := some 205) #[true, true, true, true, true, true, true, false, false] rfl rfl (one_of HT_.out (by kernel_rfl)) (by decide) (fun K hK => ?_)
                                                                      refine Kd.R_append_step (Kd.int .i64) (w0 := w) w.heap.size (by rfl) (.tmp 202) (.tmp 204) 24 2 (.int .i64 0) 8 rfl Try.underlying24 info2 rfl (by decide) (by omega) (.slice Ao94 x26_6.length co94) x26_6 x25_5 [.int .i64 x25_5] (fun k_ => some k_ ≠ (.slice Ao17 t223.length co17 : Value).ownBlock) (fun _ => False) rfl rfl ?aP (fun _ hk => hk.elim) ?aF ?aO ?aB ?aS ?aL ?_
                                                                      (case aP => exact rfl)
                                                                      (case aB => exact (by repeat (first | (with_reducible first | exact HB.out | apply below_alloc | apply pw_below_drewN | apply below_drew1) | exact HB.out)))
                                                                      (case aF => exact (fun k_ hk => Kd.fresh' (Kd.R_lt (by (with_reducible repeat (first | apply Kd.R_alloc | apply Kd.R_drewN | apply Kd.R_drew)); exact HO_5.out)) k_ hk))
                                                                      (case aO => exact (by (with_reducible repeat (first | apply Kd.R_alloc | apply Kd.R_drewN | apply Kd.R_drew)); exact HO_26.out))
                                                                      (case aS => exact (below_size (by repeat (first | (with_reducible first | exact HB.out | apply below_alloc | apply pw_below_drewN | apply below_drew1) | exact HB.out))))
                                                                      (case aL => have := LMc63.out; omega)
                                                                      intro v258 w97 ho hb hg hat
                                                                      rw [← Ny257.out] at ho
                                                                      have n0_ := Aside0.mk (Kd.R_after (ok := (fun _ => True)) (by (with_reducible repeat (first | apply Kd.R_alloc | apply Kd.R_drewN | apply Kd.R_drew)); exact Kd.R_mono HO_5.out (fun _ hk => ⟨trivial, hk⟩)) hg hat)
                                                                      have n1_ := Aside0.mk (hb)
                                                                      have n2_ := Aside0.mk ((show Kd.C (Kd.int .i64) w97 A96 y260.length y260 from by rw [Ny260.out, KA96.out]; exact Kd.C_drop (m := ((x26_6.length : Int) : Int).toNat) (c := co17) ((Kd.R_reads' (Kd.R_after (ok := (fun _ => True)) (by (with_reducible repeat (first | apply Kd.R_alloc | apply Kd.R_drewN | apply Kd.R_drew)); exact Kd.R_mono HO_5.out (fun _ hk => ⟨trivial, hk⟩)) hg hat)).2.2) KL96.out ((Kd.R_reads' (Kd.R_after (ok := (fun _ => True)) (by (with_reducible repeat (first | apply Kd.R_alloc | apply Kd.R_drewN | apply Kd.R_drew)); exact Kd.R_mono HO_5.out (fun _ hk => ⟨trivial, hk⟩)) hg hat)).2.1)))
                                                                      have n3_ := Aside0.mk (ho)
                                                                      clear HO_5
                                                                      clear HB
                                                                      clear HR263
                                                                      clear HO_26
                                                                      have HO_5 := n0_
                                                                      have HB := n1_
                                                                      have HR263 := n2_
                                                                      have HO259 := n3_
                                                                      clear n0_ n1_ n2_ n3_
                                                                      clear ho hb hg hat
                                                                      refine hK.out _ _ trivial (fun hHeld => ?_)
                                                                      clear hK K
                                                                      refine norm_ (a' := ?_) ?_ ?_
                                                                      rotate_left
                                                                      · show Act.put _ (some 205) _ = _
                                                                        simp only [Act.put, List.setIfInBounds_toArray, List.set_cons_zero, List.set_cons_succ, i64_w, i32_w]
                                                                        rfl
                                                                      refine one_ (i := 7) (N := some 209) #[true, true, true, true, true, true, true, true, false] rfl rfl (one_of HT_.out (by kernel_rfl)) (by decide) (fun K hK => ?_)
                                                                      refine Kd.R_append_rows_step (Kd.int .i64) (w0 := w) w.heap.size (by rfl) (.tmp 205) (.tmp 208) 24 2 (.int .i64 0) 8 rfl Try.underlying24 info2 rfl (by decide) (by omega) v258 y257 y260 _ _ _ (fun k_ => some k_ ≠ (.slice Ao17 t223.length co17 : Value).ownBlock) (fun _ => False) rfl rfl ?aO ?aR (fun _ _ h => h) (fun _ h => h.elim) ?aF ?aB ?aS ?aL ?_
                                                                      (case aR => repeat (first | exact (by repeat (first | (with_reducible exact HR263.out) | (with_reducible refine Kd.C_alloc ?_ _) | (with_reducible refine Kd.C_drewN ?_ _) | (with_reducible refine Kd.C_drew ?_) | exact HR263.out)) | (with_reducible refine Kd.C_alloc ?_ _) | (with_reducible refine Kd.C_drewN ?_ _) | (with_reducible refine Kd.C_drew ?_)))
                                                                      (case aB => exact (by repeat (first | (with_reducible first | exact HB.out | apply below_alloc | apply pw_below_drewN | apply below_drew1) | exact HB.out)))
                                                                      (case aF => exact (fun k_ hk => Kd.fresh' (Kd.R_lt (by (with_reducible repeat (first | apply Kd.R_alloc | apply Kd.R_drewN | apply Kd.R_drew)); exact HO_5.out)) k_ hk))
                                                                      (case aO => exact (by (with_reducible repeat (first | apply Kd.R_alloc | apply Kd.R_drewN | apply Kd.R_drew)); exact HO259.out))
                                                                      (case aS => exact (below_size (by repeat (first | (with_reducible first | exact HB.out | apply below_alloc | apply pw_below_drewN | apply below_drew1) | exact HB.out))))
                                                                      (case aL => have := LMc66.out; omega)
                                                                      intro v265 w98 ho hb hg hat
                                                                      rw [← Ny264.out] at ho
                                                                      have n0_ := Aside0.mk (Kd.R_after (ok := (fun _ => True)) (by (with_reducible repeat (first | apply Kd.R_alloc | apply Kd.R_drewN | apply Kd.R_drew)); exact HO_5.out) hg hat)
                                                                      have n1_ := Aside0.mk (hb)
                                                                      have n2_ := Aside0.mk ((show Kd.C (Kd.int .i64) w98 A96 y260.length y260 from by rw [Ny260.out, KA96.out]; exact Kd.C_drop (m := ((x26_6.length : Int) : Int).toNat) (c := co17) ((Kd.R_reads' (Kd.R_after (ok := (fun _ => True)) (by (with_reducible repeat (first | apply Kd.R_alloc | apply Kd.R_drewN | apply Kd.R_drew)); exact HO_5.out) hg hat)).2.2) KL96.out ((Kd.R_reads' (Kd.R_after (ok := (fun _ => True)) (by (with_reducible repeat (first | apply Kd.R_alloc | apply Kd.R_drewN | apply Kd.R_drew)); exact HO_5.out) hg hat)).2.1)))
                                                                      have n3_ := Aside0.mk (ho)
                                                                      clear HO_5
                                                                      clear HB
                                                                      clear HR263
                                                                      clear HO259
                                                                      have HO_5 := n0_
                                                                      have HB := n1_
                                                                      have HR263 := n2_
                                                                      have HO266 := n3_
                                                                      clear n0_ n1_ n2_ n3_
                                                                      clear ho hb hg hat
                                                                      refine hK.out _ _ trivial (fun hHeld => ?_)
                                                                      clear hK K
                                                                      refine norm_ (a' := ?_) ?_ ?_
                                                                      rotate_left
                                                                      · show Act.put _ (some 209) _ = _
                                                                        simp only [Act.put, List.setIfInBounds_toArray, List.set_cons_zero, List.set_cons_succ, i64_w, i32_w]
                                                                        rfl
                                                                      refine pure_ (i := 8) (N := some 26) (v := ?_) (a' := ?_) #[true, true, true, true, true, true, true, true, true] rfl rfl (any_of HT_.out (by kernel_rfl)) (fun _ _ _ h => h) (Or.inl ⟨by rfl, ?_⟩) ?_ ?_
                                                                      rotate_left
                                                                      · intro w'
                                                                        go_simp
                                                                        with_reducible rfl
                                                                      rotate_left
                                                                      · simp only [Act.put, List.setIfInBounds_toArray, List.set_cons_zero, List.set_cons_succ, i64_w, i32_w]
                                                                        rfl
                                                                      refine done_ (done_of HT_.out (by kernel_rfl)) ?_
                                                                      obtain ⟨Ao99, co99, eo99⟩ := Kd.R_slice HO266.out
                                                                      subst eo99
                                                                      try go_wp2_with (first | ((with_reducible refine gate_callee (f := 18) rfl ?_); refine goesL_ (some 213) rfl rfl Try.func18 (by kernel_rfl) rfl #[.slice Ao99 y264.length co99, .int .i64 (wrap64 (1 + t226))] rfl (by (try simp only [List.map_toArray, List.map_cons, List.map_nil]); first | done | rfl | (simp only [List.length_drop, List.length_take]; rfl)) ?_; (with_reducible refine (impl_ReachOf.calls k6 _ _ y264 (wrap64 (1 + t226)) t267 t268 _ ?side1 ?side2 A67.out).mono ?_); (case side1 => repeat (first | exact (Kd.R_reads' HO266.out).2.2 | (with_reducible refine Kd.C_alloc ?_ _) | (with_reducible refine Kd.C_drewN ?_ _) | (with_reducible refine Kd.C_drew ?_))); (case side2 => exact (Kd.R_reads' HO266.out).2.1); rintro e w100 ⟨rfl, hb⟩; refine ⟨_, rfl, ?_⟩; have n0_ := Aside0.mk (Kd.R_below (by (with_reducible repeat (first | apply Kd.R_alloc | apply Kd.R_drewN | apply Kd.R_drew)); exact HO_5.out) hb); have n1_ := Aside0.mk (Kd.R_below (by (with_reducible repeat (first | apply Kd.R_alloc | apply Kd.R_drewN | apply Kd.R_drew)); exact HO266.out) hb); have n2_ := Aside0.mk (Kd.C_below (by repeat (first | (with_reducible exact HR263.out) | (with_reducible refine Kd.C_alloc ?_ _) | (with_reducible refine Kd.C_drewN ?_ _) | (with_reducible refine Kd.C_drew ?_) | exact HR263.out)) hb); have n3_ := Aside0.mk (below_step (by repeat (first | (with_reducible first | exact HB.out | apply below_alloc | apply pw_below_drewN | apply below_drew1) | exact HB.out)) hb); clear HO_5; clear HO266; clear HR263; clear HB; have HO_5 := n0_; have HO266 := n1_; have HR263 := n2_; have HB := n3_; clear n0_ n1_ n2_ n3_; (try clear hb); (try clear hb2); (try clear hk); (try clear hi)))
                                                                      go_roundg k6
                                                                      case measure => have := HJ2.out; have := HJ13.out; have := HK3.out; have := HJ41.out; have := HK5.out; have := HK6.out; omega
                                                                      case rel => exact ⟨(wrap64 (x25_5 + 1)), (by first | rfl | (simp; done) | (simp [*]; done)), H', ⟨by have := HJ2.out; have := HJ13.out; have := HK3.out; have := HJ41.out; have := HK5.out; have := HK6.out; omega⟩, ⟨by (with_reducible repeat (first | apply Kd.R_alloc | apply Kd.R_drewN | apply Kd.R_drew)); exact Kd.R_mono HO_5.out (fun _ hk => trivial)⟩, ⟨by repeat (first | (with_reducible first | exact HB.out | apply below_alloc | apply pw_below_drewN | apply below_drew1) | exact HB.out)⟩⟩
                                                                · rw [if_neg c77] at H
                                                                  have c77b0 : (t267 == t245) = false := beq_eq_false_iff_ne.mpr c77
                                                                  have c77b1 : (t267 != t245) = true := bne_iff_ne.mpr c77
                                                                  by_cases c101 : x25_5 = t244
                                                                  · rw [if_pos c101] at H
                                                                    have c101b0 : (x25_5 == t244) = true := beq_iff_eq.mpr c101
                                                                    have c101b1 : (x25_5 != t244) = false := bne_eq_false_iff_eq.mpr c101
                                                                    clear c101
                                                                    obtain rfl := Option.some.inj H
                                                                    obtain ⟨Ao102, co102, eo102⟩ := Kd.R_slice HO_26.out
                                                                    subst eo102
                                                                    try go_wp2
                                                                    have n0_ := Aside0.mk (Kd.R_drew HO_5.out)
                                                                    have n1_ := Aside0.mk (Kd.R_drew HO_26.out)
                                                                    have n2_ := Aside0.mk (below_drew1 HB.out)
                                                                    clear HO_5
                                                                    clear HO_26
                                                                    clear HB
                                                                    have HO_5 := n0_
                                                                    have HO_26 := n1_
                                                                    have HB := n2_
                                                                    clear n0_ n1_ n2_
                                                                    have q104 : ((x26_6.length : Int) : Int) ≤ ((t223.length : Int) : Int) := of_decide_eq_true (by first | (with_reducible assumption) | assumption)
                                                                    obtain ⟨i0104, hi0104, _, hsz104, _⟩ := info_parts info2
                                                                    have hroom104 : t223.length ≤ co17 := (Kd.R_reads' HO_5.out).2.1
                                                                    have hC104 : Kd.C (Kd.int .i64) _ Ao17 t223.length t223 := (Kd.R_reads' HO_5.out).2.2
                                                                    have q0104 : (0 : Int) ≤ ((x26_6.length : Int) : Int) := of_decide_eq_true (by first | (with_reducible assumption) | assumption)
                                                                    have hcut104 := cut_from (P := Try.prog) 24 2 .i64 Try.underlying24 hi0104 1 hsz104 Ao17 t223.length co17 (x26_6.length : Int) q0104 q104
                                                                    have hr104 := Kd.C_drop (m := ((x26_6.length : Int) : Int).toNat) (c := co17) hC104 (by omega) hroom104
                                                                    obtain ⟨A104, hA104⟩ : ∃ A1, A1 = (if co17 = ((x26_6.length : Int) : Int).toNat then Ao17 else (Ao17 : Option Addr).map (·.add (((x26_6.length : Int) : Int).toNat * 1))) := ⟨_, rfl⟩
                                                                    obtain ⟨c104, hc104⟩ : ∃ c1, c1 = co17 - ((x26_6.length : Int) : Int).toNat := ⟨_, rfl⟩
                                                                    have hy104 : y260.length = t223.length - ((x26_6.length : Int) : Int).toNat := (by rw [Ny260.out, List.length_drop] <;> omega)
                                                                    rw [show (t223).drop ((x26_6.length : Int) : Int).toNat = y260 from Ny260.out.symm] at hr104
                                                                    replace hr104 : Kd.C (Kd.int .i64) _ A104 y260.length y260 := (by rw [hA104]; exact hr104)
                                                                    rw [← hy104, ← hA104, ← hc104] at hcut104
                                                                    have HR263 := Aside0.mk hr104
                                                                    have HC263 := Aside0.mk (show y260.length ≤ c104 from by rw [hy104, hc104]; exact Nat.sub_le_sub_right hroom104 _)
                                                                    clear hr104 hC104 hroom104 hi0104 hsz104 hc104
                                                                    have KY104 := Aside0.mk hy104
                                                                    have KA104 := Aside0.mk hA104
                                                                    clear hy104 hA104
                                                                    have KL104 := Aside0.mk (show ((x26_6.length : Int) : Int).toNat ≤ t223.length from by omega)
                                                                    replace q104 := eq_true q104
                                                                    refine start_ (n := 9) (S := fun w' => True) (ds := []) #[false, false, false, false, false, false, false, false, false] (by kernel_rfl) rfl rfl trivial (fun hHeld => ?_); refine with_tabW laws_FnReach.tab32 laws_FnReach.bits32 (fun HT_ HW_ => ?_)
                                                                    generalize wr.drew = w103 at HO_5 HO_26 HB HR263 hHeld ⊢
                                                                    refine pure_ (i := 0) (N := some 202) (v := ?_) (a' := ?_) #[true, false, false, false, false, false, false, false, false] rfl rfl (any_of HT_.out (by kernel_rfl)) (fun _ _ _ h => h) (Or.inl ⟨by rfl, ?_⟩) ?_ ?_
                                                                    rotate_left
                                                                    · intro w'
                                                                      go_simp
                                                                      with_reducible rfl
                                                                    rotate_left
                                                                    · simp only [Act.put, List.setIfInBounds_toArray, List.set_cons_zero, List.set_cons_succ, i64_w, i32_w]
                                                                      rfl
                                                                    refine pure_ (i := 1) (N := some 203) (v := ?_) (a' := ?_) #[true, true, false, false, false, false, false, false, false] rfl rfl (any_of HT_.out (by kernel_rfl)) (fun _ _ _ h => h) (Or.inl ⟨by rfl, ?_⟩) ?_ ?_
                                                                    rotate_left
                                                                    · intro w'
                                                                      go_simp
                                                                      with_reducible rfl
                                                                    rotate_left
                                                                    · simp only [Act.put, List.setIfInBounds_toArray, List.set_cons_zero, List.set_cons_succ, i64_w, i32_w]
                                                                      rfl
                                                                    refine pure_ (i := 4) (N := some 206) (v := ?_) (a' := ?_) #[true, true, false, false, true, false, false, false, false] rfl rfl (any_of HT_.out (by kernel_rfl)) (fun _ _ _ h => h) (Or.inl ⟨by rfl, ?_⟩) ?_ ?_
                                                                    rotate_left
                                                                    · intro w'
                                                                      go_simp
                                                                      with_reducible rfl
                                                                    rotate_left
                                                                    · simp only [Act.put, List.setIfInBounds_toArray, List.set_cons_zero, List.set_cons_succ, i64_w, i32_w]
                                                                      rfl
                                                                    refine pure_ (i := 5) (N := some 207) (v := ?_) (a' := ?_) #[true, true, false, false, true, true, false, false, false] rfl rfl (any_of HT_.out (by kernel_rfl)) (fun _ _ _ h => h) (Or.inl ⟨by rfl, ?_⟩) ?_ ?_
                                                                    rotate_left
                                                                    · intro w'
                                                                      go_simp
                                                                      with_reducible rfl
                                                                    rotate_left
                                                                    · simp only [Act.put, List.setIfInBounds_toArray, List.set_cons_zero, List.set_cons_succ, i64_w, i32_w]
                                                                      rfl
                                                                    refine pure_ (i := 6) (N := some 208) (v := ?_) (a' := ?_) #[true, true, false, false, true, true, true, false, false] rfl rfl (any_of HT_.out (by kernel_rfl)) (fun _ _ _ h => h) (Or.inl ⟨by rfl, ?_⟩) ?_ ?_
                                                                    rotate_left
                                                                    · intro w'
                                                                      go_simp
                                                                      with_reducible rfl
                                                                    rotate_left
                                                                    · simp only [Act.put, List.setIfInBounds_toArray, List.set_cons_zero, List.set_cons_succ, i64_w, i32_w]
                                                                      rfl
                                                                    refine one_ (i := 2) (N := some 204) #[true, true, true, false, true, true, true, false, false] rfl rfl (one_of HT_.out (by kernel_rfl)) (by decide) (fun K hK => ?_)
                                                                    refine value_ (w1 := ?_) (v := ?_) (by rfl) rfl ?_ ?_
                                                                    rotate_left 2
                                                                    · go_simp
                                                                      constructor
                                                                      · rfl
                                                                      · rfl
                                                                    refine hK.out _ _ trivial (fun hHeld => ?_)
                                                                    clear hK K
                                                                    refine norm_ (a' := ?_) ?_ ?_
                                                                    rotate_left
                                                                    · show Act.put _ (some 204) _ = _
                                                                      simp only [Act.put, List.setIfInBounds_toArray, List.set_cons_zero, List.set_cons_succ, i64_w, i32_w]
                                                                      rfl
                                                                    refine one_ (i := 3) (N := some 205) #[true, true, true, true, true, true, true, false, false] rfl rfl (one_of HT_.out (by kernel_rfl)) (by decide) (fun K hK => ?_)
                                                                    refine Kd.R_append_step (Kd.int .i64) (w0 := w) w.heap.size (by rfl) (.tmp 202) (.tmp 204) 24 2 (.int .i64 0) 8 rfl Try.underlying24 info2 rfl (by decide) (by omega) (.slice Ao102 x26_6.length co102) x26_6 x25_5 [.int .i64 x25_5] (fun k_ => some k_ ≠ (.slice Ao17 t223.length co17 : Value).ownBlock) (fun _ => False) rfl rfl ?aP (fun _ hk => hk.elim) ?aF ?aO ?aB ?aS ?aL ?_
                                                                    (case aP => exact rfl)
                                                                    (case aB => exact (by repeat (first | (with_reducible first | exact HB.out | apply below_alloc | apply pw_below_drewN | apply below_drew1) | exact HB.out)))
                                                                    (case aF => exact (fun k_ hk => Kd.fresh' (Kd.R_lt (by (with_reducible repeat (first | apply Kd.R_alloc | apply Kd.R_drewN | apply Kd.R_drew)); exact HO_5.out)) k_ hk))
                                                                    (case aO => exact (by (with_reducible repeat (first | apply Kd.R_alloc | apply Kd.R_drewN | apply Kd.R_drew)); exact HO_26.out))
                                                                    (case aS => exact (below_size (by repeat (first | (with_reducible first | exact HB.out | apply below_alloc | apply pw_below_drewN | apply below_drew1) | exact HB.out))))
                                                                    (case aL => have := LMc63.out; omega)
                                                                    intro v258 w105 ho hb hg hat
                                                                    rw [← Ny257.out] at ho
                                                                    have n0_ := Aside0.mk (Kd.R_after (ok := (fun _ => True)) (by (with_reducible repeat (first | apply Kd.R_alloc | apply Kd.R_drewN | apply Kd.R_drew)); exact Kd.R_mono HO_5.out (fun _ hk => ⟨trivial, hk⟩)) hg hat)
                                                                    have n1_ := Aside0.mk (hb)
                                                                    have n2_ := Aside0.mk ((show Kd.C (Kd.int .i64) w105 A104 y260.length y260 from by rw [Ny260.out, KA104.out]; exact Kd.C_drop (m := ((x26_6.length : Int) : Int).toNat) (c := co17) ((Kd.R_reads' (Kd.R_after (ok := (fun _ => True)) (by (with_reducible repeat (first | apply Kd.R_alloc | apply Kd.R_drewN | apply Kd.R_drew)); exact Kd.R_mono HO_5.out (fun _ hk => ⟨trivial, hk⟩)) hg hat)).2.2) KL104.out ((Kd.R_reads' (Kd.R_after (ok := (fun _ => True)) (by (with_reducible repeat (first | apply Kd.R_alloc | apply Kd.R_drewN | apply Kd.R_drew)); exact Kd.R_mono HO_5.out (fun _ hk => ⟨trivial, hk⟩)) hg hat)).2.1)))
                                                                    have n3_ := Aside0.mk (ho)
                                                                    clear HO_5
                                                                    clear HB
                                                                    clear HR263
                                                                    clear HO_26
                                                                    have HO_5 := n0_
                                                                    have HB := n1_
                                                                    have HR263 := n2_
                                                                    have HO259 := n3_
                                                                    clear n0_ n1_ n2_ n3_
                                                                    clear ho hb hg hat
                                                                    refine hK.out _ _ trivial (fun hHeld => ?_)
                                                                    clear hK K
                                                                    refine norm_ (a' := ?_) ?_ ?_
                                                                    rotate_left
                                                                    · show Act.put _ (some 205) _ = _
                                                                      simp only [Act.put, List.setIfInBounds_toArray, List.set_cons_zero, List.set_cons_succ, i64_w, i32_w]
                                                                      rfl
                                                                    refine one_ (i := 7) (N := some 209) #[true, true, true, true, true, true, true, true, false] rfl rfl (one_of HT_.out (by kernel_rfl)) (by decide) (fun K hK => ?_)
                                                                    refine Kd.R_append_rows_step (Kd.int .i64) (w0 := w) w.heap.size (by rfl) (.tmp 205) (.tmp 208) 24 2 (.int .i64 0) 8 rfl Try.underlying24 info2 rfl (by decide) (by omega) v258 y257 y260 _ _ _ (fun k_ => some k_ ≠ (.slice Ao17 t223.length co17 : Value).ownBlock) (fun _ => False) rfl rfl ?aO ?aR (fun _ _ h => h) (fun _ h => h.elim) ?aF ?aB ?aS ?aL ?_
                                                                    (case aR => repeat (first | exact (by repeat (first | (with_reducible exact HR263.out) | (with_reducible refine Kd.C_alloc ?_ _) | (with_reducible refine Kd.C_drewN ?_ _) | (with_reducible refine Kd.C_drew ?_) | exact HR263.out)) | (with_reducible refine Kd.C_alloc ?_ _) | (with_reducible refine Kd.C_drewN ?_ _) | (with_reducible refine Kd.C_drew ?_)))
                                                                    (case aB => exact (by repeat (first | (with_reducible first | exact HB.out | apply below_alloc | apply pw_below_drewN | apply below_drew1) | exact HB.out)))
                                                                    (case aF => exact (fun k_ hk => Kd.fresh' (Kd.R_lt (by (with_reducible repeat (first | apply Kd.R_alloc | apply Kd.R_drewN | apply Kd.R_drew)); exact HO_5.out)) k_ hk))
                                                                    (case aO => exact (by (with_reducible repeat (first | apply Kd.R_alloc | apply Kd.R_drewN | apply Kd.R_drew)); exact HO259.out))
                                                                    (case aS => exact (below_size (by repeat (first | (with_reducible first | exact HB.out | apply below_alloc | apply pw_below_drewN | apply below_drew1) | exact HB.out))))
                                                                    (case aL => have := LMc66.out; omega)
                                                                    intro v265 w106 ho hb hg hat
                                                                    rw [← Ny264.out] at ho
                                                                    have n0_ := Aside0.mk (Kd.R_after (ok := (fun _ => True)) (by (with_reducible repeat (first | apply Kd.R_alloc | apply Kd.R_drewN | apply Kd.R_drew)); exact HO_5.out) hg hat)
                                                                    have n1_ := Aside0.mk (hb)
                                                                    have n2_ := Aside0.mk ((show Kd.C (Kd.int .i64) w106 A104 y260.length y260 from by rw [Ny260.out, KA104.out]; exact Kd.C_drop (m := ((x26_6.length : Int) : Int).toNat) (c := co17) ((Kd.R_reads' (Kd.R_after (ok := (fun _ => True)) (by (with_reducible repeat (first | apply Kd.R_alloc | apply Kd.R_drewN | apply Kd.R_drew)); exact HO_5.out) hg hat)).2.2) KL104.out ((Kd.R_reads' (Kd.R_after (ok := (fun _ => True)) (by (with_reducible repeat (first | apply Kd.R_alloc | apply Kd.R_drewN | apply Kd.R_drew)); exact HO_5.out) hg hat)).2.1)))
                                                                    have n3_ := Aside0.mk (ho)
                                                                    clear HO_5
                                                                    clear HB
                                                                    clear HR263
                                                                    clear HO259
                                                                    have HO_5 := n0_
                                                                    have HB := n1_
                                                                    have HR263 := n2_
                                                                    have HO266 := n3_
                                                                    clear n0_ n1_ n2_ n3_
                                                                    clear ho hb hg hat
                                                                    refine hK.out _ _ trivial (fun hHeld => ?_)
                                                                    clear hK K
                                                                    refine norm_ (a' := ?_) ?_ ?_
                                                                    rotate_left
                                                                    · show Act.put _ (some 209) _ = _
                                                                      simp only [Act.put, List.setIfInBounds_toArray, List.set_cons_zero, List.set_cons_succ, i64_w, i32_w]
                                                                      rfl
                                                                    refine pure_ (i := 8) (N := some 26) (v := ?_) (a' := ?_) #[true, true, true, true, true, true, true, true, true] rfl rfl (any_of HT_.out (by kernel_rfl)) (fun _ _ _ h => h) (Or.inl ⟨by rfl, ?_⟩) ?_ ?_
                                                                    rotate_left
                                                                    · intro w'
                                                                      go_simp
                                                                      with_reducible rfl
                                                                    rotate_left
                                                                    · simp only [Act.put, List.setIfInBounds_toArray, List.set_cons_zero, List.set_cons_succ, i64_w, i32_w]
                                                                      rfl
                                                                    refine done_ (done_of HT_.out (by kernel_rfl)) ?_
                                                                    obtain ⟨Ao107, co107, eo107⟩ := Kd.R_slice HO266.out
                                                                    subst eo107
                                                                    try go_wp2_with (first | ((with_reducible refine gate_callee (f := 18) rfl ?_); refine goesL_ (some 213) rfl rfl Try.func18 (by kernel_rfl) rfl #[.slice Ao107 y264.length co107, .int .i64 (wrap64 (1 + t226))] rfl (by (try simp only [List.map_toArray, List.map_cons, List.map_nil]); first | done | rfl | (simp only [List.length_drop, List.length_take]; rfl)) ?_; (with_reducible refine (impl_ReachOf.calls k6 _ _ y264 (wrap64 (1 + t226)) t267 t268 _ ?side1 ?side2 A67.out).mono ?_); (case side1 => repeat (first | exact (Kd.R_reads' HO266.out).2.2 | (with_reducible refine Kd.C_alloc ?_ _) | (with_reducible refine Kd.C_drewN ?_ _) | (with_reducible refine Kd.C_drew ?_))); (case side2 => exact (Kd.R_reads' HO266.out).2.1); rintro e w108 ⟨rfl, hb⟩; refine ⟨_, rfl, ?_⟩; have n0_ := Aside0.mk (Kd.R_below (by (with_reducible repeat (first | apply Kd.R_alloc | apply Kd.R_drewN | apply Kd.R_drew)); exact HO_5.out) hb); have n1_ := Aside0.mk (Kd.R_below (by (with_reducible repeat (first | apply Kd.R_alloc | apply Kd.R_drewN | apply Kd.R_drew)); exact HO266.out) hb); have n2_ := Aside0.mk (Kd.C_below (by repeat (first | (with_reducible exact HR263.out) | (with_reducible refine Kd.C_alloc ?_ _) | (with_reducible refine Kd.C_drewN ?_ _) | (with_reducible refine Kd.C_drew ?_) | exact HR263.out)) hb); have n3_ := Aside0.mk (below_step (by repeat (first | (with_reducible first | exact HB.out | apply below_alloc | apply pw_below_drewN | apply below_drew1) | exact HB.out)) hb); clear HO_5; clear HO266; clear HR263; clear HB; have HO_5 := n0_; have HO266 := n1_; have HR263 := n2_; have HB := n3_; clear n0_ n1_ n2_ n3_; (try clear hb); (try clear hb2); (try clear hk); (try clear hi)))
                                                                    go_ret
                                                                    exact ⟨by first | rfl | (simp [errW_none, errW_some] <;> rfl) | (simp [*, errW_none, errW_some] <;> rfl), by repeat (first | (with_reducible first | exact HB.out | apply below_alloc | apply pw_below_drewN | apply below_drew1) | exact HB.out)⟩
                                                                  · rw [if_neg c101] at H
                                                                    have c101b0 : (x25_5 == t244) = false := beq_eq_false_iff_ne.mpr c101
                                                                    have c101b1 : (x25_5 != t244) = true := bne_iff_ne.mpr c101
                                                                    have H' := Aside0.mk H
                                                                    clear H
                                                                    obtain ⟨Ao109, co109, eo109⟩ := Kd.R_slice HO_26.out
                                                                    subst eo109
                                                                    try go_wp2
                                                                    have n0_ := Aside0.mk (Kd.R_drew HO_5.out)
                                                                    have n1_ := Aside0.mk (Kd.R_drew HO_26.out)
                                                                    have n2_ := Aside0.mk (below_drew1 HB.out)
                                                                    clear HO_5
                                                                    clear HO_26
                                                                    clear HB
                                                                    have HO_5 := n0_
                                                                    have HO_26 := n1_
                                                                    have HB := n2_
                                                                    clear n0_ n1_ n2_
                                                                    have q111 : ((x26_6.length : Int) : Int) ≤ ((t223.length : Int) : Int) := of_decide_eq_true (by first | (with_reducible assumption) | assumption)
                                                                    obtain ⟨i0111, hi0111, _, hsz111, _⟩ := info_parts info2
                                                                    have hroom111 : t223.length ≤ co17 := (Kd.R_reads' HO_5.out).2.1
                                                                    have hC111 : Kd.C (Kd.int .i64) _ Ao17 t223.length t223 := (Kd.R_reads' HO_5.out).2.2
                                                                    have q0111 : (0 : Int) ≤ ((x26_6.length : Int) : Int) := of_decide_eq_true (by first | (with_reducible assumption) | assumption)
                                                                    have hcut111 := cut_from (P := Try.prog) 24 2 .i64 Try.underlying24 hi0111 1 hsz111 Ao17 t223.length co17 (x26_6.length : Int) q0111 q111
                                                                    have hr111 := Kd.C_drop (m := ((x26_6.length : Int) : Int).toNat) (c := co17) hC111 (by omega) hroom111
                                                                    obtain ⟨A111, hA111⟩ : ∃ A1, A1 = (if co17 = ((x26_6.length : Int) : Int).toNat then Ao17 else (Ao17 : Option Addr).map (·.add (((x26_6.length : Int) : Int).toNat * 1))) := ⟨_, rfl⟩
                                                                    obtain ⟨c111, hc111⟩ : ∃ c1, c1 = co17 - ((x26_6.length : Int) : Int).toNat := ⟨_, rfl⟩
                                                                    have hy111 : y260.length = t223.length - ((x26_6.length : Int) : Int).toNat := (by rw [Ny260.out, List.length_drop] <;> omega)
                                                                    rw [show (t223).drop ((x26_6.length : Int) : Int).toNat = y260 from Ny260.out.symm] at hr111
                                                                    replace hr111 : Kd.C (Kd.int .i64) _ A111 y260.length y260 := (by rw [hA111]; exact hr111)
                                                                    rw [← hy111, ← hA111, ← hc111] at hcut111
                                                                    have HR263 := Aside0.mk hr111
                                                                    have HC263 := Aside0.mk (show y260.length ≤ c111 from by rw [hy111, hc111]; exact Nat.sub_le_sub_right hroom111 _)
                                                                    clear hr111 hC111 hroom111 hi0111 hsz111 hc111
                                                                    have KY111 := Aside0.mk hy111
                                                                    have KA111 := Aside0.mk hA111
                                                                    clear hy111 hA111
                                                                    have KL111 := Aside0.mk (show ((x26_6.length : Int) : Int).toNat ≤ t223.length from by omega)
                                                                    replace q111 := eq_true q111
                                                                    refine start_ (n := 9) (S := fun w' => True) (ds := []) #[false, false, false, false, false, false, false, false, false] (by kernel_rfl) rfl rfl trivial (fun hHeld => ?_); refine with_tabW laws_FnReach.tab32 laws_FnReach.bits32 (fun HT_ HW_ => ?_)
                                                                    generalize wr.drew = w110 at HO_5 HO_26 HB HR263 hHeld ⊢
                                                                    refine pure_ (i := 0) (N := some 202) (v := ?_) (a' := ?_) #[true, false, false, false, false, false, false, false, false] rfl rfl (any_of HT_.out (by kernel_rfl)) (fun _ _ _ h => h) (Or.inl ⟨by rfl, ?_⟩) ?_ ?_
                                                                    rotate_left
                                                                    · intro w'
                                                                      go_simp
                                                                      with_reducible rfl
                                                                    rotate_left
                                                                    · simp only [Act.put, List.setIfInBounds_toArray, List.set_cons_zero, List.set_cons_succ, i64_w, i32_w]
                                                                      rfl
                                                                    refine pure_ (i := 1) (N := some 203) (v := ?_) (a' := ?_) #[true, true, false, false, false, false, false, false, false] rfl rfl (any_of HT_.out (by kernel_rfl)) (fun _ _ _ h => h) (Or.inl ⟨by rfl, ?_⟩) ?_ ?_
                                                                    rotate_left
                                                                    · intro w'
                                                                      go_simp
                                                                      with_reducible rfl
                                                                    rotate_left
                                                                    · simp only [Act.put, List.setIfInBounds_toArray, List.set_cons_zero, List.set_cons_succ, i64_w, i32_w]
                                                                      rfl
                                                                    refine pure_ (i := 4) (N := some 206) (v := ?_) (a' := ?_) #[true, true, false, false, true, false, false, false, false] rfl rfl (any_of HT_.out (by kernel_rfl)) (fun _ _ _ h => h) (Or.inl ⟨by rfl, ?_⟩) ?_ ?_
                                                                    rotate_left
                                                                    · intro w'
                                                                      go_simp
                                                                      with_reducible rfl
                                                                    rotate_left
                                                                    · simp only [Act.put, List.setIfInBounds_toArray, List.set_cons_zero, List.set_cons_succ, i64_w, i32_w]
                                                                      rfl
                                                                    refine pure_ (i := 5) (N := some 207) (v := ?_) (a' := ?_) #[true, true, false, false, true, true, false, false, false] rfl rfl (any_of HT_.out (by kernel_rfl)) (fun _ _ _ h => h) (Or.inl ⟨by rfl, ?_⟩) ?_ ?_
                                                                    rotate_left
                                                                    · intro w'
                                                                      go_simp
                                                                      with_reducible rfl
                                                                    rotate_left
                                                                    · simp only [Act.put, List.setIfInBounds_toArray, List.set_cons_zero, List.set_cons_succ, i64_w, i32_w]
                                                                      rfl
                                                                    refine pure_ (i := 6) (N := some 208) (v := ?_) (a' := ?_) #[true, true, false, false, true, true, true, false, false] rfl rfl (any_of HT_.out (by kernel_rfl)) (fun _ _ _ h => h) (Or.inl ⟨by rfl, ?_⟩) ?_ ?_
                                                                    rotate_left
                                                                    · intro w'
                                                                      go_simp
                                                                      with_reducible rfl
                                                                    rotate_left
                                                                    · simp only [Act.put, List.setIfInBounds_toArray, List.set_cons_zero, List.set_cons_succ, i64_w, i32_w]
                                                                      rfl
                                                                    refine one_ (i := 2) (N := some 204) #[true, true, true, false, true, true, true, false, false] rfl rfl (one_of HT_.out (by kernel_rfl)) (by decide) (fun K hK => ?_)
                                                                    refine value_ (w1 := ?_) (v := ?_) (by rfl) rfl ?_ ?_
                                                                    rotate_left 2
                                                                    · go_simp
                                                                      constructor
                                                                      · rfl
                                                                      · rfl
                                                                    refine hK.out _ _ trivial (fun hHeld => ?_)
                                                                    clear hK K
                                                                    refine norm_ (a' := ?_) ?_ ?_
                                                                    rotate_left
                                                                    · show Act.put _ (some 204) _ = _
                                                                      simp only [Act.put, List.setIfInBounds_toArray, List.set_cons_zero, List.set_cons_succ, i64_w, i32_w]
                                                                      rfl
                                                                    refine one_ (i := 3) (N := some 205) #[true, true, true, true, true, true, true, false, false] rfl rfl (one_of HT_.out (by kernel_rfl)) (by decide) (fun K hK => ?_)
                                                                    refine Kd.R_append_step (Kd.int .i64) (w0 := w) w.heap.size (by rfl) (.tmp 202) (.tmp 204) 24 2 (.int .i64 0) 8 rfl Try.underlying24 info2 rfl (by decide) (by omega) (.slice Ao109 x26_6.length co109) x26_6 x25_5 [.int .i64 x25_5] (fun k_ => some k_ ≠ (.slice Ao17 t223.length co17 : Value).ownBlock) (fun _ => False) rfl rfl ?aP (fun _ hk => hk.elim) ?aF ?aO ?aB ?aS ?aL ?_
                                                                    (case aP => exact rfl)
                                                                    (case aB => exact (by repeat (first | (with_reducible first | exact HB.out | apply below_alloc | apply pw_below_drewN | apply below_drew1) | exact HB.out)))
                                                                    (case aF => exact (fun k_ hk => Kd.fresh' (Kd.R_lt (by (with_reducible repeat (first | apply Kd.R_alloc | apply Kd.R_drewN | apply Kd.R_drew)); exact HO_5.out)) k_ hk))
                                                                    (case aO => exact (by (with_reducible repeat (first | apply Kd.R_alloc | apply Kd.R_drewN | apply Kd.R_drew)); exact HO_26.out))
                                                                    (case aS => exact (below_size (by repeat (first | (with_reducible first | exact HB.out | apply below_alloc | apply pw_below_drewN | apply below_drew1) | exact HB.out))))
                                                                    (case aL => have := LMc63.out; omega)
                                                                    intro v258 w112 ho hb hg hat
                                                                    rw [← Ny257.out] at ho
                                                                    have n0_ := Aside0.mk (Kd.R_after (ok := (fun _ => True)) (by (with_reducible repeat (first | apply Kd.R_alloc | apply Kd.R_drewN | apply Kd.R_drew)); exact Kd.R_mono HO_5.out (fun _ hk => ⟨trivial, hk⟩)) hg hat)
                                                                    have n1_ := Aside0.mk (hb)
                                                                    have n2_ := Aside0.mk ((show Kd.C (Kd.int .i64) w112 A111 y260.length y260 from by rw [Ny260.out, KA111.out]; exact Kd.C_drop (m := ((x26_6.length : Int) : Int).toNat) (c := co17) ((Kd.R_reads' (Kd.R_after (ok := (fun _ => True)) (by (with_reducible repeat (first | apply Kd.R_alloc | apply Kd.R_drewN | apply Kd.R_drew)); exact Kd.R_mono HO_5.out (fun _ hk => ⟨trivial, hk⟩)) hg hat)).2.2) KL111.out ((Kd.R_reads' (Kd.R_after (ok := (fun _ => True)) (by (with_reducible repeat (first | apply Kd.R_alloc | apply Kd.R_drewN | apply Kd.R_drew)); exact Kd.R_mono HO_5.out (fun _ hk => ⟨trivial, hk⟩)) hg hat)).2.1)))
                                                                    have n3_ := Aside0.mk (ho)
                                                                    clear HO_5
                                                                    clear HB
                                                                    clear HR263
                                                                    clear HO_26
                                                                    have HO_5 := n0_
                                                                    have HB := n1_
                                                                    have HR263 := n2_
                                                                    have HO259 := n3_
                                                                    clear n0_ n1_ n2_ n3_
                                                                    clear ho hb hg hat
                                                                    refine hK.out _ _ trivial (fun hHeld => ?_)
                                                                    clear hK K
                                                                    refine norm_ (a' := ?_) ?_ ?_
                                                                    rotate_left
                                                                    · show Act.put _ (some 205) _ = _
                                                                      simp only [Act.put, List.setIfInBounds_toArray, List.set_cons_zero, List.set_cons_succ, i64_w, i32_w]
                                                                      rfl
                                                                    refine one_ (i := 7) (N := some 209) #[true, true, true, true, true, true, true, true, false] rfl rfl (one_of HT_.out (by kernel_rfl)) (by decide) (fun K hK => ?_)
                                                                    refine Kd.R_append_rows_step (Kd.int .i64) (w0 := w) w.heap.size (by rfl) (.tmp 205) (.tmp 208) 24 2 (.int .i64 0) 8 rfl Try.underlying24 info2 rfl (by decide) (by omega) v258 y257 y260 _ _ _ (fun k_ => some k_ ≠ (.slice Ao17 t223.length co17 : Value).ownBlock) (fun _ => False) rfl rfl ?aO ?aR (fun _ _ h => h) (fun _ h => h.elim) ?aF ?aB ?aS ?aL ?_
                                                                    (case aR => repeat (first | exact (by repeat (first | (with_reducible exact HR263.out) | (with_reducible refine Kd.C_alloc ?_ _) | (with_reducible refine Kd.C_drewN ?_ _) | (with_reducible refine Kd.C_drew ?_) | exact HR263.out)) | (with_reducible refine Kd.C_alloc ?_ _) | (with_reducible refine Kd.C_drewN ?_ _) | (with_reducible refine Kd.C_drew ?_)))
                                                                    (case aB => exact (by repeat (first | (with_reducible first | exact HB.out | apply below_alloc | apply pw_below_drewN | apply below_drew1) | exact HB.out)))
                                                                    (case aF => exact (fun k_ hk => Kd.fresh' (Kd.R_lt (by (with_reducible repeat (first | apply Kd.R_alloc | apply Kd.R_drewN | apply Kd.R_drew)); exact HO_5.out)) k_ hk))
                                                                    (case aO => exact (by (with_reducible repeat (first | apply Kd.R_alloc | apply Kd.R_drewN | apply Kd.R_drew)); exact HO259.out))
                                                                    (case aS => exact (below_size (by repeat (first | (with_reducible first | exact HB.out | apply below_alloc | apply pw_below_drewN | apply below_drew1) | exact HB.out))))
                                                                    (case aL => have := LMc66.out; omega)
                                                                    intro v265 w113 ho hb hg hat
                                                                    rw [← Ny264.out] at ho
                                                                    have n0_ := Aside0.mk (Kd.R_after (ok := (fun _ => True)) (by (with_reducible repeat (first | apply Kd.R_alloc | apply Kd.R_drewN | apply Kd.R_drew)); exact HO_5.out) hg hat)
                                                                    have n1_ := Aside0.mk (hb)
                                                                    have n2_ := Aside0.mk ((show Kd.C (Kd.int .i64) w113 A111 y260.length y260 from by rw [Ny260.out, KA111.out]; exact Kd.C_drop (m := ((x26_6.length : Int) : Int).toNat) (c := co17) ((Kd.R_reads' (Kd.R_after (ok := (fun _ => True)) (by (with_reducible repeat (first | apply Kd.R_alloc | apply Kd.R_drewN | apply Kd.R_drew)); exact HO_5.out) hg hat)).2.2) KL111.out ((Kd.R_reads' (Kd.R_after (ok := (fun _ => True)) (by (with_reducible repeat (first | apply Kd.R_alloc | apply Kd.R_drewN | apply Kd.R_drew)); exact HO_5.out) hg hat)).2.1)))
                                                                    have n3_ := Aside0.mk (ho)
                                                                    clear HO_5
                                                                    clear HB
                                                                    clear HR263
                                                                    clear HO259
                                                                    have HO_5 := n0_
                                                                    have HB := n1_
                                                                    have HR263 := n2_
                                                                    have HO266 := n3_
                                                                    clear n0_ n1_ n2_ n3_
                                                                    clear ho hb hg hat
                                                                    refine hK.out _ _ trivial (fun hHeld => ?_)
                                                                    clear hK K
                                                                    refine norm_ (a' := ?_) ?_ ?_
                                                                    rotate_left
                                                                    · show Act.put _ (some 209) _ = _
                                                                      simp only [Act.put, List.setIfInBounds_toArray, List.set_cons_zero, List.set_cons_succ, i64_w, i32_w]
                                                                      rfl
                                                                    refine pure_ (i := 8) (N := some 26) (v := ?_) (a' := ?_) #[true, true, true, true, true, true, true, true, true] rfl rfl (any_of HT_.out (by kernel_rfl)) (fun _ _ _ h => h) (Or.inl ⟨by rfl, ?_⟩) ?_ ?_
                                                                    rotate_left
                                                                    · intro w'
                                                                      go_simp
                                                                      with_reducible rfl
                                                                    rotate_left
                                                                    · simp only [Act.put, List.setIfInBounds_toArray, List.set_cons_zero, List.set_cons_succ, i64_w, i32_w]
                                                                      rfl
                                                                    refine done_ (done_of HT_.out (by kernel_rfl)) ?_
                                                                    obtain ⟨Ao114, co114, eo114⟩ := Kd.R_slice HO266.out
                                                                    subst eo114
                                                                    try go_wp2_with (first | ((with_reducible refine gate_callee (f := 18) rfl ?_); refine goesL_ (some 213) rfl rfl Try.func18 (by kernel_rfl) rfl #[.slice Ao114 y264.length co114, .int .i64 (wrap64 (1 + t226))] rfl (by (try simp only [List.map_toArray, List.map_cons, List.map_nil]); first | done | rfl | (simp only [List.length_drop, List.length_take]; rfl)) ?_; (with_reducible refine (impl_ReachOf.calls k6 _ _ y264 (wrap64 (1 + t226)) t267 t268 _ ?side1 ?side2 A67.out).mono ?_); (case side1 => repeat (first | exact (Kd.R_reads' HO266.out).2.2 | (with_reducible refine Kd.C_alloc ?_ _) | (with_reducible refine Kd.C_drewN ?_ _) | (with_reducible refine Kd.C_drew ?_))); (case side2 => exact (Kd.R_reads' HO266.out).2.1); rintro e w115 ⟨rfl, hb⟩; refine ⟨_, rfl, ?_⟩; have n0_ := Aside0.mk (Kd.R_below (by (with_reducible repeat (first | apply Kd.R_alloc | apply Kd.R_drewN | apply Kd.R_drew)); exact HO_5.out) hb); have n1_ := Aside0.mk (Kd.R_below (by (with_reducible repeat (first | apply Kd.R_alloc | apply Kd.R_drewN | apply Kd.R_drew)); exact HO266.out) hb); have n2_ := Aside0.mk (Kd.C_below (by repeat (first | (with_reducible exact HR263.out) | (with_reducible refine Kd.C_alloc ?_ _) | (with_reducible refine Kd.C_drewN ?_ _) | (with_reducible refine Kd.C_drew ?_) | exact HR263.out)) hb); have n3_ := Aside0.mk (below_step (by repeat (first | (with_reducible first | exact HB.out | apply below_alloc | apply pw_below_drewN | apply below_drew1) | exact HB.out)) hb); clear HO_5; clear HO266; clear HR263; clear HB; have HO_5 := n0_; have HO266 := n1_; have HR263 := n2_; have HB := n3_; clear n0_ n1_ n2_ n3_; (try clear hb); (try clear hb2); (try clear hk); (try clear hi)))
                                                                    go_roundg k6
                                                                    case measure => have := HJ2.out; have := HJ13.out; have := HK3.out; have := HJ41.out; have := HK5.out; have := HK6.out; omega
                                                                    case rel => exact ⟨(wrap64 (x25_5 + 1)), (by first | rfl | (simp; done) | (simp [*]; done)), H', ⟨by have := HJ2.out; have := HJ13.out; have := HK3.out; have := HJ41.out; have := HK5.out; have := HK6.out; omega⟩, ⟨by (with_reducible repeat (first | apply Kd.R_alloc | apply Kd.R_drewN | apply Kd.R_drew)); exact Kd.R_mono HO_5.out (fun _ hk => trivial)⟩, ⟨by repeat (first | (with_reducible first | exact HB.out | apply below_alloc | apply pw_below_drewN | apply below_drew1) | exact HB.out)⟩⟩
                                                            · rw [if_neg c68] at H
                                                              have c68b0 : (t268 == 0) = false := beq_eq_false_iff_ne.mpr c68
                                                              have c68b1 : (t268 != 0) = true := bne_iff_ne.mpr c68
                                                              obtain rfl := Option.some.inj H
                                                              obtain ⟨Ao116, co116, eo116⟩ := Kd.R_slice HO_26.out
                                                              subst eo116
                                                              try go_wp2
                                                              have n0_ := Aside0.mk (Kd.R_drew HO_5.out)
                                                              have n1_ := Aside0.mk (Kd.R_drew HO_26.out)
                                                              have n2_ := Aside0.mk (below_drew1 HB.out)
                                                              clear HO_5
                                                              clear HO_26
                                                              clear HB
                                                              have HO_5 := n0_
                                                              have HO_26 := n1_
                                                              have HB := n2_
                                                              clear n0_ n1_ n2_
                                                              have q118 : ((x26_6.length : Int) : Int) ≤ ((t223.length : Int) : Int) := of_decide_eq_true (by first | (with_reducible assumption) | assumption)
                                                              obtain ⟨i0118, hi0118, _, hsz118, _⟩ := info_parts info2
                                                              have hroom118 : t223.length ≤ co17 := (Kd.R_reads' HO_5.out).2.1
                                                              have hC118 : Kd.C (Kd.int .i64) _ Ao17 t223.length t223 := (Kd.R_reads' HO_5.out).2.2
                                                              have q0118 : (0 : Int) ≤ ((x26_6.length : Int) : Int) := of_decide_eq_true (by first | (with_reducible assumption) | assumption)
                                                              have hcut118 := cut_from (P := Try.prog) 24 2 .i64 Try.underlying24 hi0118 1 hsz118 Ao17 t223.length co17 (x26_6.length : Int) q0118 q118
                                                              have hr118 := Kd.C_drop (m := ((x26_6.length : Int) : Int).toNat) (c := co17) hC118 (by omega) hroom118
                                                              obtain ⟨A118, hA118⟩ : ∃ A1, A1 = (if co17 = ((x26_6.length : Int) : Int).toNat then Ao17 else (Ao17 : Option Addr).map (·.add (((x26_6.length : Int) : Int).toNat * 1))) := ⟨_, rfl⟩
                                                              obtain ⟨c118, hc118⟩ : ∃ c1, c1 = co17 - ((x26_6.length : Int) : Int).toNat := ⟨_, rfl⟩
                                                              have hy118 : y260.length = t223.length - ((x26_6.length : Int) : Int).toNat := (by rw [Ny260.out, List.length_drop] <;> omega)
                                                              rw [show (t223).drop ((x26_6.length : Int) : Int).toNat = y260 from Ny260.out.symm] at hr118
                                                              replace hr118 : Kd.C (Kd.int .i64) _ A118 y260.length y260 := (by rw [hA118]; exact hr118)
                                                              rw [← hy118, ← hA118, ← hc118] at hcut118
                                                              have HR263 := Aside0.mk hr118
                                                              have HC263 := Aside0.mk (show y260.length ≤ c118 from by rw [hy118, hc118]; exact Nat.sub_le_sub_right hroom118 _)
                                                              clear hr118 hC118 hroom118 hi0118 hsz118 hc118
                                                              have KY118 := Aside0.mk hy118
                                                              have KA118 := Aside0.mk hA118
                                                              clear hy118 hA118
                                                              have KL118 := Aside0.mk (show ((x26_6.length : Int) : Int).toNat ≤ t223.length from by omega)
                                                              replace q118 := eq_true q118
                                                              refine start_ (n := 9) (S := fun w' => True) (ds := []) #[false, false, false, false, false, false, false, false, false] (by kernel_rfl) rfl rfl trivial (fun hHeld => ?_); refine with_tabW laws_FnReach.tab32 laws_FnReach.bits32 (fun HT_ HW_ => ?_)
                                                              generalize wr.drew = w117 at HO_5 HO_26 HB HR263 hHeld ⊢
                                                              refine pure_ (i := 0) (N := some 202) (v := ?_) (a' := ?_) #[true, false, false, false, false, false, false, false, false] rfl rfl (any_of HT_.out (by kernel_rfl)) (fun _ _ _ h => h) (Or.inl ⟨by rfl, ?_⟩) ?_ ?_
                                                              rotate_left
                                                              · intro w'
                                                                go_simp
                                                                with_reducible rfl
                                                              rotate_left
                                                              · simp only [Act.put, List.setIfInBounds_toArray, List.set_cons_zero, List.set_cons_succ, i64_w, i32_w]
                                                                rfl
                                                              refine pure_ (i := 1) (N := some 203) (v := ?_) (a' := ?_) #[true, true, false, false, false, false, false, false, false] rfl rfl (any_of HT_.out (by kernel_rfl)) (fun _ _ _ h => h) (Or.inl ⟨by rfl, ?_⟩) ?_ ?_
                                                              rotate_left
                                                              · intro w'
                                                                go_simp
                                                                with_reducible rfl
                                                              rotate_left
                                                              · simp only [Act.put, List.setIfInBounds_toArray, List.set_cons_zero, List.set_cons_succ, i64_w, i32_w]
                                                                rfl
                                                              refine pure_ (i := 4) (N := some 206) (v := ?_) (a' := ?_) #[true, true, false, false, true, false, false, false, false] rfl rfl (any_of HT_.out (by kernel_rfl)) (fun _ _ _ h => h) (Or.inl ⟨by rfl, ?_⟩) ?_ ?_
                                                              rotate_left
                                                              · intro w'
                                                                go_simp
                                                                with_reducible rfl
                                                              rotate_left
                                                              · simp only [Act.put, List.setIfInBounds_toArray, List.set_cons_zero, List.set_cons_succ, i64_w, i32_w]
                                                                rfl
                                                              refine pure_ (i := 5) (N := some 207) (v := ?_) (a' := ?_) #[true, true, false, false, true, true, false, false, false] rfl rfl (any_of HT_.out (by kernel_rfl)) (fun _ _ _ h => h) (Or.inl ⟨by rfl, ?_⟩) ?_ ?_
                                                              rotate_left
                                                              · intro w'
                                                                go_simp
                                                                with_reducible rfl
                                                              rotate_left
                                                              · simp only [Act.put, List.setIfInBounds_toArray, List.set_cons_zero, List.set_cons_succ, i64_w, i32_w]
                                                                rfl
                                                              refine pure_ (i := 6) (N := some 208) (v := ?_) (a' := ?_) #[true, true, false, false, true, true, true, false, false] rfl rfl (any_of HT_.out (by kernel_rfl)) (fun _ _ _ h => h) (Or.inl ⟨by rfl, ?_⟩) ?_ ?_
                                                              rotate_left
                                                              · intro w'
                                                                go_simp
                                                                with_reducible rfl
                                                              rotate_left
                                                              · simp only [Act.put, List.setIfInBounds_toArray, List.set_cons_zero, List.set_cons_succ, i64_w, i32_w]
                                                                rfl
                                                              refine one_ (i := 2) (N := some 204) #[true, true, true, false, true, true, true, false, false] rfl rfl (one_of HT_.out (by kernel_rfl)) (by decide) (fun K hK => ?_)
                                                              refine value_ (w1 := ?_) (v := ?_) (by rfl) rfl ?_ ?_
                                                              rotate_left 2
                                                              · go_simp
                                                                constructor
                                                                · rfl
                                                                · rfl
                                                              refine hK.out _ _ trivial (fun hHeld => ?_)
                                                              clear hK K
                                                              refine norm_ (a' := ?_) ?_ ?_
                                                              rotate_left
                                                              · show Act.put _ (some 204) _ = _
                                                                simp only [Act.put, List.setIfInBounds_toArray, List.set_cons_zero, List.set_cons_succ, i64_w, i32_w]
                                                                rfl
                                                              refine one_ (i := 3) (N := some 205) #[true, true, true, true, true, true, true, false, false] rfl rfl (one_of HT_.out (by kernel_rfl)) (by decide) (fun K hK => ?_)
                                                              refine Kd.R_append_step (Kd.int .i64) (w0 := w) w.heap.size (by rfl) (.tmp 202) (.tmp 204) 24 2 (.int .i64 0) 8 rfl Try.underlying24 info2 rfl (by decide) (by omega) (.slice Ao116 x26_6.length co116) x26_6 x25_5 [.int .i64 x25_5] (fun k_ => some k_ ≠ (.slice Ao17 t223.length co17 : Value).ownBlock) (fun _ => False) rfl rfl ?aP (fun _ hk => hk.elim) ?aF ?aO ?aB ?aS ?aL ?_
                                                              (case aP => exact rfl)
                                                              (case aB => exact (by repeat (first | (with_reducible first | exact HB.out | apply below_alloc | apply pw_below_drewN | apply below_drew1) | exact HB.out)))
                                                              (case aF => exact (fun k_ hk => Kd.fresh' (Kd.R_lt (by (with_reducible repeat (first | apply Kd.R_alloc | apply Kd.R_drewN | apply Kd.R_drew)); exact HO_5.out)) k_ hk))
                                                              (case aO => exact (by (with_reducible repeat (first | apply Kd.R_alloc | apply Kd.R_drewN | apply Kd.R_drew)); exact HO_26.out))
                                                              (case aS => exact (below_size (by repeat (first | (with_reducible first | exact HB.out | apply below_alloc | apply pw_below_drewN | apply below_drew1) | exact HB.out))))
                                                              (case aL => have := LMc63.out; omega)
                                                              intro v258 w119 ho hb hg hat
                                                              rw [← Ny257.out] at ho
                                                              have n0_ := Aside0.mk (Kd.R_after (ok := (fun _ => True)) (by (with_reducible repeat (first | apply Kd.R_alloc | apply Kd.R_drewN | apply Kd.R_drew)); exact Kd.R_mono HO_5.out (fun _ hk => ⟨trivial, hk⟩)) hg hat)
                                                              have n1_ := Aside0.mk (hb)
                                                              have n2_ := Aside0.mk ((show Kd.C (Kd.int .i64) w119 A118 y260.length y260 from by rw [Ny260.out, KA118.out]; exact Kd.C_drop (m := ((x26_6.length : Int) : Int).toNat) (c := co17) ((Kd.R_reads' (Kd.R_after (ok := (fun _ => True)) (by (with_reducible repeat (first | apply Kd.R_alloc | apply Kd.R_drewN | apply Kd.R_drew)); exact Kd.R_mono HO_5.out (fun _ hk => ⟨trivial, hk⟩)) hg hat)).2.2) KL118.out ((Kd.R_reads' (Kd.R_after (ok := (fun _ => True)) (by (with_reducible repeat (first | apply Kd.R_alloc | apply Kd.R_drewN | apply Kd.R_drew)); exact Kd.R_mono HO_5.out (fun _ hk => ⟨trivial, hk⟩)) hg hat)).2.1)))
                                                              have n3_ := Aside0.mk (ho)
                                                              clear HO_5
                                                              clear HB
                                                              clear HR263
                                                              clear HO_26
                                                              have HO_5 := n0_
                                                              have HB := n1_
                                                              have HR263 := n2_
                                                              have HO259 := n3_
                                                              clear n0_ n1_ n2_ n3_
                                                              clear ho hb hg hat
                                                              refine hK.out _ _ trivial (fun hHeld => ?_)
                                                              clear hK K
                                                              refine norm_ (a' := ?_) ?_ ?_
                                                              rotate_left
                                                              · show Act.put _ (some 205) _ = _
                                                                simp only [Act.put, List.setIfInBounds_toArray, List.set_cons_zero, List.set_cons_succ, i64_w, i32_w]
                                                                rfl
                                                              refine one_ (i := 7) (N := some 209) #[true, true, true, true, true, true, true, true, false] rfl rfl (one_of HT_.out (by kernel_rfl)) (by decide) (fun K hK => ?_)
                                                              refine Kd.R_append_rows_step (Kd.int .i64) (w0 := w) w.heap.size (by rfl) (.tmp 205) (.tmp 208) 24 2 (.int .i64 0) 8 rfl Try.underlying24 info2 rfl (by decide) (by omega) v258 y257 y260 _ _ _ (fun k_ => some k_ ≠ (.slice Ao17 t223.length co17 : Value).ownBlock) (fun _ => False) rfl rfl ?aO ?aR (fun _ _ h => h) (fun _ h => h.elim) ?aF ?aB ?aS ?aL ?_
                                                              (case aR => repeat (first | exact (by repeat (first | (with_reducible exact HR263.out) | (with_reducible refine Kd.C_alloc ?_ _) | (with_reducible refine Kd.C_drewN ?_ _) | (with_reducible refine Kd.C_drew ?_) | exact HR263.out)) | (with_reducible refine Kd.C_alloc ?_ _) | (with_reducible refine Kd.C_drewN ?_ _) | (with_reducible refine Kd.C_drew ?_)))
                                                              (case aB => exact (by repeat (first | (with_reducible first | exact HB.out | apply below_alloc | apply pw_below_drewN | apply below_drew1) | exact HB.out)))
                                                              (case aF => exact (fun k_ hk => Kd.fresh' (Kd.R_lt (by (with_reducible repeat (first | apply Kd.R_alloc | apply Kd.R_drewN | apply Kd.R_drew)); exact HO_5.out)) k_ hk))
                                                              (case aO => exact (by (with_reducible repeat (first | apply Kd.R_alloc | apply Kd.R_drewN | apply Kd.R_drew)); exact HO259.out))
                                                              (case aS => exact (below_size (by repeat (first | (with_reducible first | exact HB.out | apply below_alloc | apply pw_below_drewN | apply below_drew1) | exact HB.out))))
                                                              (case aL => have := LMc66.out; omega)
                                                              intro v265 w120 ho hb hg hat
                                                              rw [← Ny264.out] at ho
                                                              have n0_ := Aside0.mk (Kd.R_after (ok := (fun _ => True)) (by (with_reducible repeat (first | apply Kd.R_alloc | apply Kd.R_drewN | apply Kd.R_drew)); exact HO_5.out) hg hat)
                                                              have n1_ := Aside0.mk (hb)
                                                              have n2_ := Aside0.mk ((show Kd.C (Kd.int .i64) w120 A118 y260.length y260 from by rw [Ny260.out, KA118.out]; exact Kd.C_drop (m := ((x26_6.length : Int) : Int).toNat) (c := co17) ((Kd.R_reads' (Kd.R_after (ok := (fun _ => True)) (by (with_reducible repeat (first | apply Kd.R_alloc | apply Kd.R_drewN | apply Kd.R_drew)); exact HO_5.out) hg hat)).2.2) KL118.out ((Kd.R_reads' (Kd.R_after (ok := (fun _ => True)) (by (with_reducible repeat (first | apply Kd.R_alloc | apply Kd.R_drewN | apply Kd.R_drew)); exact HO_5.out) hg hat)).2.1)))
                                                              have n3_ := Aside0.mk (ho)
                                                              clear HO_5
                                                              clear HB
                                                              clear HR263
                                                              clear HO259
                                                              have HO_5 := n0_
                                                              have HB := n1_
                                                              have HR263 := n2_
                                                              have HO266 := n3_
                                                              clear n0_ n1_ n2_ n3_
                                                              clear ho hb hg hat
                                                              refine hK.out _ _ trivial (fun hHeld => ?_)
                                                              clear hK K
                                                              refine norm_ (a' := ?_) ?_ ?_
                                                              rotate_left
                                                              · show Act.put _ (some 209) _ = _
                                                                simp only [Act.put, List.setIfInBounds_toArray, List.set_cons_zero, List.set_cons_succ, i64_w, i32_w]
                                                                rfl
                                                              refine pure_ (i := 8) (N := some 26) (v := ?_) (a' := ?_) #[true, true, true, true, true, true, true, true, true] rfl rfl (any_of HT_.out (by kernel_rfl)) (fun _ _ _ h => h) (Or.inl ⟨by rfl, ?_⟩) ?_ ?_
                                                              rotate_left
                                                              · intro w'
                                                                go_simp
                                                                with_reducible rfl
                                                              rotate_left
                                                              · simp only [Act.put, List.setIfInBounds_toArray, List.set_cons_zero, List.set_cons_succ, i64_w, i32_w]
                                                                rfl
                                                              refine done_ (done_of HT_.out (by kernel_rfl)) ?_
                                                              obtain ⟨Ao121, co121, eo121⟩ := Kd.R_slice HO266.out
                                                              subst eo121
                                                              try go_wp2_with (first | ((with_reducible refine gate_callee (f := 18) rfl ?_); refine goesL_ (some 213) rfl rfl Try.func18 (by kernel_rfl) rfl #[.slice Ao121 y264.length co121, .int .i64 (wrap64 (1 + t226))] rfl (by (try simp only [List.map_toArray, List.map_cons, List.map_nil]); first | done | rfl | (simp only [List.length_drop, List.length_take]; rfl)) ?_; (with_reducible refine (impl_ReachOf.calls k6 _ _ y264 (wrap64 (1 + t226)) t267 t268 _ ?side1 ?side2 A67.out).mono ?_); (case side1 => repeat (first | exact (Kd.R_reads' HO266.out).2.2 | (with_reducible refine Kd.C_alloc ?_ _) | (with_reducible refine Kd.C_drewN ?_ _) | (with_reducible refine Kd.C_drew ?_))); (case side2 => exact (Kd.R_reads' HO266.out).2.1); rintro e w122 ⟨rfl, hb⟩; refine ⟨_, rfl, ?_⟩; have n0_ := Aside0.mk (Kd.R_below (by (with_reducible repeat (first | apply Kd.R_alloc | apply Kd.R_drewN | apply Kd.R_drew)); exact HO_5.out) hb); have n1_ := Aside0.mk (Kd.R_below (by (with_reducible repeat (first | apply Kd.R_alloc | apply Kd.R_drewN | apply Kd.R_drew)); exact HO266.out) hb); have n2_ := Aside0.mk (Kd.C_below (by repeat (first | (with_reducible exact HR263.out) | (with_reducible refine Kd.C_alloc ?_ _) | (with_reducible refine Kd.C_drewN ?_ _) | (with_reducible refine Kd.C_drew ?_) | exact HR263.out)) hb); have n3_ := Aside0.mk (below_step (by repeat (first | (with_reducible first | exact HB.out | apply below_alloc | apply pw_below_drewN | apply below_drew1) | exact HB.out)) hb); clear HO_5; clear HO266; clear HR263; clear HB; have HO_5 := n0_; have HO266 := n1_; have HR263 := n2_; have HB := n3_; clear n0_ n1_ n2_ n3_; (try clear hb); (try clear hb2); (try clear hk); (try clear hi)))
                                                              go_ret
                                                              exact ⟨by first | rfl | (simp [errW_none, errW_some] <;> rfl) | (simp [*, errW_none, errW_some] <;> rfl), by repeat (first | (with_reducible first | exact HB.out | apply below_alloc | apply pw_below_drewN | apply below_drew1) | exact HB.out)⟩
                                                          · rw [if_neg c66] at H
                                                            exact absurd H (by simp)
                                                        · rw [if_neg c65] at H
                                                          exact absurd H (by simp)
                                                      · rw [if_neg c64] at H
                                                        exact absurd H (by simp)
                                                    · rw [if_neg c63] at H
                                                      exact absurd H (by simp)
                                        · rw [if_neg c53] at H
                                          have c53b0 : decide (x25_5 ≤ 12) = false := decide_eq_false c53
                                          clear c53
                                          obtain rfl := Option.some.inj H
                                          go_wp2
                                          go_ret
                                          exact ⟨by first | rfl | (simp [errW_none, errW_some] <;> rfl) | (simp [*, errW_none, errW_some] <;> rfl), by repeat (first | (with_reducible first | exact HB.out | apply below_alloc | apply pw_below_drewN | apply below_drew1) | exact HB.out)⟩

/-- THE ONE PURE STATEMENT of laws_FnReach: yours. -/
def laws_FnReach.Pure : Prop := ∀ (l0 : List Int) (l1 : List Int), l0.length ≤ maxLen → l0.length * 1 ≤ 140737488351232 → (∀ x ∈ l0, (Lit.int .u8 x).wf = true) → l1.length ≤ maxLen → l1.length * 1 ≤ 140737488351232 → (∀ x ∈ l1, (Lit.int .u8 x).wf = true) → ∃ k, laws_FnReach.f k l0 l1 = some true
theorem laws_FnReach.walk (P : laws_FnReach.Pure) (a0 : Option Addr) (len0 cap0 : Nat) (z0 : List Int) (a1 : Option Addr) (len1 cap1 : Nat) (z1 : List Int) (w : World) (w0 : (a0 = none ∧ len0 = 0 ∧ cap0 = 0 ∧ z0 = []) ∨ ∃ x, a0 = some x ∧ len0 ≤ cap0 ∧ cap0 ≤ maxLen ∧ z0.length = cap0 ∧ (∀ i, i < z0.length → w.cell? (x.add i) = some (.int .u8 (z0.getD i 0))) ∧ ∀ n ∈ z0, (Lit.int .u8 n).wf = true) (y0 : len0 * 1 ≤ 140737488351232) (w1 : (a1 = none ∧ len1 = 0 ∧ cap1 = 0 ∧ z1 = []) ∨ ∃ x, a1 = some x ∧ len1 ≤ cap1 ∧ cap1 ≤ maxLen ∧ z1.length = cap1 ∧ (∀ i, i < z1.length → w.cell? (x.add i) = some (.int .u8 (z1.getD i 0))) ∧ ∀ n ∈ z1, (Lit.int .u8 n).wf = true) (y1 : len1 * 1 ≤ 140737488351232) :
    Calls Try.prog 4 #[.slice a0 len0 cap0, .slice a1 len1 cap1] w fun e w' => e = .returned (.bool true) ∧ Below w.heap.size w w' := by
  obtain ⟨l0, rfl, hr0, hm0, hw0, hc0⟩ := ReadsInt.ofRowC w0
  obtain ⟨l1, rfl, hr1, hm1, hw1, hc1⟩ := ReadsInt.ofRowC w1
  obtain ⟨k, h⟩ := P l0 l1 hm0 y0 hw0 hm1 y1 hw1
  refine (laws_FnReach.calls k _ _ l0 _ _ l1 true w (Kd.C_of_reads (d := (0 : Int)) (h1 := fun _ => rfl) hr0) hc0 (Kd.C_of_reads (d := (0 : Int)) (h1 := fun _ => rfl) hr1) hc1 h).mono ?_
  rintro e w' ⟨rfl, hd⟩
  exact ⟨rfl, hd⟩

end Go.Proofs.Ytlcnjpibfjhibaa.Q
