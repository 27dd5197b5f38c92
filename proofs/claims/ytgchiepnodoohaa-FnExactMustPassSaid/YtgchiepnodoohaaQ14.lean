-- By a program of this session (wip/pr.py) that turns the kit's printer.
import Derived.Test.YtgchiepnodoohaaHMust
import Derived.Test.YtgchiepnodoohaaHSMust
import Derived.Test.YtgchiepnodoohaaQ0
import Derived.Test.YtgchiepnodoohaaQ2
import Derived.Test.YtgchiepnodoohaaQ3
import Derived.Test.YtgchiepnodoohaaQ5
namespace Go.Proofs.Ytgchiepnodoohaa.Q
open Go.RowKit Go.Proofs.YtgchiepnodoohaaW.PrintWords Go.Proofs.YtgchiepnodoohaaW.PrintLast Go.Proofs.YtgchiepnodoohaaW.PrintMore
attribute [local go_sem] max2_int min2_int max_two min_two max_three min_three max_four min_four   -- for this text's walks alone
set_option linter.unusedVariables false
set_option linter.unusedSimpArgs false

/-! ### laws_FnExactMustPass: function 12 -/
mutual
def laws_FnExactMustPass.j0 : Nat → List Int → Int → List Int → Int → Bool → Int → Int → List (S120) → Int → Int → Int → Int → Int → Int → List (S82) → Option (Bool)
  | 0, _, _, _, _, _, _, _, _, _, _, _, _, _, _, _ => none
  | k + 1, x8, x9, x11, x12, x52, x476000, x476001, x476002, x477000, x477001, x478000, x478001, x498000, x498001, x498002 => if x52 = true then (some false) else ((laws_toNet.f k x476000 x476001 x476002).bind fun bt507 => ((laws_eqNet.f k x498000 x498001 x498002 bt507.1 bt507.2.1 bt507.2.2).bind fun t512 => (if t512 = true then ((laws_markNet.f k x498000 x498001 x498002 1).bind fun bt513 => (if bt513.1 < 0 then (laws_FnExactMustPass.j1 k x8 x9 x11 true x476000 x476001 x476002 x477000 x477001 x478000 x478001) else ((laws_eqInt64S.f k x11 x8).bind fun t515 => (if t515 = true then (laws_FnExactMustPass.j1 k x8 x9 x11 (x12 != x9) x476000 x476001 x476002 x477000 x477001 x478000 x478001) else (laws_FnExactMustPass.j1 k x8 x9 x11 true x476000 x476001 x476002 x477000 x477001 x478000 x478001))))) else (some false))))
def laws_FnExactMustPass.j1 : Nat → List Int → Int → List Int → Bool → Int → Int → List (S120) → Int → Int → Int → Int → Option (Bool)
  | 0, _, _, _, _, _, _, _, _, _, _, _ => none
  | k + 1, x8, x9, x11, x73, x476000, x476001, x476002, x477000, x477001, x478000, x478001 => if x73 = true then (some false) else ((laws_markInt64S.f k x11 1).bind fun bt516 => ((laws_heldInt64S.f k bt516.2 1).bind fun t518 => (if t518 < 0 then (some false) else (if t518 = bt516.1 then ((laws_toNet.f k x476000 x476001 x476002).bind fun bt519 => ((laws_toScan.f x477000 x477001).bind fun bt524 => ((laws_toScan.f x478000 x478001).bind fun bt526 => ((impl_MustPass.f bt519.1 bt519.2.1 bt519.2.2 bt524.1 bt524.2 bt526.1 bt526.2).bind fun bt528 => ((laws_eqInt64S.f k bt528.1 x8).bind fun t532 => (if t532 = true then (laws_FnExactMustPass.j2 k bt516.2 bt516.1 (bt528.2 != x9)) else (laws_FnExactMustPass.j2 k bt516.2 bt516.1 true))))))) else (some false)))))
def laws_FnExactMustPass.j2 : Nat → List Int → Int → Bool → Option (Bool)
  | 0, _, _, _ => none
  | k + 1, x11, x14, x103 => if x103 = true then (some false) else ((laws_heldInt64S.f k x11 1).bind fun t533 => (if t533 < 0 then (some false) else (if t533 = x14 then (some true) else (some false))))
end
def laws_FnExactMustPass.f (k : Nat) (a0_0 : Int) (a0_1 : Int) (l0_2 : List (S120)) (a1_0 : Int) (a1_1 : Int) (a2_0 : Int) (a2_1 : Int) : Option (Bool) := (laws_szNet.f a0_0 a0_1 l0_2 1048576).bind fun t478 => (if t478 < 0 then (some true) else ((laws_toNet.f k a0_0 a0_1 l0_2).bind fun bt479 => ((laws_toScan.f a1_0 a1_1).bind fun bt484 => ((laws_toScan.f a2_0 a2_1).bind fun bt486 => ((spec_MustPass.f bt479.1 bt479.2.1 bt479.2.2 bt484.1 bt484.2 bt486.1 bt486.2).bind fun bt488 => ((laws_toNet.f k a0_0 a0_1 l0_2).bind fun bt492 => ((laws_toScan.f a1_0 a1_1).bind fun bt498 => ((laws_toScan.f a2_0 a2_1).bind fun bt500 => ((impl_MustPass.f bt492.1 bt492.2.1 bt492.2.2 bt498.1 bt498.2 bt500.1 bt500.2).bind fun bt502 => ((laws_eqInt64S.f k bt502.1 bt488.1).bind fun t506 => (if t506 = true then (laws_FnExactMustPass.j0 k bt488.1 bt488.2 bt502.1 bt502.2 (bt502.2 != bt488.2) a0_0 a0_1 l0_2 a1_0 a1_1 a2_0 a2_1 bt492.1 bt492.2.1 bt492.2.2) else (laws_FnExactMustPass.j0 k bt488.1 bt488.2 bt502.1 bt502.2 true a0_0 a0_1 l0_2 a1_0 a1_1 a2_0 a2_1 bt492.1 bt492.2.1 bt492.2.2))))))))))))
theorem laws_FnExactMustPass.mono_l : ∀ k, (∀ y0 y1 y2 y3 y4 y5 y6 y7 y8 y9 y10 y11 y12 y13 y14, LeO (laws_FnExactMustPass.j0 k y0 y1 y2 y3 y4 y5 y6 y7 y8 y9 y10 y11 y12 y13 y14) (laws_FnExactMustPass.j0 (k + 1) y0 y1 y2 y3 y4 y5 y6 y7 y8 y9 y10 y11 y12 y13 y14)) ∧ (∀ y0 y1 y2 y3 y4 y5 y6 y7 y8 y9 y10, LeO (laws_FnExactMustPass.j1 k y0 y1 y2 y3 y4 y5 y6 y7 y8 y9 y10) (laws_FnExactMustPass.j1 (k + 1) y0 y1 y2 y3 y4 y5 y6 y7 y8 y9 y10)) ∧ (∀ y0 y1 y2, LeO (laws_FnExactMustPass.j2 k y0 y1 y2) (laws_FnExactMustPass.j2 (k + 1) y0 y1 y2))
  | 0 => ⟨fun _ _ _ _ _ _ _ _ _ _ _ _ _ _ _ r h => by simp [laws_FnExactMustPass.j0] at h, fun _ _ _ _ _ _ _ _ _ _ _ r h => by simp [laws_FnExactMustPass.j1] at h, fun _ _ _ r h => by simp [laws_FnExactMustPass.j2] at h⟩
  | k + 1 => by
    obtain ⟨ih0, ih1, ih2⟩ := laws_FnExactMustPass.mono_l k
    refine ⟨?_, ?_, ?_⟩
    · intro y0 y1 y2 y3 y4 y5 y6 y7 y8 y9 y10 y11 y12 y13 y14
      unfold laws_FnExactMustPass.j0
      repeat' first
      | (with_reducible exact ih0 _ _ _ _ _ _ _ _ _ _ _ _ _ _ _)
      | (with_reducible exact ih1 _ _ _ _ _ _ _ _ _ _ _)
      | (with_reducible exact ih2 _ _ _)
      | (with_reducible exact laws_eqInt64S.mono _ _ _)
      | (with_reducible exact laws_eqNet.mono _ _ _ _ _ _ _)
      | (with_reducible exact laws_heldInt64S.mono _ _ _)
      | (with_reducible exact laws_markInt64S.mono _ _ _)
      | (with_reducible exact laws_markNet.mono _ _ _ _ _)
      | (with_reducible exact laws_toNet.mono _ _ _ _)
      | (with_reducible exact LeO.refl _)
      | (with_reducible exact LeO.none _)
      | (with_reducible refine LeO.ite ?_ ?_)
      | (with_reducible refine LeO.bind ?_ (fun _ => ?_))
      | exact ih0 _ _ _ _ _ _ _ _ _ _ _ _ _ _ _
      | exact ih1 _ _ _ _ _ _ _ _ _ _ _
      | exact ih2 _ _ _
      | exact laws_eqInt64S.mono _ _ _
      | exact laws_eqNet.mono _ _ _ _ _ _ _
      | exact laws_heldInt64S.mono _ _ _
      | exact laws_markInt64S.mono _ _ _
      | exact laws_markNet.mono _ _ _ _ _
      | exact laws_toNet.mono _ _ _ _
      | exact LeO.none _
      | refine LeO.ite ?_ ?_
      | refine LeO.bind ?_ (fun _ => ?_)
    · intro y0 y1 y2 y3 y4 y5 y6 y7 y8 y9 y10
      unfold laws_FnExactMustPass.j1
      repeat' first
      | (with_reducible exact ih0 _ _ _ _ _ _ _ _ _ _ _ _ _ _ _)
      | (with_reducible exact ih1 _ _ _ _ _ _ _ _ _ _ _)
      | (with_reducible exact ih2 _ _ _)
      | (with_reducible exact laws_eqInt64S.mono _ _ _)
      | (with_reducible exact laws_eqNet.mono _ _ _ _ _ _ _)
      | (with_reducible exact laws_heldInt64S.mono _ _ _)
      | (with_reducible exact laws_markInt64S.mono _ _ _)
      | (with_reducible exact laws_markNet.mono _ _ _ _ _)
      | (with_reducible exact laws_toNet.mono _ _ _ _)
      | (with_reducible exact LeO.refl _)
      | (with_reducible exact LeO.none _)
      | (with_reducible refine LeO.ite ?_ ?_)
      | (with_reducible refine LeO.bind ?_ (fun _ => ?_))
      | exact ih0 _ _ _ _ _ _ _ _ _ _ _ _ _ _ _
      | exact ih1 _ _ _ _ _ _ _ _ _ _ _
      | exact ih2 _ _ _
      | exact laws_eqInt64S.mono _ _ _
      | exact laws_eqNet.mono _ _ _ _ _ _ _
      | exact laws_heldInt64S.mono _ _ _
      | exact laws_markInt64S.mono _ _ _
      | exact laws_markNet.mono _ _ _ _ _
      | exact laws_toNet.mono _ _ _ _
      | exact LeO.none _
      | refine LeO.ite ?_ ?_
      | refine LeO.bind ?_ (fun _ => ?_)
    · intro y0 y1 y2
      unfold laws_FnExactMustPass.j2
      repeat' first
      | (with_reducible exact ih0 _ _ _ _ _ _ _ _ _ _ _ _ _ _ _)
      | (with_reducible exact ih1 _ _ _ _ _ _ _ _ _ _ _)
      | (with_reducible exact ih2 _ _ _)
      | (with_reducible exact laws_eqInt64S.mono _ _ _)
      | (with_reducible exact laws_eqNet.mono _ _ _ _ _ _ _)
      | (with_reducible exact laws_heldInt64S.mono _ _ _)
      | (with_reducible exact laws_markInt64S.mono _ _ _)
      | (with_reducible exact laws_markNet.mono _ _ _ _ _)
      | (with_reducible exact laws_toNet.mono _ _ _ _)
      | (with_reducible exact LeO.refl _)
      | (with_reducible exact LeO.none _)
      | (with_reducible refine LeO.ite ?_ ?_)
      | (with_reducible refine LeO.bind ?_ (fun _ => ?_))
      | exact ih0 _ _ _ _ _ _ _ _ _ _ _ _ _ _ _
      | exact ih1 _ _ _ _ _ _ _ _ _ _ _
      | exact ih2 _ _ _
      | exact laws_eqInt64S.mono _ _ _
      | exact laws_eqNet.mono _ _ _ _ _ _ _
      | exact laws_heldInt64S.mono _ _ _
      | exact laws_markInt64S.mono _ _ _
      | exact laws_markNet.mono _ _ _ _ _
      | exact laws_toNet.mono _ _ _ _
      | exact LeO.none _
      | refine LeO.ite ?_ ?_
      | refine LeO.bind ?_ (fun _ => ?_)
theorem laws_FnExactMustPass.mono : ∀ a0 a1 a2 a3 a4 a5 a6 k, LeO (laws_FnExactMustPass.f k a0 a1 a2 a3 a4 a5 a6) (laws_FnExactMustPass.f (k + 1) a0 a1 a2 a3 a4 a5 a6) := by
  intro a0 a1 a2 a3 a4 a5 a6 k
  obtain ⟨ih0, ih1, ih2⟩ := laws_FnExactMustPass.mono_l k
  unfold laws_FnExactMustPass.f
  repeat' first
      | (with_reducible exact ih0 _ _ _ _ _ _ _ _ _ _ _ _ _ _ _)
      | (with_reducible exact ih1 _ _ _ _ _ _ _ _ _ _ _)
      | (with_reducible exact ih2 _ _ _)
      | (with_reducible exact laws_eqInt64S.mono _ _ _)
      | (with_reducible exact laws_eqNet.mono _ _ _ _ _ _ _)
      | (with_reducible exact laws_heldInt64S.mono _ _ _)
      | (with_reducible exact laws_markInt64S.mono _ _ _)
      | (with_reducible exact laws_markNet.mono _ _ _ _ _)
      | (with_reducible exact laws_toNet.mono _ _ _ _)
      | (with_reducible exact LeO.refl _)
      | (with_reducible exact LeO.none _)
      | (with_reducible refine LeO.ite ?_ ?_)
      | (with_reducible refine LeO.bind ?_ (fun _ => ?_))
      | exact ih0 _ _ _ _ _ _ _ _ _ _ _ _ _ _ _
      | exact ih1 _ _ _ _ _ _ _ _ _ _ _
      | exact ih2 _ _ _
      | exact laws_eqInt64S.mono _ _ _
      | exact laws_eqNet.mono _ _ _ _ _ _ _
      | exact laws_heldInt64S.mono _ _ _
      | exact laws_markInt64S.mono _ _ _
      | exact laws_markNet.mono _ _ _ _ _
      | exact laws_toNet.mono _ _ _ _
      | exact LeO.none _
      | refine LeO.ite ?_ ?_
      | refine LeO.bind ?_ (fun _ => ?_)
def laws_FnExactMustPass.T5 : Bool × List (List Nat × List Nat) := (true, [([], []), ([0], [0]), ([], []), ([2, 1], [2]), ([], []), ([4, 3], [4]), ([1, 3, 5, 5], [1, 3, 5]), ([6], [6]), ([7], [7]), ([7], [7]), ([8, 6, 0, 1, 2, 3, 4, 5, 6, 7, 8], [8]), ([9, 10, 0, 1, 2, 3, 4, 5, 6, 7, 8, 9, 10], [9])])
def laws_FnExactMustPass.B5 : List Nat := [0, 1, 0, 7, 0, 31, 63, 127, 255, 255, 511, 2047]
theorem laws_FnExactMustPass.tab5 : rtab .any (opsOf Try.f12 5) = laws_FnExactMustPass.T5 := by kernel_rfl
theorem laws_FnExactMustPass.bits5 : waitsOk laws_FnExactMustPass.T5.2 laws_FnExactMustPass.B5 = true := by kernel_rfl
def laws_FnExactMustPass.T7 : Bool × List (List Nat × List Nat) := (true, [([], []), ([], []), ([1], [1]), ([], []), ([3, 2], [3]), ([0, 2, 4, 4], [0, 2, 4]), ([5], [5]), ([6], [6]), ([6], [6]), ([7, 5, 0, 1, 2, 3, 4, 5, 6, 7], [7]), ([8, 9, 0, 1, 2, 3, 4, 5, 6, 7, 8, 9], [8])])
def laws_FnExactMustPass.B7 : List Nat := [0, 0, 2, 0, 14, 31, 63, 127, 127, 255, 1023]
theorem laws_FnExactMustPass.tab7 : rtab .any (opsOf Try.f12 7) = laws_FnExactMustPass.T7 := by kernel_rfl
theorem laws_FnExactMustPass.bits7 : waitsOk laws_FnExactMustPass.T7.2 laws_FnExactMustPass.B7 = true := by kernel_rfl
def laws_FnExactMustPass.T24 : Bool × List (List Nat × List Nat) := (true, [([], []), ([0], [0]), ([], []), ([2, 1], [2]), ([], []), ([4, 3], [4]), ([1, 3, 5, 5], [1, 3, 5]), ([6], [6]), ([7], [7]), ([7], [7]), ([8, 6, 0, 1, 2, 3, 4, 5, 6, 7, 8], [8]), ([9, 10, 0, 1, 2, 3, 4, 5, 6, 7, 8, 9, 10], [9])])
def laws_FnExactMustPass.B24 : List Nat := [0, 1, 0, 7, 0, 31, 63, 127, 255, 255, 511, 2047]
theorem laws_FnExactMustPass.tab24 : rtab .any (opsOf Try.f12 24) = laws_FnExactMustPass.T24 := by kernel_rfl
theorem laws_FnExactMustPass.bits24 : waitsOk laws_FnExactMustPass.T24.2 laws_FnExactMustPass.B24 = true := by kernel_rfl
set_option maxHeartbeats 8000000 in
set_option maxRecDepth 100000 in
theorem laws_FnExactMustPass.calls (k : Nat) (a0_0 : Int) (a0_1 : Int) (A0_2 : Option Addr) (c0_2 : Nat) (l0_2 : List (S120)) (a1_0 : Int) (a1_1 : Int) (a2_0 : Int) (a2_1 : Int) (r : Bool) (w : World) (hr0_2 : Kd.C k120 w A0_2 l0_2.length l0_2) (hc0_2 : l0_2.length ≤ c0_2) (h : laws_FnExactMustPass.f k a0_0 a0_1 l0_2 a1_0 a1_1 a2_0 a2_1 = some r) :
    Calls Try.prog 12 #[.agg #[.int .i8 a0_0, .int .i16 a0_1, .slice A0_2 l0_2.length c0_2], .agg #[.int .i8 a1_0, .int .i16 a1_1], .agg #[.int .i8 a2_0, .int .i16 a2_1]] w fun e w' => e = .returned (.bool r) ∧ Below w.heap.size w w' := by
  have hu26 := Try.underlying26
  have hu44 := Try.underlying44
  have hu31 := Try.underlying31
  have HR0_2 := Aside0.mk hr0_2
  have HC0_2 := Aside0.mk hc0_2
  clear hr0_2 hc0_2
  have HB := Aside0.mk (Below.refl w.heap.size w)
  have H : ((laws_szNet.f a0_0 a0_1 l0_2 1048576).bind fun t478 => (if t478 < 0 then (some true) else ((laws_toNet.f k a0_0 a0_1 l0_2).bind fun bt479 => ((laws_toScan.f a1_0 a1_1).bind fun bt484 => ((laws_toScan.f a2_0 a2_1).bind fun bt486 => ((spec_MustPass.f bt479.1 bt479.2.1 bt479.2.2 bt484.1 bt484.2 bt486.1 bt486.2).bind fun bt488 => ((laws_toNet.f k a0_0 a0_1 l0_2).bind fun bt492 => ((laws_toScan.f a1_0 a1_1).bind fun bt498 => ((laws_toScan.f a2_0 a2_1).bind fun bt500 => ((impl_MustPass.f bt492.1 bt492.2.1 bt492.2.2 bt498.1 bt498.2 bt500.1 bt500.2).bind fun bt502 => ((laws_eqInt64S.f k bt502.1 bt488.1).bind fun t506 => (if t506 = true then (laws_FnExactMustPass.j0 k bt488.1 bt488.2 bt502.1 bt502.2 (bt502.2 != bt488.2) a0_0 a0_1 l0_2 a1_0 a1_1 a2_0 a2_1 bt492.1 bt492.2.1 bt492.2.2) else (laws_FnExactMustPass.j0 k bt488.1 bt488.2 bt502.1 bt502.2 true a0_0 a0_1 l0_2 a1_0 a1_1 a2_0 a2_1 bt492.1 bt492.2.1 bt492.2.2))))))))))))) = some r := h
  clear h
  replace H := Option.bind_eq_some_iff.mp H
  obtain ⟨t478, A40, H⟩ := H
  replace H : (if t478 < 0 then (some true) else ((laws_toNet.f k a0_0 a0_1 l0_2).bind fun bt479 => ((laws_toScan.f a1_0 a1_1).bind fun bt484 => ((laws_toScan.f a2_0 a2_1).bind fun bt486 => ((spec_MustPass.f bt479.1 bt479.2.1 bt479.2.2 bt484.1 bt484.2 bt486.1 bt486.2).bind fun bt488 => ((laws_toNet.f k a0_0 a0_1 l0_2).bind fun bt492 => ((laws_toScan.f a1_0 a1_1).bind fun bt498 => ((laws_toScan.f a2_0 a2_1).bind fun bt500 => ((impl_MustPass.f bt492.1 bt492.2.1 bt492.2.2 bt498.1 bt498.2 bt500.1 bt500.2).bind fun bt502 => ((laws_eqInt64S.f k bt502.1 bt488.1).bind fun t506 => (if t506 = true then (laws_FnExactMustPass.j0 k bt488.1 bt488.2 bt502.1 bt502.2 (bt502.2 != bt488.2) a0_0 a0_1 l0_2 a1_0 a1_1 a2_0 a2_1 bt492.1 bt492.2.1 bt492.2.2) else (laws_FnExactMustPass.j0 k bt488.1 bt488.2 bt502.1 bt502.2 true a0_0 a0_1 l0_2 a1_0 a1_1 a2_0 a2_1 bt492.1 bt492.2.1 bt492.2.2)))))))))))) = some r := H
  have A4 := Aside0.mk A40
  clear A40
  by_cases c5 : t478 < 0
  · rw [if_pos c5] at H
    have c5b0 : decide (t478 < 0) = true := decide_eq_true c5
    clear c5
    obtain rfl := Option.some.inj H
    go_enter Try.func12, Try.ntmps12
    go_wp2_with (first | ((with_reducible refine gate_dst (N := 3) rfl ?_); refine box_event ?hg (N := 3) ?hd (cs := #[.int .i8 a0_0, .int .i16 a0_1, .slice A0_2 l0_2.length c0_2]) (t := 26) ?hr ?_; (case hd => rfl); (case hg => rfl); (case hr => first | (go_simp; done) | (go_simp; rfl)); intro gb475 hg w6 hbox hb; have n0_ := Aside0.mk (below_step (by repeat (first | (with_reducible first | exact HB.out | apply below_alloc | apply pw_below_drewN | apply below_drew1) | exact HB.out)) hb); have n1_ := Aside0.mk (hbox); have n2_ := Aside0.mk ((by rw [hg]; exact (below_size (by repeat (first | (with_reducible first | exact HB.out | apply below_alloc | apply pw_below_drewN | apply below_drew1) | exact HB.out))) : w.heap.size ≤ gb475)); have n3_ := Aside0.mk ((by rw [hg]; exact (below_size (by repeat (first | (with_reducible first | exact HB.out | apply below_alloc | apply pw_below_drewN | apply below_drew1) | exact HB.out))) : w.heap.size ≤ gb475)); clear HB; have HB := n0_; have BK475 := n1_; have GW475 := n2_; have GE475 := n3_; clear n0_ n1_ n2_ n3_; clear hb hbox hg) | ((with_reducible refine gate_dst (N := 4) rfl ?_); refine box_event ?hg (N := 4) ?hd (cs := #[.int .i8 a1_0, .int .i16 a1_1]) (t := 44) ?hr ?_; (case hd => rfl); (case hg => rfl); (case hr => first | (go_simp; done) | (go_simp; rfl)); intro gb476 hg w7 hbox hb; have n0_ := Aside0.mk (blk_below (g := gb475) (o := .cells #[.int .i8 a0_0, .int .i16 a0_1, .slice A0_2 l0_2.length c0_2] 26 (0, 0)) (by (with_reducible repeat (first | refine blk_drewN ?_ _ | refine blk_drew ?_ | refine blk_alloc ?_ _)); exact BK475.out) hb); have n1_ := Aside0.mk (below_step (by repeat (first | (with_reducible first | exact HB.out | apply below_alloc | apply pw_below_drewN | apply below_drew1 | refine below_set ?_ GE475.out) | exact HB.out)) hb); have n2_ := Aside0.mk (hbox); have n3_ := Aside0.mk ((by rw [hg]; exact (below_size (by repeat (first | (with_reducible first | exact HB.out | apply below_alloc | apply pw_below_drewN | apply below_drew1 | refine below_set ?_ GE475.out) | exact HB.out))) : w.heap.size ≤ gb476)); have n4_ := Aside0.mk ((by rw [hg]; exact (below_size (by repeat (first | (with_reducible first | exact HB.out | apply below_alloc | apply pw_below_drewN | apply below_drew1 | refine below_set ?_ GE475.out) | exact HB.out))) : w.heap.size ≤ gb476)); have n5_ := Aside0.mk ((by rw [hg]; exact Nat.ne_of_lt (blk_lt (g := gb475) (o := .cells #[.int .i8 a0_0, .int .i16 a0_1, .slice A0_2 l0_2.length c0_2] 26 (0, 0)) (by (with_reducible repeat (first | refine blk_drewN ?_ _ | refine blk_drew ?_ | refine blk_alloc ?_ _)); exact BK475.out)) : gb475 ≠ gb476)); have n6_ := Aside0.mk ((by rw [hg]; exact Nat.ne_of_gt (blk_lt (g := gb475) (o := .cells #[.int .i8 a0_0, .int .i16 a0_1, .slice A0_2 l0_2.length c0_2] 26 (0, 0)) (by (with_reducible repeat (first | refine blk_drewN ?_ _ | refine blk_drew ?_ | refine blk_alloc ?_ _)); exact BK475.out)) : gb476 ≠ gb475)); clear BK475; clear HB; have BK475 := n0_; have HB := n1_; have BK476 := n2_; have GW476 := n3_; have GE476 := n4_; have NB475_476 := n5_; have NB476_475 := n6_; clear n0_ n1_ n2_ n3_ n4_ n5_ n6_; clear hb hbox hg) | ((with_reducible refine gate_dst (N := 5) rfl ?_); refine box_event ?hg (N := 5) ?hd (cs := #[.int .i8 a2_0, .int .i16 a2_1]) (t := 44) ?hr ?_; (case hd => rfl); (case hg => rfl); (case hr => first | (go_simp; done) | (go_simp; rfl)); intro gb477 hg w8 hbox hb; have n0_ := Aside0.mk (blk_below (g := gb475) (o := .cells #[.int .i8 a0_0, .int .i16 a0_1, .slice A0_2 l0_2.length c0_2] 26 (0, 0)) (by (with_reducible repeat (first | refine blk_drewN ?_ _ | refine blk_drew ?_ | refine blk_alloc ?_ _)); exact BK475.out) hb); have n1_ := Aside0.mk (blk_below (g := gb476) (o := .cells #[.int .i8 a1_0, .int .i16 a1_1] 44 (0, 0)) (by (with_reducible repeat (first | refine blk_drewN ?_ _ | refine blk_drew ?_ | refine blk_alloc ?_ _)); exact BK476.out) hb); have n2_ := Aside0.mk (below_step (by repeat (first | (with_reducible first | exact HB.out | apply below_alloc | apply pw_below_drewN | apply below_drew1 | refine below_set ?_ GE475.out | refine below_set ?_ GE476.out) | exact HB.out)) hb); have n3_ := Aside0.mk (hbox); have n4_ := Aside0.mk ((by rw [hg]; exact (below_size (by repeat (first | (with_reducible first | exact HB.out | apply below_alloc | apply pw_below_drewN | apply below_drew1 | refine below_set ?_ GE475.out | refine below_set ?_ GE476.out) | exact HB.out))) : w.heap.size ≤ gb477)); have n5_ := Aside0.mk ((by rw [hg]; exact (below_size (by repeat (first | (with_reducible first | exact HB.out | apply below_alloc | apply pw_below_drewN | apply below_drew1 | refine below_set ?_ GE475.out | refine below_set ?_ GE476.out) | exact HB.out))) : w.heap.size ≤ gb477)); have n6_ := Aside0.mk ((by rw [hg]; exact Nat.ne_of_lt (blk_lt (g := gb475) (o := .cells #[.int .i8 a0_0, .int .i16 a0_1, .slice A0_2 l0_2.length c0_2] 26 (0, 0)) (by (with_reducible repeat (first | refine blk_drewN ?_ _ | refine blk_drew ?_ | refine blk_alloc ?_ _)); exact BK475.out)) : gb475 ≠ gb477)); have n7_ := Aside0.mk ((by rw [hg]; exact Nat.ne_of_gt (blk_lt (g := gb475) (o := .cells #[.int .i8 a0_0, .int .i16 a0_1, .slice A0_2 l0_2.length c0_2] 26 (0, 0)) (by (with_reducible repeat (first | refine blk_drewN ?_ _ | refine blk_drew ?_ | refine blk_alloc ?_ _)); exact BK475.out)) : gb477 ≠ gb475)); have n8_ := Aside0.mk ((by rw [hg]; exact Nat.ne_of_lt (blk_lt (g := gb476) (o := .cells #[.int .i8 a1_0, .int .i16 a1_1] 44 (0, 0)) (by (with_reducible repeat (first | refine blk_drewN ?_ _ | refine blk_drew ?_ | refine blk_alloc ?_ _)); exact BK476.out)) : gb476 ≠ gb477)); have n9_ := Aside0.mk ((by rw [hg]; exact Nat.ne_of_gt (blk_lt (g := gb476) (o := .cells #[.int .i8 a1_0, .int .i16 a1_1] 44 (0, 0)) (by (with_reducible repeat (first | refine blk_drewN ?_ _ | refine blk_drew ?_ | refine blk_alloc ?_ _)); exact BK476.out)) : gb477 ≠ gb476)); clear BK475; clear BK476; clear HB; have BK475 := n0_; have BK476 := n1_; have HB := n2_; have BK477 := n3_; have GW477 := n4_; have GE477 := n5_; have NB475_477 := n6_; have NB477_475 := n7_; have NB476_477 := n8_; have NB477_476 := n9_; clear n0_ n1_ n2_ n3_ n4_ n5_ n6_ n7_ n8_ n9_; clear hb hbox hg; have hnb9 := NB475_476.out; have hnc9 := NB476_475.out; have hnb10 := NB475_477.out; have hnc10 := NB477_475.out; have hcz11_0 : w8.cell? ⟨gb475, 0, none⟩ = some (.int .i8 a0_0) := (blk_cell BK475.out 0).trans rfl; have hcz11_1 : w8.cell? ⟨gb475, 1, none⟩ = some (.int .i16 a0_1) := (blk_cell BK475.out 1).trans rfl; have hcz11_2 : w8.cell? ⟨gb475, 2, none⟩ = some (.slice A0_2 l0_2.length c0_2) := (blk_cell BK475.out 2).trans rfl; have hfz11_0 := blk_frozen BK475.out 0; have hfz11_1 := blk_frozen BK475.out 1; have hfz11_2 := blk_frozen BK475.out 2) | ((with_reducible refine gate_callee (f := 15) rfl ?_); refine goesL_ (some 20) rfl rfl Try.func15 (by kernel_rfl) rfl #[.agg #[.int .i8 a0_0, .int .i16 a0_1, .slice A0_2 l0_2.length c0_2], .int .i64 1048576] rfl (by (try simp only [List.map_toArray, List.map_cons, List.map_nil]); first | done | rfl | (simp only [List.length_drop, List.length_take]; rfl)) ?_; (with_reducible refine (laws_szNet.calls a0_0 a0_1 _ _ l0_2 1048576 t478 _ ?side1 ?side2 A4.out).mono ?_); (case side1 => repeat (first | exact (Kd.C_below HR0_2.out HB.out) | (with_reducible refine Kd.C_alloc ?_ _) | (with_reducible refine Kd.C_drewN ?_ _) | (with_reducible refine Kd.C_drew ?_))); (case side2 => exact HC0_2.out); rintro e w12 ⟨rfl, hb⟩; refine ⟨_, rfl, ?_⟩; have n0_ := Aside0.mk (blk_below (g := gb475) (o := .cells #[.int .i8 a0_0, .int .i16 a0_1, .slice A0_2 l0_2.length c0_2] 26 (0, 0)) (by (with_reducible repeat (first | refine blk_drewN ?_ _ | refine blk_drew ?_ | refine blk_alloc ?_ _)); exact BK475.out) hb); have n1_ := Aside0.mk (blk_below (g := gb476) (o := .cells #[.int .i8 a1_0, .int .i16 a1_1] 44 (0, 0)) (by (with_reducible repeat (first | refine blk_drewN ?_ _ | refine blk_drew ?_ | refine blk_alloc ?_ _)); exact BK476.out) hb); have n2_ := Aside0.mk (blk_below (g := gb477) (o := .cells #[.int .i8 a2_0, .int .i16 a2_1] 44 (0, 0)) (by (with_reducible repeat (first | refine blk_drewN ?_ _ | refine blk_drew ?_ | refine blk_alloc ?_ _)); exact BK477.out) hb); have n3_ := Aside0.mk (below_step (by repeat (first | (with_reducible first | exact HB.out | apply below_alloc | apply pw_below_drewN | apply below_drew1 | refine below_set ?_ GE475.out | refine below_set ?_ GE476.out | refine below_set ?_ GE477.out) | exact HB.out)) hb); clear BK475; clear BK476; clear BK477; clear HB; have BK475 := n0_; have BK476 := n1_; have BK477 := n2_; have HB := n3_; clear n0_ n1_ n2_ n3_; (try clear hb); (try clear hb2); (try clear hk); (try clear hi)))
    go_ret
    exact ⟨by first | rfl | (simp [errW_none, errW_some] <;> rfl) | (simp [*, errW_none, errW_some] <;> rfl), by repeat (first | (with_reducible first | exact HB.out | apply below_alloc | apply pw_below_drewN | apply below_drew1 | refine below_set ?_ GE475.out | refine below_set ?_ GE476.out | refine below_set ?_ GE477.out) | exact HB.out)⟩
  · rw [if_neg c5] at H
    have c5b0 : decide (t478 < 0) = false := decide_eq_false c5
    clear c5
    replace H := Option.bind_eq_some_iff.mp H
    obtain ⟨⟨t479, t480, t481⟩, A130, H⟩ := H
    replace H : ((laws_toScan.f a1_0 a1_1).bind fun bt484 => ((laws_toScan.f a2_0 a2_1).bind fun bt486 => ((spec_MustPass.f t479 t480 t481 bt484.1 bt484.2 bt486.1 bt486.2).bind fun bt488 => ((laws_toNet.f k a0_0 a0_1 l0_2).bind fun bt492 => ((laws_toScan.f a1_0 a1_1).bind fun bt498 => ((laws_toScan.f a2_0 a2_1).bind fun bt500 => ((impl_MustPass.f bt492.1 bt492.2.1 bt492.2.2 bt498.1 bt498.2 bt500.1 bt500.2).bind fun bt502 => ((laws_eqInt64S.f k bt502.1 bt488.1).bind fun t506 => (if t506 = true then (laws_FnExactMustPass.j0 k bt488.1 bt488.2 bt502.1 bt502.2 (bt502.2 != bt488.2) a0_0 a0_1 l0_2 a1_0 a1_1 a2_0 a2_1 bt492.1 bt492.2.1 bt492.2.2) else (laws_FnExactMustPass.j0 k bt488.1 bt488.2 bt502.1 bt502.2 true a0_0 a0_1 l0_2 a1_0 a1_1 a2_0 a2_1 bt492.1 bt492.2.1 bt492.2.2)))))))))) = some r := H
    have A13 := Aside0.mk A130
    clear A130
    replace H := Option.bind_eq_some_iff.mp H
    obtain ⟨⟨t484, t485⟩, A140, H⟩ := H
    replace H : ((laws_toScan.f a2_0 a2_1).bind fun bt486 => ((spec_MustPass.f t479 t480 t481 t484 t485 bt486.1 bt486.2).bind fun bt488 => ((laws_toNet.f k a0_0 a0_1 l0_2).bind fun bt492 => ((laws_toScan.f a1_0 a1_1).bind fun bt498 => ((laws_toScan.f a2_0 a2_1).bind fun bt500 => ((impl_MustPass.f bt492.1 bt492.2.1 bt492.2.2 bt498.1 bt498.2 bt500.1 bt500.2).bind fun bt502 => ((laws_eqInt64S.f k bt502.1 bt488.1).bind fun t506 => (if t506 = true then (laws_FnExactMustPass.j0 k bt488.1 bt488.2 bt502.1 bt502.2 (bt502.2 != bt488.2) a0_0 a0_1 l0_2 a1_0 a1_1 a2_0 a2_1 bt492.1 bt492.2.1 bt492.2.2) else (laws_FnExactMustPass.j0 k bt488.1 bt488.2 bt502.1 bt502.2 true a0_0 a0_1 l0_2 a1_0 a1_1 a2_0 a2_1 bt492.1 bt492.2.1 bt492.2.2))))))))) = some r := H
    have A14 := Aside0.mk A140
    clear A140
    replace H := Option.bind_eq_some_iff.mp H
    obtain ⟨⟨t486, t487⟩, A150, H⟩ := H
    replace H : ((spec_MustPass.f t479 t480 t481 t484 t485 t486 t487).bind fun bt488 => ((laws_toNet.f k a0_0 a0_1 l0_2).bind fun bt492 => ((laws_toScan.f a1_0 a1_1).bind fun bt498 => ((laws_toScan.f a2_0 a2_1).bind fun bt500 => ((impl_MustPass.f bt492.1 bt492.2.1 bt492.2.2 bt498.1 bt498.2 bt500.1 bt500.2).bind fun bt502 => ((laws_eqInt64S.f k bt502.1 bt488.1).bind fun t506 => (if t506 = true then (laws_FnExactMustPass.j0 k bt488.1 bt488.2 bt502.1 bt502.2 (bt502.2 != bt488.2) a0_0 a0_1 l0_2 a1_0 a1_1 a2_0 a2_1 bt492.1 bt492.2.1 bt492.2.2) else (laws_FnExactMustPass.j0 k bt488.1 bt488.2 bt502.1 bt502.2 true a0_0 a0_1 l0_2 a1_0 a1_1 a2_0 a2_1 bt492.1 bt492.2.1 bt492.2.2)))))))) = some r := H
    have A15 := Aside0.mk A150
    clear A150
    replace H := Option.bind_eq_some_iff.mp H
    obtain ⟨⟨t488, t491⟩, A160, H⟩ := H
    replace H : ((laws_toNet.f k a0_0 a0_1 l0_2).bind fun bt492 => ((laws_toScan.f a1_0 a1_1).bind fun bt498 => ((laws_toScan.f a2_0 a2_1).bind fun bt500 => ((impl_MustPass.f bt492.1 bt492.2.1 bt492.2.2 bt498.1 bt498.2 bt500.1 bt500.2).bind fun bt502 => ((laws_eqInt64S.f k bt502.1 t488).bind fun t506 => (if t506 = true then (laws_FnExactMustPass.j0 k t488 t491 bt502.1 bt502.2 (bt502.2 != t491) a0_0 a0_1 l0_2 a1_0 a1_1 a2_0 a2_1 bt492.1 bt492.2.1 bt492.2.2) else (laws_FnExactMustPass.j0 k t488 t491 bt502.1 bt502.2 true a0_0 a0_1 l0_2 a1_0 a1_1 a2_0 a2_1 bt492.1 bt492.2.1 bt492.2.2))))))) = some r := H
    have A16 := Aside0.mk A160
    clear A160
    replace H := Option.bind_eq_some_iff.mp H
    obtain ⟨⟨t492, t493, t494⟩, A170, H⟩ := H
    replace H : ((laws_toScan.f a1_0 a1_1).bind fun bt498 => ((laws_toScan.f a2_0 a2_1).bind fun bt500 => ((impl_MustPass.f t492 t493 t494 bt498.1 bt498.2 bt500.1 bt500.2).bind fun bt502 => ((laws_eqInt64S.f k bt502.1 t488).bind fun t506 => (if t506 = true then (laws_FnExactMustPass.j0 k t488 t491 bt502.1 bt502.2 (bt502.2 != t491) a0_0 a0_1 l0_2 a1_0 a1_1 a2_0 a2_1 t492 t493 t494) else (laws_FnExactMustPass.j0 k t488 t491 bt502.1 bt502.2 true a0_0 a0_1 l0_2 a1_0 a1_1 a2_0 a2_1 t492 t493 t494)))))) = some r := H
    have A17 := Aside0.mk A170
    clear A170
    replace H := Option.bind_eq_some_iff.mp H
    obtain ⟨⟨t498, t499⟩, A180, H⟩ := H
    replace H : ((laws_toScan.f a2_0 a2_1).bind fun bt500 => ((impl_MustPass.f t492 t493 t494 t498 t499 bt500.1 bt500.2).bind fun bt502 => ((laws_eqInt64S.f k bt502.1 t488).bind fun t506 => (if t506 = true then (laws_FnExactMustPass.j0 k t488 t491 bt502.1 bt502.2 (bt502.2 != t491) a0_0 a0_1 l0_2 a1_0 a1_1 a2_0 a2_1 t492 t493 t494) else (laws_FnExactMustPass.j0 k t488 t491 bt502.1 bt502.2 true a0_0 a0_1 l0_2 a1_0 a1_1 a2_0 a2_1 t492 t493 t494))))) = some r := H
    have A18 := Aside0.mk A180
    clear A180
    replace H := Option.bind_eq_some_iff.mp H
    obtain ⟨⟨t500, t501⟩, A190, H⟩ := H
    replace H : ((impl_MustPass.f t492 t493 t494 t498 t499 t500 t501).bind fun bt502 => ((laws_eqInt64S.f k bt502.1 t488).bind fun t506 => (if t506 = true then (laws_FnExactMustPass.j0 k t488 t491 bt502.1 bt502.2 (bt502.2 != t491) a0_0 a0_1 l0_2 a1_0 a1_1 a2_0 a2_1 t492 t493 t494) else (laws_FnExactMustPass.j0 k t488 t491 bt502.1 bt502.2 true a0_0 a0_1 l0_2 a1_0 a1_1 a2_0 a2_1 t492 t493 t494)))) = some r := H
    have A19 := Aside0.mk A190
    clear A190
    replace H := Option.bind_eq_some_iff.mp H
    obtain ⟨⟨t502, t505⟩, A200, H⟩ := H
    replace H : ((laws_eqInt64S.f k t502 t488).bind fun t506 => (if t506 = true then (laws_FnExactMustPass.j0 k t488 t491 t502 t505 (t505 != t491) a0_0 a0_1 l0_2 a1_0 a1_1 a2_0 a2_1 t492 t493 t494) else (laws_FnExactMustPass.j0 k t488 t491 t502 t505 true a0_0 a0_1 l0_2 a1_0 a1_1 a2_0 a2_1 t492 t493 t494))) = some r := H
    have A20 := Aside0.mk A200
    clear A200
    have HC21 := Aside0.mk H
    clear H
    go_enter Try.func12, Try.ntmps12
    try go_wp2_with (first | ((with_reducible refine gate_dst (N := 3) rfl ?_); refine box_event ?hg (N := 3) ?hd (cs := #[.int .i8 a0_0, .int .i16 a0_1, .slice A0_2 l0_2.length c0_2]) (t := 26) ?hr ?_; (case hd => rfl); (case hg => rfl); (case hr => first | (go_simp; done) | (go_simp; rfl)); intro gb475 hg w22 hbox hb; have n0_ := Aside0.mk (below_step (by repeat (first | (with_reducible first | exact HB.out | apply below_alloc | apply pw_below_drewN | apply below_drew1) | exact HB.out)) hb); have n1_ := Aside0.mk (hbox); have n2_ := Aside0.mk ((by rw [hg]; exact (below_size (by repeat (first | (with_reducible first | exact HB.out | apply below_alloc | apply pw_below_drewN | apply below_drew1) | exact HB.out))) : w.heap.size ≤ gb475)); have n3_ := Aside0.mk ((by rw [hg]; exact (below_size (by repeat (first | (with_reducible first | exact HB.out | apply below_alloc | apply pw_below_drewN | apply below_drew1) | exact HB.out))) : w.heap.size ≤ gb475)); clear HB; have HB := n0_; have BK475 := n1_; have GW475 := n2_; have GE475 := n3_; clear n0_ n1_ n2_ n3_; clear hb hbox hg) | ((with_reducible refine gate_dst (N := 4) rfl ?_); refine box_event ?hg (N := 4) ?hd (cs := #[.int .i8 a1_0, .int .i16 a1_1]) (t := 44) ?hr ?_; (case hd => rfl); (case hg => rfl); (case hr => first | (go_simp; done) | (go_simp; rfl)); intro gb476 hg w23 hbox hb; have n0_ := Aside0.mk (blk_below (g := gb475) (o := .cells #[.int .i8 a0_0, .int .i16 a0_1, .slice A0_2 l0_2.length c0_2] 26 (0, 0)) (by (with_reducible repeat (first | refine blk_drewN ?_ _ | refine blk_drew ?_ | refine blk_alloc ?_ _)); exact BK475.out) hb); have n1_ := Aside0.mk (below_step (by repeat (first | (with_reducible first | exact HB.out | apply below_alloc | apply pw_below_drewN | apply below_drew1 | refine below_set ?_ GE475.out) | exact HB.out)) hb); have n2_ := Aside0.mk (hbox); have n3_ := Aside0.mk ((by rw [hg]; exact (below_size (by repeat (first | (with_reducible first | exact HB.out | apply below_alloc | apply pw_below_drewN | apply below_drew1 | refine below_set ?_ GE475.out) | exact HB.out))) : w.heap.size ≤ gb476)); have n4_ := Aside0.mk ((by rw [hg]; exact (below_size (by repeat (first | (with_reducible first | exact HB.out | apply below_alloc | apply pw_below_drewN | apply below_drew1 | refine below_set ?_ GE475.out) | exact HB.out))) : w.heap.size ≤ gb476)); have n5_ := Aside0.mk ((by rw [hg]; exact Nat.ne_of_lt (blk_lt (g := gb475) (o := .cells #[.int .i8 a0_0, .int .i16 a0_1, .slice A0_2 l0_2.length c0_2] 26 (0, 0)) (by (with_reducible repeat (first | refine blk_drewN ?_ _ | refine blk_drew ?_ | refine blk_alloc ?_ _)); exact BK475.out)) : gb475 ≠ gb476)); have n6_ := Aside0.mk ((by rw [hg]; exact Nat.ne_of_gt (blk_lt (g := gb475) (o := .cells #[.int .i8 a0_0, .int .i16 a0_1, .slice A0_2 l0_2.length c0_2] 26 (0, 0)) (by (with_reducible repeat (first | refine blk_drewN ?_ _ | refine blk_drew ?_ | refine blk_alloc ?_ _)); exact BK475.out)) : gb476 ≠ gb475)); clear BK475; clear HB; have BK475 := n0_; have HB := n1_; have BK476 := n2_; have GW476 := n3_; have GE476 := n4_; have NB475_476 := n5_; have NB476_475 := n6_; clear n0_ n1_ n2_ n3_ n4_ n5_ n6_; clear hb hbox hg) | ((with_reducible refine gate_dst (N := 5) rfl ?_); refine box_event ?hg (N := 5) ?hd (cs := #[.int .i8 a2_0, .int .i16 a2_1]) (t := 44) ?hr ?_; (case hd => rfl); (case hg => rfl); (case hr => first | (go_simp; done) | (go_simp; rfl)); intro gb477 hg w24 hbox hb; have n0_ := Aside0.mk (blk_below (g := gb475) (o := .cells #[.int .i8 a0_0, .int .i16 a0_1, .slice A0_2 l0_2.length c0_2] 26 (0, 0)) (by (with_reducible repeat (first | refine blk_drewN ?_ _ | refine blk_drew ?_ | refine blk_alloc ?_ _)); exact BK475.out) hb); have n1_ := Aside0.mk (blk_below (g := gb476) (o := .cells #[.int .i8 a1_0, .int .i16 a1_1] 44 (0, 0)) (by (with_reducible repeat (first | refine blk_drewN ?_ _ | refine blk_drew ?_ | refine blk_alloc ?_ _)); exact BK476.out) hb); have n2_ := Aside0.mk (below_step (by repeat (first | (with_reducible first | exact HB.out | apply below_alloc | apply pw_below_drewN | apply below_drew1 | refine below_set ?_ GE475.out | refine below_set ?_ GE476.out) | exact HB.out)) hb); have n3_ := Aside0.mk (hbox); have n4_ := Aside0.mk ((by rw [hg]; exact (below_size (by repeat (first | (with_reducible first | exact HB.out | apply below_alloc | apply pw_below_drewN | apply below_drew1 | refine below_set ?_ GE475.out | refine below_set ?_ GE476.out) | exact HB.out))) : w.heap.size ≤ gb477)); have n5_ := Aside0.mk ((by rw [hg]; exact (below_size (by repeat (first | (with_reducible first | exact HB.out | apply below_alloc | apply pw_below_drewN | apply below_drew1 | refine below_set ?_ GE475.out | refine below_set ?_ GE476.out) | exact HB.out))) : w.heap.size ≤ gb477)); have n6_ := Aside0.mk ((by rw [hg]; exact Nat.ne_of_lt (blk_lt (g := gb475) (o := .cells #[.int .i8 a0_0, .int .i16 a0_1, .slice A0_2 l0_2.length c0_2] 26 (0, 0)) (by (with_reducible repeat (first | refine blk_drewN ?_ _ | refine blk_drew ?_ | refine blk_alloc ?_ _)); exact BK475.out)) : gb475 ≠ gb477)); have n7_ := Aside0.mk ((by rw [hg]; exact Nat.ne_of_gt (blk_lt (g := gb475) (o := .cells #[.int .i8 a0_0, .int .i16 a0_1, .slice A0_2 l0_2.length c0_2] 26 (0, 0)) (by (with_reducible repeat (first | refine blk_drewN ?_ _ | refine blk_drew ?_ | refine blk_alloc ?_ _)); exact BK475.out)) : gb477 ≠ gb475)); have n8_ := Aside0.mk ((by rw [hg]; exact Nat.ne_of_lt (blk_lt (g := gb476) (o := .cells #[.int .i8 a1_0, .int .i16 a1_1] 44 (0, 0)) (by (with_reducible repeat (first | refine blk_drewN ?_ _ | refine blk_drew ?_ | refine blk_alloc ?_ _)); exact BK476.out)) : gb476 ≠ gb477)); have n9_ := Aside0.mk ((by rw [hg]; exact Nat.ne_of_gt (blk_lt (g := gb476) (o := .cells #[.int .i8 a1_0, .int .i16 a1_1] 44 (0, 0)) (by (with_reducible repeat (first | refine blk_drewN ?_ _ | refine blk_drew ?_ | refine blk_alloc ?_ _)); exact BK476.out)) : gb477 ≠ gb476)); clear BK475; clear BK476; clear HB; have BK475 := n0_; have BK476 := n1_; have HB := n2_; have BK477 := n3_; have GW477 := n4_; have GE477 := n5_; have NB475_477 := n6_; have NB477_475 := n7_; have NB476_477 := n8_; have NB477_476 := n9_; clear n0_ n1_ n2_ n3_ n4_ n5_ n6_ n7_ n8_ n9_; clear hb hbox hg; have hnb25 := NB475_476.out; have hnc25 := NB476_475.out; have hnb26 := NB475_477.out; have hnc26 := NB477_475.out; have hcz27_0 : w24.cell? ⟨gb475, 0, none⟩ = some (.int .i8 a0_0) := (blk_cell BK475.out 0).trans rfl; have hcz27_1 : w24.cell? ⟨gb475, 1, none⟩ = some (.int .i16 a0_1) := (blk_cell BK475.out 1).trans rfl; have hcz27_2 : w24.cell? ⟨gb475, 2, none⟩ = some (.slice A0_2 l0_2.length c0_2) := (blk_cell BK475.out 2).trans rfl; have hfz27_0 := blk_frozen BK475.out 0; have hfz27_1 := blk_frozen BK475.out 1; have hfz27_2 := blk_frozen BK475.out 2) | ((with_reducible refine gate_callee (f := 15) rfl ?_); refine goesL_ (some 20) rfl rfl Try.func15 (by kernel_rfl) rfl #[.agg #[.int .i8 a0_0, .int .i16 a0_1, .slice A0_2 l0_2.length c0_2], .int .i64 1048576] rfl (by (try simp only [List.map_toArray, List.map_cons, List.map_nil]); first | done | rfl | (simp only [List.length_drop, List.length_take]; rfl)) ?_; (with_reducible refine (laws_szNet.calls a0_0 a0_1 _ _ l0_2 1048576 t478 _ ?side1 ?side2 A4.out).mono ?_); (case side1 => repeat (first | exact (Kd.C_below HR0_2.out HB.out) | (with_reducible refine Kd.C_alloc ?_ _) | (with_reducible refine Kd.C_drewN ?_ _) | (with_reducible refine Kd.C_drew ?_))); (case side2 => exact HC0_2.out); rintro e w28 ⟨rfl, hb⟩; refine ⟨_, rfl, ?_⟩; have n0_ := Aside0.mk (blk_below (g := gb475) (o := .cells #[.int .i8 a0_0, .int .i16 a0_1, .slice A0_2 l0_2.length c0_2] 26 (0, 0)) (by (with_reducible repeat (first | refine blk_drewN ?_ _ | refine blk_drew ?_ | refine blk_alloc ?_ _)); exact BK475.out) hb); have n1_ := Aside0.mk (blk_below (g := gb476) (o := .cells #[.int .i8 a1_0, .int .i16 a1_1] 44 (0, 0)) (by (with_reducible repeat (first | refine blk_drewN ?_ _ | refine blk_drew ?_ | refine blk_alloc ?_ _)); exact BK476.out) hb); have n2_ := Aside0.mk (blk_below (g := gb477) (o := .cells #[.int .i8 a2_0, .int .i16 a2_1] 44 (0, 0)) (by (with_reducible repeat (first | refine blk_drewN ?_ _ | refine blk_drew ?_ | refine blk_alloc ?_ _)); exact BK477.out) hb); have n3_ := Aside0.mk (below_step (by repeat (first | (with_reducible first | exact HB.out | apply below_alloc | apply pw_below_drewN | apply below_drew1 | refine below_set ?_ GE475.out | refine below_set ?_ GE476.out | refine below_set ?_ GE477.out) | exact HB.out)) hb); clear BK475; clear BK476; clear BK477; clear HB; have BK475 := n0_; have BK476 := n1_; have BK477 := n2_; have HB := n3_; clear n0_ n1_ n2_ n3_; (try clear hb); (try clear hb2); (try clear hk); (try clear hi)))
    have n0_ := Aside0.mk (blk_drew BK475.out)
    have n1_ := Aside0.mk (blk_drew BK476.out)
    have n2_ := Aside0.mk (blk_drew BK477.out)
    have n3_ := Aside0.mk (below_drew1 HB.out)
    clear BK475
    clear BK476
    clear BK477
    clear HB
    have BK475 := n0_
    have BK476 := n1_
    have BK477 := n2_
    have HB := n3_
    clear n0_ n1_ n2_ n3_
    refine start_ (n := 12) (S := fun w' => w'.cell? ⟨gb475, 0, none⟩ = some (.int .i8 a0_0) ∧ w'.cell? ⟨gb475, 1, none⟩ = some (.int .i16 a0_1) ∧ w'.cell? ⟨gb475, 2, none⟩ = some (.slice A0_2 l0_2.length c0_2) ∧ w'.cell? ⟨gb476, 0, none⟩ = some (.int .i8 a1_0) ∧ w'.cell? ⟨gb476, 1, none⟩ = some (.int .i16 a1_1) ∧ w'.cell? ⟨gb477, 0, none⟩ = some (.int .i8 a2_0) ∧ w'.cell? ⟨gb477, 1, none⟩ = some (.int .i16 a2_1)) (ds := []) #[false, false, false, false, false, false, false, false, false, false, false, false] (by kernel_rfl) rfl rfl ⟨(blk_cell BK475.out 0).trans rfl, (blk_cell BK475.out 1).trans rfl, (blk_cell BK475.out 2).trans rfl, (blk_cell BK476.out 0).trans rfl, (blk_cell BK476.out 1).trans rfl, (blk_cell BK477.out 0).trans rfl, (blk_cell BK477.out 1).trans rfl⟩ (fun hHeld => ?_); refine with_tabW laws_FnExactMustPass.tab5 laws_FnExactMustPass.bits5 (fun HT_ HW_ => ?_)
    generalize w28.drew = w29 at BK475 BK476 BK477 HB hHeld ⊢
    refine take_ (i := 0) (N := some 24) (v := ?_) (a' := ?_) #[true, false, false, false, false, false, false, false, false, false, false, false] rfl rfl (take_ofW HT_.out HW_.out (by kernel_rfl)) (fun _ _ _ h => h) (Or.inl ⟨by rfl, ?_⟩) hHeld ?_ ?_
    rotate_left
    · rintro w' ⟨s0, s1, s2, s3, s4, s5, s6⟩
      go_simp
      with_reducible rfl
    rotate_left
    · simp only [Act.put, List.setIfInBounds_toArray, List.set_cons_zero, List.set_cons_succ, i64_w, i32_w]
      rfl
    refine take_ (i := 2) (N := some 26) (v := ?_) (a' := ?_) #[true, false, true, false, false, false, false, false, false, false, false, false] rfl rfl (take_ofW HT_.out HW_.out (by kernel_rfl)) (fun _ _ _ h => h) (Or.inl ⟨by rfl, ?_⟩) hHeld ?_ ?_
    rotate_left
    · rintro w' ⟨s0, s1, s2, s3, s4, s5, s6⟩
      go_simp
      with_reducible rfl
    rotate_left
    · simp only [Act.put, List.setIfInBounds_toArray, List.set_cons_zero, List.set_cons_succ, i64_w, i32_w]
      rfl
    refine take_ (i := 4) (N := some 28) (v := ?_) (a' := ?_) #[true, false, true, false, true, false, false, false, false, false, false, false] rfl rfl (take_ofW HT_.out HW_.out (by kernel_rfl)) (fun _ _ _ h => h) (Or.inl ⟨by rfl, ?_⟩) hHeld ?_ ?_
    rotate_left
    · rintro w' ⟨s0, s1, s2, s3, s4, s5, s6⟩
      go_simp
      with_reducible rfl
    rotate_left
    · simp only [Act.put, List.setIfInBounds_toArray, List.set_cons_zero, List.set_cons_succ, i64_w, i32_w]
      rfl
    refine one_ (i := 1) (N := some 25) #[true, true, true, false, true, false, false, false, false, false, false, false] rfl rfl (one_of HT_.out (by kernel_rfl)) (by decide) (fun K hK => ?_)
    refine goes_ Try.func17 (by kernel_rfl) rfl #[.agg #[.int .i8 a0_0, .int .i16 a0_1, .slice A0_2 l0_2.length c0_2]] (by rfl) rfl rfl (by (try simp only [List.map_toArray, List.map_cons, List.map_nil]); first | done | rfl | (simp only [List.length_drop, List.length_take]; rfl)) ?_
    with_reducible refine (laws_toNet.calls k a0_0 a0_1 _ _ l0_2 t479 t480 t481 _ ?side1 ?side2 A13.out).mono ?_
    (case side1 => repeat (first | exact (Kd.C_below HR0_2.out HB.out) | (with_reducible refine Kd.C_alloc ?_ _) | (with_reducible refine Kd.C_drewN ?_ _) | (with_reducible refine Kd.C_drew ?_)))
    (case side2 => exact HC0_2.out)
    rintro e w30 ⟨v482, rfl, ho0, hb⟩
    refine ⟨_, rfl, ?_⟩
    have n0_ := Aside0.mk (Kd.R_lower ho0 (below_size (by repeat (first | (with_reducible first | exact HB.out | apply below_alloc | apply pw_below_drewN | apply below_drew1 | refine below_set ?_ GE475.out | refine below_set ?_ GE476.out | refine below_set ?_ GE477.out) | exact HB.out))))
    have n1_ := Aside0.mk (blk_below (g := gb475) (o := .cells #[.int .i8 a0_0, .int .i16 a0_1, .slice A0_2 l0_2.length c0_2] 26 (0, 0)) (by (with_reducible repeat (first | refine blk_drewN ?_ _ | refine blk_drew ?_ | refine blk_alloc ?_ _)); exact BK475.out) hb)
    have n2_ := Aside0.mk (blk_below (g := gb476) (o := .cells #[.int .i8 a1_0, .int .i16 a1_1] 44 (0, 0)) (by (with_reducible repeat (first | refine blk_drewN ?_ _ | refine blk_drew ?_ | refine blk_alloc ?_ _)); exact BK476.out) hb)
    have n3_ := Aside0.mk (blk_below (g := gb477) (o := .cells #[.int .i8 a2_0, .int .i16 a2_1] 44 (0, 0)) (by (with_reducible repeat (first | refine blk_drewN ?_ _ | refine blk_drew ?_ | refine blk_alloc ?_ _)); exact BK477.out) hb)
    have n4_ := Aside0.mk (below_step (by repeat (first | (with_reducible first | exact HB.out | apply below_alloc | apply pw_below_drewN | apply below_drew1 | refine below_set ?_ GE475.out | refine below_set ?_ GE476.out | refine below_set ?_ GE477.out) | exact HB.out)) hb)
    clear BK475
    clear BK476
    clear BK477
    clear HB
    have HO483 := n0_
    have BK475 := n1_
    have BK476 := n2_
    have BK477 := n3_
    have HB := n4_
    clear n0_ n1_ n2_ n3_ n4_
    (try clear hb)
    (try clear hb2)
    (try clear hk)
    (try clear hi)
    (try clear ho0)
    refine hK.out _ _ ⟨(blk_cell BK475.out 0).trans rfl, (blk_cell BK475.out 1).trans rfl, (blk_cell BK475.out 2).trans rfl, (blk_cell BK476.out 0).trans rfl, (blk_cell BK476.out 1).trans rfl, (blk_cell BK477.out 0).trans rfl, (blk_cell BK477.out 1).trans rfl⟩ (fun hHeld => ?_)
    clear hK K
    refine norm_ (a' := ?_) ?_ ?_
    rotate_left
    · show Act.put _ (some 25) _ = _
      simp only [Act.put, List.setIfInBounds_toArray, List.set_cons_zero, List.set_cons_succ, i64_w, i32_w]
      rfl
    refine one_ (i := 3) (N := some 27) #[true, true, true, true, true, false, false, false, false, false, false, false] rfl rfl (one_of HT_.out (by kernel_rfl)) (by decide) (fun K hK => ?_)
    refine goes_ Try.func29 (by kernel_rfl) rfl #[.agg #[.int .i8 a1_0, .int .i16 a1_1]] (by rfl) rfl rfl (by (try simp only [List.map_toArray, List.map_cons, List.map_nil]); first | done | rfl | (simp only [List.length_drop, List.length_take]; rfl)) ?_
    with_reducible refine (laws_toScan.calls a1_0 a1_1 t484 t485 _ A14.out).mono ?_
    rintro e w31 ⟨rfl, hb⟩
    refine ⟨_, rfl, ?_⟩
    have n0_ := Aside0.mk (Kd.R_below (by (with_reducible repeat (first | apply Kd.R_alloc | apply Kd.R_drewN | apply Kd.R_drew)); exact HO483.out) hb)
    have n1_ := Aside0.mk (blk_below (g := gb475) (o := .cells #[.int .i8 a0_0, .int .i16 a0_1, .slice A0_2 l0_2.length c0_2] 26 (0, 0)) (by (with_reducible repeat (first | refine blk_drewN ?_ _ | refine blk_drew ?_ | refine blk_alloc ?_ _)); exact BK475.out) hb)
    have n2_ := Aside0.mk (blk_below (g := gb476) (o := .cells #[.int .i8 a1_0, .int .i16 a1_1] 44 (0, 0)) (by (with_reducible repeat (first | refine blk_drewN ?_ _ | refine blk_drew ?_ | refine blk_alloc ?_ _)); exact BK476.out) hb)
    have n3_ := Aside0.mk (blk_below (g := gb477) (o := .cells #[.int .i8 a2_0, .int .i16 a2_1] 44 (0, 0)) (by (with_reducible repeat (first | refine blk_drewN ?_ _ | refine blk_drew ?_ | refine blk_alloc ?_ _)); exact BK477.out) hb)
    have n4_ := Aside0.mk (below_step (by repeat (first | (with_reducible first | exact HB.out | apply below_alloc | apply pw_below_drewN | apply below_drew1 | refine below_set ?_ GE475.out | refine below_set ?_ GE476.out | refine below_set ?_ GE477.out) | exact HB.out)) hb)
    clear HO483
    clear BK475
    clear BK476
    clear BK477
    clear HB
    have HO483 := n0_
    have BK475 := n1_
    have BK476 := n2_
    have BK477 := n3_
    have HB := n4_
    clear n0_ n1_ n2_ n3_ n4_
    (try clear hb)
    (try clear hb2)
    (try clear hk)
    (try clear hi)
    refine hK.out _ _ ⟨(blk_cell BK475.out 0).trans rfl, (blk_cell BK475.out 1).trans rfl, (blk_cell BK475.out 2).trans rfl, (blk_cell BK476.out 0).trans rfl, (blk_cell BK476.out 1).trans rfl, (blk_cell BK477.out 0).trans rfl, (blk_cell BK477.out 1).trans rfl⟩ (fun hHeld => ?_)
    clear hK K
    refine norm_ (a' := ?_) ?_ ?_
    rotate_left
    · show Act.put _ (some 27) _ = _
      simp only [Act.put, List.setIfInBounds_toArray, List.set_cons_zero, List.set_cons_succ, i64_w, i32_w]
      rfl
    refine one_ (i := 5) (N := some 29) #[true, true, true, true, true, true, false, false, false, false, false, false] rfl rfl (one_of HT_.out (by kernel_rfl)) (by decide) (fun K hK => ?_)
    refine goes_ Try.func29 (by kernel_rfl) rfl #[.agg #[.int .i8 a2_0, .int .i16 a2_1]] (by rfl) rfl rfl (by (try simp only [List.map_toArray, List.map_cons, List.map_nil]); first | done | rfl | (simp only [List.length_drop, List.length_take]; rfl)) ?_
    with_reducible refine (laws_toScan.calls a2_0 a2_1 t486 t487 _ A15.out).mono ?_
    rintro e w32 ⟨rfl, hb⟩
    refine ⟨_, rfl, ?_⟩
    have n0_ := Aside0.mk (Kd.R_below (by (with_reducible repeat (first | apply Kd.R_alloc | apply Kd.R_drewN | apply Kd.R_drew)); exact HO483.out) hb)
    have n1_ := Aside0.mk (blk_below (g := gb475) (o := .cells #[.int .i8 a0_0, .int .i16 a0_1, .slice A0_2 l0_2.length c0_2] 26 (0, 0)) (by (with_reducible repeat (first | refine blk_drewN ?_ _ | refine blk_drew ?_ | refine blk_alloc ?_ _)); exact BK475.out) hb)
    have n2_ := Aside0.mk (blk_below (g := gb476) (o := .cells #[.int .i8 a1_0, .int .i16 a1_1] 44 (0, 0)) (by (with_reducible repeat (first | refine blk_drewN ?_ _ | refine blk_drew ?_ | refine blk_alloc ?_ _)); exact BK476.out) hb)
    have n3_ := Aside0.mk (blk_below (g := gb477) (o := .cells #[.int .i8 a2_0, .int .i16 a2_1] 44 (0, 0)) (by (with_reducible repeat (first | refine blk_drewN ?_ _ | refine blk_drew ?_ | refine blk_alloc ?_ _)); exact BK477.out) hb)
    have n4_ := Aside0.mk (below_step (by repeat (first | (with_reducible first | exact HB.out | apply below_alloc | apply pw_below_drewN | apply below_drew1 | refine below_set ?_ GE475.out | refine below_set ?_ GE476.out | refine below_set ?_ GE477.out) | exact HB.out)) hb)
    clear HO483
    clear BK475
    clear BK476
    clear BK477
    clear HB
    have HO483 := n0_
    have BK475 := n1_
    have BK476 := n2_
    have BK477 := n3_
    have HB := n4_
    clear n0_ n1_ n2_ n3_ n4_
    (try clear hb)
    (try clear hb2)
    (try clear hk)
    (try clear hi)
    obtain ⟨Ao33, co33, eo33⟩ := Kd.R_slice HO483.out
    (first | subst eo33 | (injection eo33 with f1_ f2_ f3_; have f4_ := f1_.symm; have f5_ := f3_.symm; clear f1_ f2_ f3_; subst f4_; subst f5_))
    refine hK.out _ _ ⟨(blk_cell BK475.out 0).trans rfl, (blk_cell BK475.out 1).trans rfl, (blk_cell BK475.out 2).trans rfl, (blk_cell BK476.out 0).trans rfl, (blk_cell BK476.out 1).trans rfl, (blk_cell BK477.out 0).trans rfl, (blk_cell BK477.out 1).trans rfl⟩ (fun hHeld => ?_)
    clear hK K
    refine norm_ (a' := ?_) ?_ ?_
    rotate_left
    · show Act.put _ (some 29) _ = _
      simp only [Act.put, List.setIfInBounds_toArray, List.set_cons_zero, List.set_cons_succ, i64_w, i32_w]
      rfl
    refine one_ (i := 6) (N := some 30) #[true, true, true, true, true, true, true, false, false, false, false, false] rfl rfl (one_of HT_.out (by kernel_rfl)) (by decide) (fun K hK => ?_)
    refine goes_ Try.func48 (by kernel_rfl) rfl #[.agg #[.int .i8 t479, .int .i16 t480, .slice Ao33 t481.length co33], .agg #[.int .i8 t484, .int .i16 t485], .agg #[.int .i8 t486, .int .i16 t487]] (by rfl) rfl rfl (by (try simp only [List.map_toArray, List.map_cons, List.map_nil]); first | done | rfl | (simp only [List.length_drop, List.length_take]; rfl)) ?_
    with_reducible refine (spec_MustPass.calls t479 t480 _ _ t481 t484 t485 t486 t487 t488 t491 _ ?side1 ?side2 A16.out).mono ?_
    (case side1 => repeat (first | exact (Kd.R_reads' HO483.out).2.2 | (with_reducible refine Kd.C_alloc ?_ _) | (with_reducible refine Kd.C_drewN ?_ _) | (with_reducible refine Kd.C_drew ?_)))
    (case side2 => exact (Kd.R_reads' HO483.out).2.1)
    rintro e w34 ⟨v489, rfl, ho0, hb⟩
    refine ⟨_, rfl, ?_⟩
    have n0_ := Aside0.mk (Kd.R_below (by (with_reducible repeat (first | apply Kd.R_alloc | apply Kd.R_drewN | apply Kd.R_drew)); exact HO483.out) hb)
    have n1_ := Aside0.mk (Kd.R_lower ho0 (below_size (by repeat (first | (with_reducible first | exact HB.out | apply below_alloc | apply pw_below_drewN | apply below_drew1 | refine below_set ?_ GE475.out | refine below_set ?_ GE476.out | refine below_set ?_ GE477.out) | exact HB.out))))
    have n2_ := Aside0.mk (blk_below (g := gb475) (o := .cells #[.int .i8 a0_0, .int .i16 a0_1, .slice A0_2 l0_2.length c0_2] 26 (0, 0)) (by (with_reducible repeat (first | refine blk_drewN ?_ _ | refine blk_drew ?_ | refine blk_alloc ?_ _)); exact BK475.out) hb)
    have n3_ := Aside0.mk (blk_below (g := gb476) (o := .cells #[.int .i8 a1_0, .int .i16 a1_1] 44 (0, 0)) (by (with_reducible repeat (first | refine blk_drewN ?_ _ | refine blk_drew ?_ | refine blk_alloc ?_ _)); exact BK476.out) hb)
    have n4_ := Aside0.mk (blk_below (g := gb477) (o := .cells #[.int .i8 a2_0, .int .i16 a2_1] 44 (0, 0)) (by (with_reducible repeat (first | refine blk_drewN ?_ _ | refine blk_drew ?_ | refine blk_alloc ?_ _)); exact BK477.out) hb)
    have n5_ := Aside0.mk (below_step (by repeat (first | (with_reducible first | exact HB.out | apply below_alloc | apply pw_below_drewN | apply below_drew1 | refine below_set ?_ GE475.out | refine below_set ?_ GE476.out | refine below_set ?_ GE477.out) | exact HB.out)) hb)
    clear HO483
    clear BK475
    clear BK476
    clear BK477
    clear HB
    have HO483 := n0_
    have HO490 := n1_
    have BK475 := n2_
    have BK476 := n3_
    have BK477 := n4_
    have HB := n5_
    clear n0_ n1_ n2_ n3_ n4_ n5_
    (try clear hb)
    (try clear hb2)
    (try clear hk)
    (try clear hi)
    (try clear ho0)
    refine hK.out _ _ ⟨(blk_cell BK475.out 0).trans rfl, (blk_cell BK475.out 1).trans rfl, (blk_cell BK475.out 2).trans rfl, (blk_cell BK476.out 0).trans rfl, (blk_cell BK476.out 1).trans rfl, (blk_cell BK477.out 0).trans rfl, (blk_cell BK477.out 1).trans rfl⟩ (fun hHeld => ?_)
    clear hK K
    refine norm_ (a' := ?_) ?_ ?_
    rotate_left
    · show Act.put _ (some 30) _ = _
      simp only [Act.put, List.setIfInBounds_toArray, List.set_cons_zero, List.set_cons_succ, i64_w, i32_w]
      rfl
    refine pure_ (i := 7) (N := some 23) (v := ?_) (a' := ?_) #[true, true, true, true, true, true, true, true, false, false, false, false] rfl rfl (any_of HT_.out (by kernel_rfl)) (fun _ _ _ h => h) (Or.inl ⟨by rfl, ?_⟩) ?_ ?_
    rotate_left
    · intro w'
      go_simp
      with_reducible rfl
    rotate_left
    · simp only [Act.put, List.setIfInBounds_toArray, List.set_cons_zero, List.set_cons_succ, i64_w, i32_w]
      rfl
    refine pure_ (i := 8) (N := some 31) (v := ?_) (a' := ?_) #[true, true, true, true, true, true, true, true, true, false, false, false] rfl rfl (any_of HT_.out (by kernel_rfl)) (fun _ _ _ h => h) (Or.inl ⟨by rfl, ?_⟩) ?_ ?_
    rotate_left
    · intro w'
      go_simp
      with_reducible rfl
    rotate_left
    · simp only [Act.put, List.setIfInBounds_toArray, List.set_cons_zero, List.set_cons_succ, i64_w, i32_w]
      rfl
    refine pure_ (i := 9) (N := some 32) (v := ?_) (a' := ?_) #[true, true, true, true, true, true, true, true, true, true, false, false] rfl rfl (any_of HT_.out (by kernel_rfl)) (fun _ _ _ h => h) (Or.inl ⟨by rfl, ?_⟩) ?_ ?_
    rotate_left
    · intro w'
      go_simp
      with_reducible rfl
    rotate_left
    · simp only [Act.put, List.setIfInBounds_toArray, List.set_cons_zero, List.set_cons_succ, i64_w, i32_w]
      rfl
    refine pure_ (i := 10) (N := some 8) (v := ?_) (a' := ?_) #[true, true, true, true, true, true, true, true, true, true, true, false] rfl rfl (any_of HT_.out (by kernel_rfl)) (fun _ _ _ h => h) (Or.inl ⟨by rfl, ?_⟩) ?_ ?_
    rotate_left
    · intro w'
      go_simp
      with_reducible rfl
    rotate_left
    · simp only [Act.put, List.setIfInBounds_toArray, List.set_cons_zero, List.set_cons_succ, i64_w, i32_w]
      rfl
    refine pure_ (i := 11) (N := some 9) (v := ?_) (a' := ?_) #[true, true, true, true, true, true, true, true, true, true, true, true] rfl rfl (any_of HT_.out (by kernel_rfl)) (fun _ _ _ h => h) (Or.inl ⟨by rfl, ?_⟩) ?_ ?_
    rotate_left
    · intro w'
      go_simp
      with_reducible rfl
    rotate_left
    · simp only [Act.put, List.setIfInBounds_toArray, List.set_cons_zero, List.set_cons_succ, i64_w, i32_w]
      rfl
    refine done_ (done_of HT_.out (by kernel_rfl)) ?_
    have hcz35_0 : w34.cell? ⟨gb475, 0, none⟩ = some (.int .i8 a0_0) := (blk_cell BK475.out 0).trans rfl
    have hcz35_1 : w34.cell? ⟨gb475, 1, none⟩ = some (.int .i16 a0_1) := (blk_cell BK475.out 1).trans rfl
    have hcz35_2 : w34.cell? ⟨gb475, 2, none⟩ = some (.slice A0_2 l0_2.length c0_2) := (blk_cell BK475.out 2).trans rfl
    have hfz35_0 := blk_frozen BK475.out 0
    have hfz35_1 := blk_frozen BK475.out 1
    have hfz35_2 := blk_frozen BK475.out 2
    try go_wp2_with (first | ((with_reducible refine gate_callee (f := 17) rfl ?_); refine goesL_ (some 34) rfl rfl Try.func17 (by kernel_rfl) rfl #[.agg #[.int .i8 a0_0, .int .i16 a0_1, .slice A0_2 l0_2.length c0_2]] rfl (by (try simp only [List.map_toArray, List.map_cons, List.map_nil]); first | done | rfl | (simp only [List.length_drop, List.length_take]; rfl)) ?_; (with_reducible refine (laws_toNet.calls k a0_0 a0_1 _ _ l0_2 t492 t493 t494 _ ?side1 ?side2 A17.out).mono ?_); (case side1 => repeat (first | exact (Kd.C_below HR0_2.out HB.out) | (with_reducible refine Kd.C_alloc ?_ _) | (with_reducible refine Kd.C_drewN ?_ _) | (with_reducible refine Kd.C_drew ?_))); (case side2 => exact HC0_2.out); rintro e w36 ⟨v495, rfl, ho0, hb⟩; refine ⟨_, rfl, ?_⟩; have n0_ := Aside0.mk (Kd.R_elder' (by (with_reducible repeat (first | apply Kd.R_alloc | apply Kd.R_drewN | apply Kd.R_drew)); exact HO483.out) (Kd.R_base ho0) hb); have n1_ := Aside0.mk (Kd.R_below (by (with_reducible repeat (first | apply Kd.R_alloc | apply Kd.R_drewN | apply Kd.R_drew)); exact HO490.out) hb); have n2_ := Aside0.mk (Kd.R_lower (Kd.R_new' ho0 (Kd.R_lt (by (with_reducible repeat (first | apply Kd.R_alloc | apply Kd.R_drewN | apply Kd.R_drew)); exact HO483.out))) (below_size (by repeat (first | (with_reducible first | exact HB.out | apply below_alloc | apply pw_below_drewN | apply below_drew1 | refine below_set ?_ GE475.out | refine below_set ?_ GE476.out | refine below_set ?_ GE477.out) | exact HB.out)))); have n3_ := Aside0.mk (blk_below (g := gb475) (o := .cells #[.int .i8 a0_0, .int .i16 a0_1, .slice A0_2 l0_2.length c0_2] 26 (0, 0)) (by (with_reducible repeat (first | refine blk_drewN ?_ _ | refine blk_drew ?_ | refine blk_alloc ?_ _)); exact BK475.out) hb); have n4_ := Aside0.mk (blk_below (g := gb476) (o := .cells #[.int .i8 a1_0, .int .i16 a1_1] 44 (0, 0)) (by (with_reducible repeat (first | refine blk_drewN ?_ _ | refine blk_drew ?_ | refine blk_alloc ?_ _)); exact BK476.out) hb); have n5_ := Aside0.mk (blk_below (g := gb477) (o := .cells #[.int .i8 a2_0, .int .i16 a2_1] 44 (0, 0)) (by (with_reducible repeat (first | refine blk_drewN ?_ _ | refine blk_drew ?_ | refine blk_alloc ?_ _)); exact BK477.out) hb); have n6_ := Aside0.mk (below_step (by repeat (first | (with_reducible first | exact HB.out | apply below_alloc | apply pw_below_drewN | apply below_drew1 | refine below_set ?_ GE475.out | refine below_set ?_ GE476.out | refine below_set ?_ GE477.out) | exact HB.out)) hb); clear HO483; clear HO490; clear BK475; clear BK476; clear BK477; clear HB; have HO483 := n0_; have HO490 := n1_; have HO496 := n2_; have BK475 := n3_; have BK476 := n4_; have BK477 := n5_; have HB := n6_; clear n0_ n1_ n2_ n3_ n4_ n5_ n6_; (try clear hb); (try clear hb2); (try clear hk); (try clear hi); (try clear ho0)) | ((with_reducible refine gate_dst (N := 10) rfl ?_); refine box_event ?hg (N := 10) ?hd (cs := #[.int .i8 0, .int .i16 0, .slice none 0 0]) (t := 31) ?hr ?_; (case hd => rfl); (case hg => rfl); (case hr => first | (go_simp; done) | (go_simp; rfl)); intro gb497 hg w37 hbox hb; have n0_ := Aside0.mk (Kd.R_below (by (with_reducible repeat (first | apply Kd.R_alloc | apply Kd.R_drewN | apply Kd.R_drew)); exact HO483.out) hb); have n1_ := Aside0.mk (Kd.R_below (by (with_reducible repeat (first | apply Kd.R_alloc | apply Kd.R_drewN | apply Kd.R_drew)); exact HO490.out) hb); have n2_ := Aside0.mk (Kd.R_below (by (with_reducible repeat (first | apply Kd.R_alloc | apply Kd.R_drewN | apply Kd.R_drew)); exact HO496.out) hb); have n3_ := Aside0.mk (blk_below (g := gb475) (o := .cells #[.int .i8 a0_0, .int .i16 a0_1, .slice A0_2 l0_2.length c0_2] 26 (0, 0)) (by (with_reducible repeat (first | refine blk_drewN ?_ _ | refine blk_drew ?_ | refine blk_alloc ?_ _)); exact BK475.out) hb); have n4_ := Aside0.mk (blk_below (g := gb476) (o := .cells #[.int .i8 a1_0, .int .i16 a1_1] 44 (0, 0)) (by (with_reducible repeat (first | refine blk_drewN ?_ _ | refine blk_drew ?_ | refine blk_alloc ?_ _)); exact BK476.out) hb); have n5_ := Aside0.mk (blk_below (g := gb477) (o := .cells #[.int .i8 a2_0, .int .i16 a2_1] 44 (0, 0)) (by (with_reducible repeat (first | refine blk_drewN ?_ _ | refine blk_drew ?_ | refine blk_alloc ?_ _)); exact BK477.out) hb); have n6_ := Aside0.mk (below_step (by repeat (first | (with_reducible first | exact HB.out | apply below_alloc | apply pw_below_drewN | apply below_drew1 | refine below_set ?_ GE475.out | refine below_set ?_ GE476.out | refine below_set ?_ GE477.out) | exact HB.out)) hb); have n7_ := Aside0.mk (hbox); have n8_ := Aside0.mk ((by rw [hg]; exact (below_size (by repeat (first | (with_reducible first | exact HB.out | apply below_alloc | apply pw_below_drewN | apply below_drew1 | refine below_set ?_ GE475.out | refine below_set ?_ GE476.out | refine below_set ?_ GE477.out) | exact HB.out))) : w.heap.size ≤ gb497)); have n9_ := Aside0.mk ((by rw [hg]; exact (below_size (by repeat (first | (with_reducible first | exact HB.out | apply below_alloc | apply pw_below_drewN | apply below_drew1 | refine below_set ?_ GE475.out | refine below_set ?_ GE476.out | refine below_set ?_ GE477.out) | exact HB.out))) : w.heap.size ≤ gb497)); have n10_ := Aside0.mk ((by rw [hg]; exact Nat.ne_of_lt (blk_lt (g := gb475) (o := .cells #[.int .i8 a0_0, .int .i16 a0_1, .slice A0_2 l0_2.length c0_2] 26 (0, 0)) (by (with_reducible repeat (first | refine blk_drewN ?_ _ | refine blk_drew ?_ | refine blk_alloc ?_ _)); exact BK475.out)) : gb475 ≠ gb497)); have n11_ := Aside0.mk ((by rw [hg]; exact Nat.ne_of_gt (blk_lt (g := gb475) (o := .cells #[.int .i8 a0_0, .int .i16 a0_1, .slice A0_2 l0_2.length c0_2] 26 (0, 0)) (by (with_reducible repeat (first | refine blk_drewN ?_ _ | refine blk_drew ?_ | refine blk_alloc ?_ _)); exact BK475.out)) : gb497 ≠ gb475)); have n12_ := Aside0.mk ((by rw [hg]; exact Nat.ne_of_lt (blk_lt (g := gb476) (o := .cells #[.int .i8 a1_0, .int .i16 a1_1] 44 (0, 0)) (by (with_reducible repeat (first | refine blk_drewN ?_ _ | refine blk_drew ?_ | refine blk_alloc ?_ _)); exact BK476.out)) : gb476 ≠ gb497)); have n13_ := Aside0.mk ((by rw [hg]; exact Nat.ne_of_gt (blk_lt (g := gb476) (o := .cells #[.int .i8 a1_0, .int .i16 a1_1] 44 (0, 0)) (by (with_reducible repeat (first | refine blk_drewN ?_ _ | refine blk_drew ?_ | refine blk_alloc ?_ _)); exact BK476.out)) : gb497 ≠ gb476)); have n14_ := Aside0.mk ((by rw [hg]; exact Nat.ne_of_lt (blk_lt (g := gb477) (o := .cells #[.int .i8 a2_0, .int .i16 a2_1] 44 (0, 0)) (by (with_reducible repeat (first | refine blk_drewN ?_ _ | refine blk_drew ?_ | refine blk_alloc ?_ _)); exact BK477.out)) : gb477 ≠ gb497)); have n15_ := Aside0.mk ((by rw [hg]; exact Nat.ne_of_gt (blk_lt (g := gb477) (o := .cells #[.int .i8 a2_0, .int .i16 a2_1] 44 (0, 0)) (by (with_reducible repeat (first | refine blk_drewN ?_ _ | refine blk_drew ?_ | refine blk_alloc ?_ _)); exact BK477.out)) : gb497 ≠ gb477)); clear HO483; clear HO490; clear HO496; clear BK475; clear BK476; clear BK477; clear HB; have HO483 := n0_; have HO490 := n1_; have HO496 := n2_; have BK475 := n3_; have BK476 := n4_; have BK477 := n5_; have HB := n6_; have BK497 := n7_; have GW497 := n8_; have GE497 := n9_; have NB475_497 := n10_; have NB497_475 := n11_; have NB476_497 := n12_; have NB497_476 := n13_; have NB477_497 := n14_; have NB497_477 := n15_; clear n0_ n1_ n2_ n3_ n4_ n5_ n6_ n7_ n8_ n9_ n10_ n11_ n12_ n13_ n14_ n15_; clear hb hbox hg; have hnb38 := NB497_475.out; have hnc38 := NB475_497.out; have hnb39 := NB497_476.out; have hnc39 := NB476_497.out; have hnb40 := NB497_477.out; have hnc40 := NB477_497.out; have hcz41_0 : w37.cell? ⟨gb497, 0, none⟩ = some (.int .i8 0) := (blk_cell BK497.out 0).trans rfl; have hcz41_1 : w37.cell? ⟨gb497, 1, none⟩ = some (.int .i16 0) := (blk_cell BK497.out 1).trans rfl; have hcz41_2 : w37.cell? ⟨gb497, 2, none⟩ = some (.slice none 0 0) := (blk_cell BK497.out 2).trans rfl; have hfz41_0 := blk_frozen BK497.out 0; have hfz41_1 := blk_frozen BK497.out 1; have hfz41_2 := blk_frozen BK497.out 2; obtain ⟨Ao42, co42, eo42⟩ := Kd.R_slice HO496.out; subst eo42))
    have n0_ : Aside0 (Kd.R k82 82 (((w37.setCell ⟨gb497, 0, none⟩ (.int .i8 t492)).setCell ⟨gb497, 1, none⟩ (.int .i16 t493)).setCell ⟨gb497, 2, none⟩ (.slice Ao42 t494.length co42)) w.heap.size (fun k_ => some k_ ≠ (.slice Ao42 t494.length co42 : Value).ownBlock) (.slice Ao33 t481.length co33) t481) := ⟨by (with_reducible repeat (first | apply Kd.R_alloc | apply Kd.R_drewN | apply Kd.R_drew)); exact Kd.R_mono (Kd.R_far (p := ⟨gb497, 2, none⟩) (Kd.R_far (p := ⟨gb497, 1, none⟩) (Kd.R_far (p := ⟨gb497, 0, none⟩) (Kd.R_types HO483.out BK497.out (by decide)) (fun _ hk => hk.2) (.int .i8 t492)) (fun _ hk => hk.2) (.int .i16 t493)) (fun _ hk => hk.2) (.slice Ao42 t494.length co42)) (fun _ hk => hk.1.2)⟩
    have n1_ : Aside0 (Kd.R (Kd.int .i64) 2 (((w37.setCell ⟨gb497, 0, none⟩ (.int .i8 t492)).setCell ⟨gb497, 1, none⟩ (.int .i16 t493)).setCell ⟨gb497, 2, none⟩ (.slice Ao42 t494.length co42)) w.heap.size (fun _ => True) v489 t488) := ⟨by (with_reducible repeat (first | apply Kd.R_alloc | apply Kd.R_drewN | apply Kd.R_drew)); exact Kd.R_mono (Kd.R_far (p := ⟨gb497, 2, none⟩) (Kd.R_far (p := ⟨gb497, 1, none⟩) (Kd.R_far (p := ⟨gb497, 0, none⟩) (Kd.R_types HO490.out BK497.out (by decide)) (fun _ hk => hk.2) (.int .i8 t492)) (fun _ hk => hk.2) (.int .i16 t493)) (fun _ hk => hk.2) (.slice Ao42 t494.length co42)) (fun _ hk => trivial)⟩
    have n2_ : Aside0 (Kd.R k82 82 (((w37.setCell ⟨gb497, 0, none⟩ (.int .i8 t492)).setCell ⟨gb497, 1, none⟩ (.int .i16 t493)).setCell ⟨gb497, 2, none⟩ (.slice Ao42 t494.length co42)) w.heap.size (fun k_ => some k_ ≠ (.slice Ao33 t481.length co33 : Value).ownBlock) (.slice Ao42 t494.length co42) t494) := ⟨by (with_reducible repeat (first | apply Kd.R_alloc | apply Kd.R_drewN | apply Kd.R_drew)); exact Kd.R_mono (Kd.R_far (p := ⟨gb497, 2, none⟩) (Kd.R_far (p := ⟨gb497, 1, none⟩) (Kd.R_far (p := ⟨gb497, 0, none⟩) (Kd.R_types HO496.out BK497.out (by decide)) (fun _ hk => hk.2) (.int .i8 t492)) (fun _ hk => hk.2) (.int .i16 t493)) (fun _ hk => hk.2) (.slice Ao42 t494.length co42)) (fun _ hk => hk.1.2)⟩
    have n3_ : Aside0 ((((w37.setCell ⟨gb497, 0, none⟩ (.int .i8 t492)).setCell ⟨gb497, 1, none⟩ (.int .i16 t493)).setCell ⟨gb497, 2, none⟩ (.slice Ao42 t494.length co42)).heap[gb475]? = some (.cells #[.int .i8 a0_0, .int .i16 a0_1, .slice A0_2 l0_2.length c0_2] 26 (0, 0))) := ⟨by (with_reducible repeat (first | refine blk_drewN ?_ _ | refine blk_drew ?_ | refine blk_alloc ?_ _)); refine blk_far ?_ NB475_497.out _; (with_reducible repeat (first | refine blk_drewN ?_ _ | refine blk_drew ?_ | refine blk_alloc ?_ _)); refine blk_far ?_ NB475_497.out _; (with_reducible repeat (first | refine blk_drewN ?_ _ | refine blk_drew ?_ | refine blk_alloc ?_ _)); refine blk_far ?_ NB475_497.out _; (with_reducible repeat (first | refine blk_drewN ?_ _ | refine blk_drew ?_ | refine blk_alloc ?_ _)); exact BK475.out⟩
    have n4_ : Aside0 ((((w37.setCell ⟨gb497, 0, none⟩ (.int .i8 t492)).setCell ⟨gb497, 1, none⟩ (.int .i16 t493)).setCell ⟨gb497, 2, none⟩ (.slice Ao42 t494.length co42)).heap[gb476]? = some (.cells #[.int .i8 a1_0, .int .i16 a1_1] 44 (0, 0))) := ⟨by (with_reducible repeat (first | refine blk_drewN ?_ _ | refine blk_drew ?_ | refine blk_alloc ?_ _)); refine blk_far ?_ NB476_497.out _; (with_reducible repeat (first | refine blk_drewN ?_ _ | refine blk_drew ?_ | refine blk_alloc ?_ _)); refine blk_far ?_ NB476_497.out _; (with_reducible repeat (first | refine blk_drewN ?_ _ | refine blk_drew ?_ | refine blk_alloc ?_ _)); refine blk_far ?_ NB476_497.out _; (with_reducible repeat (first | refine blk_drewN ?_ _ | refine blk_drew ?_ | refine blk_alloc ?_ _)); exact BK476.out⟩
    have n5_ : Aside0 ((((w37.setCell ⟨gb497, 0, none⟩ (.int .i8 t492)).setCell ⟨gb497, 1, none⟩ (.int .i16 t493)).setCell ⟨gb497, 2, none⟩ (.slice Ao42 t494.length co42)).heap[gb477]? = some (.cells #[.int .i8 a2_0, .int .i16 a2_1] 44 (0, 0))) := ⟨by (with_reducible repeat (first | refine blk_drewN ?_ _ | refine blk_drew ?_ | refine blk_alloc ?_ _)); refine blk_far ?_ NB477_497.out _; (with_reducible repeat (first | refine blk_drewN ?_ _ | refine blk_drew ?_ | refine blk_alloc ?_ _)); refine blk_far ?_ NB477_497.out _; (with_reducible repeat (first | refine blk_drewN ?_ _ | refine blk_drew ?_ | refine blk_alloc ?_ _)); refine blk_far ?_ NB477_497.out _; (with_reducible repeat (first | refine blk_drewN ?_ _ | refine blk_drew ?_ | refine blk_alloc ?_ _)); exact BK477.out⟩
    have n6_ : Aside0 ((((w37.setCell ⟨gb497, 0, none⟩ (.int .i8 t492)).setCell ⟨gb497, 1, none⟩ (.int .i16 t493)).setCell ⟨gb497, 2, none⟩ (.slice Ao42 t494.length co42)).heap[gb497]? = some (.cells #[.int .i8 t492, .int .i16 t493, .slice Ao42 t494.length co42] 31 (0, 0))) := ⟨by (with_reducible repeat (first | refine blk_drewN ?_ _ | refine blk_drew ?_ | refine blk_alloc ?_ _)); refine blk_put (cs := #[.int .i8 t492, .int .i16 t493, .slice none 0 0]) ?_ 2 _ rfl; (with_reducible repeat (first | refine blk_drewN ?_ _ | refine blk_drew ?_ | refine blk_alloc ?_ _)); refine blk_put (cs := #[.int .i8 t492, .int .i16 0, .slice none 0 0]) ?_ 1 _ rfl; (with_reducible repeat (first | refine blk_drewN ?_ _ | refine blk_drew ?_ | refine blk_alloc ?_ _)); refine blk_put (cs := #[.int .i8 0, .int .i16 0, .slice none 0 0]) ?_ 0 _ rfl; (with_reducible repeat (first | refine blk_drewN ?_ _ | refine blk_drew ?_ | refine blk_alloc ?_ _)); exact BK497.out⟩
    have n7_ : Aside0 (Below w.heap.size w (((w37.setCell ⟨gb497, 0, none⟩ (.int .i8 t492)).setCell ⟨gb497, 1, none⟩ (.int .i16 t493)).setCell ⟨gb497, 2, none⟩ (.slice Ao42 t494.length co42))) := ⟨by repeat (first | (with_reducible first | exact HB.out | apply below_alloc | apply pw_below_drewN | apply below_drew1 | refine below_set ?_ GE475.out | refine below_set ?_ GE476.out | refine below_set ?_ GE477.out | refine below_set ?_ GE497.out) | exact HB.out)⟩
    (try clear HO483)
    (try clear HO490)
    (try clear HO496)
    (try clear BK475)
    (try clear BK476)
    (try clear BK477)
    (try clear BK497)
    (try clear HB)
    generalize (((w37.setCell ⟨gb497, 0, none⟩ (.int .i8 t492)).setCell ⟨gb497, 1, none⟩ (.int .i16 t493)).setCell ⟨gb497, 2, none⟩ (.slice Ao42 t494.length co42)) = w43 at n0_ n1_ n2_ n3_ n4_ n5_ n6_ n7_ ⊢
    have HO483 := n0_
    have HO490 := n1_
    have HO496 := n2_
    have BK475 := n3_
    have BK476 := n4_
    have BK477 := n5_
    have BK497 := n6_
    have HB := n7_
    clear n0_ n1_ n2_ n3_ n4_ n5_ n6_ n7_
    have n0_ := Aside0.mk (Kd.R_drew HO483.out)
    have n1_ := Aside0.mk (Kd.R_drew HO490.out)
    have n2_ := Aside0.mk (Kd.R_drew HO496.out)
    have n3_ := Aside0.mk (blk_drew BK475.out)
    have n4_ := Aside0.mk (blk_drew BK476.out)
    have n5_ := Aside0.mk (blk_drew BK477.out)
    have n6_ := Aside0.mk (blk_drew BK497.out)
    have n7_ := Aside0.mk (below_drew1 HB.out)
    clear HO483
    clear HO490
    clear HO496
    clear BK475
    clear BK476
    clear BK477
    clear BK497
    clear HB
    have HO483 := n0_
    have HO490 := n1_
    have HO496 := n2_
    have BK475 := n3_
    have BK476 := n4_
    have BK477 := n5_
    have BK497 := n6_
    have HB := n7_
    clear n0_ n1_ n2_ n3_ n4_ n5_ n6_ n7_
    refine start_ (n := 11) (S := fun w' => w'.cell? ⟨gb497, 0, none⟩ = some (.int .i8 t492) ∧ w'.cell? ⟨gb497, 1, none⟩ = some (.int .i16 t493) ∧ w'.cell? ⟨gb497, 2, none⟩ = some (.slice Ao42 t494.length co42) ∧ w'.cell? ⟨gb476, 0, none⟩ = some (.int .i8 a1_0) ∧ w'.cell? ⟨gb476, 1, none⟩ = some (.int .i16 a1_1) ∧ w'.cell? ⟨gb477, 0, none⟩ = some (.int .i8 a2_0) ∧ w'.cell? ⟨gb477, 1, none⟩ = some (.int .i16 a2_1)) (ds := []) #[false, false, false, false, false, false, false, false, false, false, false] (by kernel_rfl) rfl rfl ⟨(blk_cell BK497.out 0).trans rfl, (blk_cell BK497.out 1).trans rfl, (blk_cell BK497.out 2).trans rfl, (blk_cell BK476.out 0).trans rfl, (blk_cell BK476.out 1).trans rfl, (blk_cell BK477.out 0).trans rfl, (blk_cell BK477.out 1).trans rfl⟩ (fun hHeld => ?_); refine with_tabW laws_FnExactMustPass.tab7 laws_FnExactMustPass.bits7 (fun HT_ HW_ => ?_)
    generalize w43.drew = w44 at HO483 HO490 HO496 BK475 BK476 BK477 BK497 HB hHeld ⊢
    refine take_ (i := 0) (N := some 36) (v := ?_) (a' := ?_) #[true, false, false, false, false, false, false, false, false, false, false] rfl rfl (take_ofW HT_.out HW_.out (by kernel_rfl)) (fun _ _ _ h => h) (Or.inl ⟨by rfl, ?_⟩) hHeld ?_ ?_
    rotate_left
    · rintro w' ⟨s0, s1, s2, s3, s4, s5, s6⟩
      go_simp
      with_reducible rfl
    rotate_left
    · simp only [Act.put, List.setIfInBounds_toArray, List.set_cons_zero, List.set_cons_succ, i64_w, i32_w]
      rfl
    refine take_ (i := 1) (N := some 37) (v := ?_) (a' := ?_) #[true, true, false, false, false, false, false, false, false, false, false] rfl rfl (take_ofW HT_.out HW_.out (by kernel_rfl)) (fun _ _ _ h => h) (Or.inl ⟨by rfl, ?_⟩) hHeld ?_ ?_
    rotate_left
    · rintro w' ⟨s0, s1, s2, s3, s4, s5, s6⟩
      go_simp
      with_reducible rfl
    rotate_left
    · simp only [Act.put, List.setIfInBounds_toArray, List.set_cons_zero, List.set_cons_succ, i64_w, i32_w]
      rfl
    refine take_ (i := 3) (N := some 39) (v := ?_) (a' := ?_) #[true, true, false, true, false, false, false, false, false, false, false] rfl rfl (take_ofW HT_.out HW_.out (by kernel_rfl)) (fun _ _ _ h => h) (Or.inl ⟨by rfl, ?_⟩) hHeld ?_ ?_
    rotate_left
    · rintro w' ⟨s0, s1, s2, s3, s4, s5, s6⟩
      go_simp
      with_reducible rfl
    rotate_left
    · simp only [Act.put, List.setIfInBounds_toArray, List.set_cons_zero, List.set_cons_succ, i64_w, i32_w]
      rfl
    refine one_ (i := 2) (N := some 38) #[true, true, true, true, false, false, false, false, false, false, false] rfl rfl (one_of HT_.out (by kernel_rfl)) (by decide) (fun K hK => ?_)
    refine goes_ Try.func29 (by kernel_rfl) rfl #[.agg #[.int .i8 a1_0, .int .i16 a1_1]] (by rfl) rfl rfl (by (try simp only [List.map_toArray, List.map_cons, List.map_nil]); first | done | rfl | (simp only [List.length_drop, List.length_take]; rfl)) ?_
    with_reducible refine (laws_toScan.calls a1_0 a1_1 t498 t499 _ A18.out).mono ?_
    rintro e w45 ⟨rfl, hb⟩
    refine ⟨_, rfl, ?_⟩
    have n0_ := Aside0.mk (Kd.R_below (by (with_reducible repeat (first | apply Kd.R_alloc | apply Kd.R_drewN | apply Kd.R_drew)); exact HO483.out) hb)
    have n1_ := Aside0.mk (Kd.R_below (by (with_reducible repeat (first | apply Kd.R_alloc | apply Kd.R_drewN | apply Kd.R_drew)); exact HO490.out) hb)
    have n2_ := Aside0.mk (Kd.R_below (by (with_reducible repeat (first | apply Kd.R_alloc | apply Kd.R_drewN | apply Kd.R_drew)); exact HO496.out) hb)
    have n3_ := Aside0.mk (blk_below (g := gb475) (o := .cells #[.int .i8 a0_0, .int .i16 a0_1, .slice A0_2 l0_2.length c0_2] 26 (0, 0)) (by (with_reducible repeat (first | refine blk_drewN ?_ _ | refine blk_drew ?_ | refine blk_alloc ?_ _)); exact BK475.out) hb)
    have n4_ := Aside0.mk (blk_below (g := gb476) (o := .cells #[.int .i8 a1_0, .int .i16 a1_1] 44 (0, 0)) (by (with_reducible repeat (first | refine blk_drewN ?_ _ | refine blk_drew ?_ | refine blk_alloc ?_ _)); exact BK476.out) hb)
    have n5_ := Aside0.mk (blk_below (g := gb477) (o := .cells #[.int .i8 a2_0, .int .i16 a2_1] 44 (0, 0)) (by (with_reducible repeat (first | refine blk_drewN ?_ _ | refine blk_drew ?_ | refine blk_alloc ?_ _)); exact BK477.out) hb)
    have n6_ := Aside0.mk (blk_below (g := gb497) (o := .cells #[.int .i8 t492, .int .i16 t493, .slice Ao42 t494.length co42] 31 (0, 0)) (by (with_reducible repeat (first | refine blk_drewN ?_ _ | refine blk_drew ?_ | refine blk_alloc ?_ _)); exact BK497.out) hb)
    have n7_ := Aside0.mk (below_step (by repeat (first | (with_reducible first | exact HB.out | apply below_alloc | apply pw_below_drewN | apply below_drew1 | refine below_set ?_ GE475.out | refine below_set ?_ GE476.out | refine below_set ?_ GE477.out | refine below_set ?_ GE497.out) | exact HB.out)) hb)
    clear HO483
    clear HO490
    clear HO496
    clear BK475
    clear BK476
    clear BK477
    clear BK497
    clear HB
    have HO483 := n0_
    have HO490 := n1_
    have HO496 := n2_
    have BK475 := n3_
    have BK476 := n4_
    have BK477 := n5_
    have BK497 := n6_
    have HB := n7_
    clear n0_ n1_ n2_ n3_ n4_ n5_ n6_ n7_
    (try clear hb)
    (try clear hb2)
    (try clear hk)
    (try clear hi)
    refine hK.out _ _ ⟨(blk_cell BK497.out 0).trans rfl, (blk_cell BK497.out 1).trans rfl, (blk_cell BK497.out 2).trans rfl, (blk_cell BK476.out 0).trans rfl, (blk_cell BK476.out 1).trans rfl, (blk_cell BK477.out 0).trans rfl, (blk_cell BK477.out 1).trans rfl⟩ (fun hHeld => ?_)
    clear hK K
    refine norm_ (a' := ?_) ?_ ?_
    rotate_left
    · show Act.put _ (some 38) _ = _
      simp only [Act.put, List.setIfInBounds_toArray, List.set_cons_zero, List.set_cons_succ, i64_w, i32_w]
      rfl
    refine one_ (i := 4) (N := some 40) #[true, true, true, true, true, false, false, false, false, false, false] rfl rfl (one_of HT_.out (by kernel_rfl)) (by decide) (fun K hK => ?_)
    refine goes_ Try.func29 (by kernel_rfl) rfl #[.agg #[.int .i8 a2_0, .int .i16 a2_1]] (by rfl) rfl rfl (by (try simp only [List.map_toArray, List.map_cons, List.map_nil]); first | done | rfl | (simp only [List.length_drop, List.length_take]; rfl)) ?_
    with_reducible refine (laws_toScan.calls a2_0 a2_1 t500 t501 _ A19.out).mono ?_
    rintro e w46 ⟨rfl, hb⟩
    refine ⟨_, rfl, ?_⟩
    have n0_ := Aside0.mk (Kd.R_below (by (with_reducible repeat (first | apply Kd.R_alloc | apply Kd.R_drewN | apply Kd.R_drew)); exact HO483.out) hb)
    have n1_ := Aside0.mk (Kd.R_below (by (with_reducible repeat (first | apply Kd.R_alloc | apply Kd.R_drewN | apply Kd.R_drew)); exact HO490.out) hb)
    have n2_ := Aside0.mk (Kd.R_below (by (with_reducible repeat (first | apply Kd.R_alloc | apply Kd.R_drewN | apply Kd.R_drew)); exact HO496.out) hb)
    have n3_ := Aside0.mk (blk_below (g := gb475) (o := .cells #[.int .i8 a0_0, .int .i16 a0_1, .slice A0_2 l0_2.length c0_2] 26 (0, 0)) (by (with_reducible repeat (first | refine blk_drewN ?_ _ | refine blk_drew ?_ | refine blk_alloc ?_ _)); exact BK475.out) hb)
    have n4_ := Aside0.mk (blk_below (g := gb476) (o := .cells #[.int .i8 a1_0, .int .i16 a1_1] 44 (0, 0)) (by (with_reducible repeat (first | refine blk_drewN ?_ _ | refine blk_drew ?_ | refine blk_alloc ?_ _)); exact BK476.out) hb)
    have n5_ := Aside0.mk (blk_below (g := gb477) (o := .cells #[.int .i8 a2_0, .int .i16 a2_1] 44 (0, 0)) (by (with_reducible repeat (first | refine blk_drewN ?_ _ | refine blk_drew ?_ | refine blk_alloc ?_ _)); exact BK477.out) hb)
    have n6_ := Aside0.mk (blk_below (g := gb497) (o := .cells #[.int .i8 t492, .int .i16 t493, .slice Ao42 t494.length co42] 31 (0, 0)) (by (with_reducible repeat (first | refine blk_drewN ?_ _ | refine blk_drew ?_ | refine blk_alloc ?_ _)); exact BK497.out) hb)
    have n7_ := Aside0.mk (below_step (by repeat (first | (with_reducible first | exact HB.out | apply below_alloc | apply pw_below_drewN | apply below_drew1 | refine below_set ?_ GE475.out | refine below_set ?_ GE476.out | refine below_set ?_ GE477.out | refine below_set ?_ GE497.out) | exact HB.out)) hb)
    clear HO483
    clear HO490
    clear HO496
    clear BK475
    clear BK476
    clear BK477
    clear BK497
    clear HB
    have HO483 := n0_
    have HO490 := n1_
    have HO496 := n2_
    have BK475 := n3_
    have BK476 := n4_
    have BK477 := n5_
    have BK497 := n6_
    have HB := n7_
    clear n0_ n1_ n2_ n3_ n4_ n5_ n6_ n7_
    (try clear hb)
    (try clear hb2)
    (try clear hk)
    (try clear hi)
    refine hK.out _ _ ⟨(blk_cell BK497.out 0).trans rfl, (blk_cell BK497.out 1).trans rfl, (blk_cell BK497.out 2).trans rfl, (blk_cell BK476.out 0).trans rfl, (blk_cell BK476.out 1).trans rfl, (blk_cell BK477.out 0).trans rfl, (blk_cell BK477.out 1).trans rfl⟩ (fun hHeld => ?_)
    clear hK K
    refine norm_ (a' := ?_) ?_ ?_
    rotate_left
    · show Act.put _ (some 40) _ = _
      simp only [Act.put, List.setIfInBounds_toArray, List.set_cons_zero, List.set_cons_succ, i64_w, i32_w]
      rfl
    refine one_ (i := 5) (N := some 41) #[true, true, true, true, true, true, false, false, false, false, false] rfl rfl (one_of HT_.out (by kernel_rfl)) (by decide) (fun K hK => ?_)
    refine goes_ Try.func49 (by kernel_rfl) rfl #[.agg #[.int .i8 t492, .int .i16 t493, .slice Ao42 t494.length co42], .agg #[.int .i8 t498, .int .i16 t499], .agg #[.int .i8 t500, .int .i16 t501]] (by rfl) rfl rfl (by (try simp only [List.map_toArray, List.map_cons, List.map_nil]); first | done | rfl | (simp only [List.length_drop, List.length_take]; rfl)) ?_
    with_reducible refine (impl_MustPass.calls t492 t493 _ _ t494 t498 t499 t500 t501 t502 t505 _ ?side1 ?side2 A20.out).mono ?_
    (case side1 => repeat (first | exact (Kd.R_reads' HO496.out).2.2 | (with_reducible refine Kd.C_alloc ?_ _) | (with_reducible refine Kd.C_drewN ?_ _) | (with_reducible refine Kd.C_drew ?_)))
    (case side2 => exact (Kd.R_reads' HO496.out).2.1)
    rintro e w47 ⟨v503, rfl, ho0, hb⟩
    refine ⟨_, rfl, ?_⟩
    have n0_ := Aside0.mk (Kd.R_below (by (with_reducible repeat (first | apply Kd.R_alloc | apply Kd.R_drewN | apply Kd.R_drew)); exact HO483.out) hb)
    have n1_ := Aside0.mk (Kd.R_elder' (by (with_reducible repeat (first | apply Kd.R_alloc | apply Kd.R_drewN | apply Kd.R_drew)); exact HO490.out) (Kd.R_base ho0) hb)
    have n2_ := Aside0.mk (Kd.R_below (by (with_reducible repeat (first | apply Kd.R_alloc | apply Kd.R_drewN | apply Kd.R_drew)); exact HO496.out) hb)
    have n3_ := Aside0.mk (Kd.R_lower (Kd.R_new' ho0 (Kd.R_lt (by (with_reducible repeat (first | apply Kd.R_alloc | apply Kd.R_drewN | apply Kd.R_drew)); exact HO490.out))) (below_size (by repeat (first | (with_reducible first | exact HB.out | apply below_alloc | apply pw_below_drewN | apply below_drew1 | refine below_set ?_ GE475.out | refine below_set ?_ GE476.out | refine below_set ?_ GE477.out | refine below_set ?_ GE497.out) | exact HB.out))))
    have n4_ := Aside0.mk (blk_below (g := gb475) (o := .cells #[.int .i8 a0_0, .int .i16 a0_1, .slice A0_2 l0_2.length c0_2] 26 (0, 0)) (by (with_reducible repeat (first | refine blk_drewN ?_ _ | refine blk_drew ?_ | refine blk_alloc ?_ _)); exact BK475.out) hb)
    have n5_ := Aside0.mk (blk_below (g := gb476) (o := .cells #[.int .i8 a1_0, .int .i16 a1_1] 44 (0, 0)) (by (with_reducible repeat (first | refine blk_drewN ?_ _ | refine blk_drew ?_ | refine blk_alloc ?_ _)); exact BK476.out) hb)
    have n6_ := Aside0.mk (blk_below (g := gb477) (o := .cells #[.int .i8 a2_0, .int .i16 a2_1] 44 (0, 0)) (by (with_reducible repeat (first | refine blk_drewN ?_ _ | refine blk_drew ?_ | refine blk_alloc ?_ _)); exact BK477.out) hb)
    have n7_ := Aside0.mk (blk_below (g := gb497) (o := .cells #[.int .i8 t492, .int .i16 t493, .slice Ao42 t494.length co42] 31 (0, 0)) (by (with_reducible repeat (first | refine blk_drewN ?_ _ | refine blk_drew ?_ | refine blk_alloc ?_ _)); exact BK497.out) hb)
    have n8_ := Aside0.mk (below_step (by repeat (first | (with_reducible first | exact HB.out | apply below_alloc | apply pw_below_drewN | apply below_drew1 | refine below_set ?_ GE475.out | refine below_set ?_ GE476.out | refine below_set ?_ GE477.out | refine below_set ?_ GE497.out) | exact HB.out)) hb)
    clear HO483
    clear HO490
    clear HO496
    clear BK475
    clear BK476
    clear BK477
    clear BK497
    clear HB
    have HO483 := n0_
    have HO490 := n1_
    have HO496 := n2_
    have HO504 := n3_
    have BK475 := n4_
    have BK476 := n5_
    have BK477 := n6_
    have BK497 := n7_
    have HB := n8_
    clear n0_ n1_ n2_ n3_ n4_ n5_ n6_ n7_ n8_
    (try clear hb)
    (try clear hb2)
    (try clear hk)
    (try clear hi)
    (try clear ho0)
    refine hK.out _ _ ⟨(blk_cell BK497.out 0).trans rfl, (blk_cell BK497.out 1).trans rfl, (blk_cell BK497.out 2).trans rfl, (blk_cell BK476.out 0).trans rfl, (blk_cell BK476.out 1).trans rfl, (blk_cell BK477.out 0).trans rfl, (blk_cell BK477.out 1).trans rfl⟩ (fun hHeld => ?_)
    clear hK K
    refine norm_ (a' := ?_) ?_ ?_
    rotate_left
    · show Act.put _ (some 41) _ = _
      simp only [Act.put, List.setIfInBounds_toArray, List.set_cons_zero, List.set_cons_succ, i64_w, i32_w]
      rfl
    refine pure_ (i := 6) (N := some 35) (v := ?_) (a' := ?_) #[true, true, true, true, true, true, true, false, false, false, false] rfl rfl (any_of HT_.out (by kernel_rfl)) (fun _ _ _ h => h) (Or.inl ⟨by rfl, ?_⟩) ?_ ?_
    rotate_left
    · intro w'
      go_simp
      with_reducible rfl
    rotate_left
    · simp only [Act.put, List.setIfInBounds_toArray, List.set_cons_zero, List.set_cons_succ, i64_w, i32_w]
      rfl
    refine pure_ (i := 7) (N := some 42) (v := ?_) (a' := ?_) #[true, true, true, true, true, true, true, true, false, false, false] rfl rfl (any_of HT_.out (by kernel_rfl)) (fun _ _ _ h => h) (Or.inl ⟨by rfl, ?_⟩) ?_ ?_
    rotate_left
    · intro w'
      go_simp
      with_reducible rfl
    rotate_left
    · simp only [Act.put, List.setIfInBounds_toArray, List.set_cons_zero, List.set_cons_succ, i64_w, i32_w]
      rfl
    refine pure_ (i := 8) (N := some 43) (v := ?_) (a' := ?_) #[true, true, true, true, true, true, true, true, true, false, false] rfl rfl (any_of HT_.out (by kernel_rfl)) (fun _ _ _ h => h) (Or.inl ⟨by rfl, ?_⟩) ?_ ?_
    rotate_left
    · intro w'
      go_simp
      with_reducible rfl
    rotate_left
    · simp only [Act.put, List.setIfInBounds_toArray, List.set_cons_zero, List.set_cons_succ, i64_w, i32_w]
      rfl
    refine pure_ (i := 9) (N := some 11) (v := ?_) (a' := ?_) #[true, true, true, true, true, true, true, true, true, true, false] rfl rfl (any_of HT_.out (by kernel_rfl)) (fun _ _ _ h => h) (Or.inl ⟨by rfl, ?_⟩) ?_ ?_
    rotate_left
    · intro w'
      go_simp
      with_reducible rfl
    rotate_left
    · simp only [Act.put, List.setIfInBounds_toArray, List.set_cons_zero, List.set_cons_succ, i64_w, i32_w]
      rfl
    refine pure_ (i := 10) (N := some 12) (v := ?_) (a' := ?_) #[true, true, true, true, true, true, true, true, true, true, true] rfl rfl (any_of HT_.out (by kernel_rfl)) (fun _ _ _ h => h) (Or.inl ⟨by rfl, ?_⟩) ?_ ?_
    rotate_left
    · intro w'
      go_simp
      with_reducible rfl
    rotate_left
    · simp only [Act.put, List.setIfInBounds_toArray, List.set_cons_zero, List.set_cons_succ, i64_w, i32_w]
      rfl
    refine done_ (done_of HT_.out (by kernel_rfl)) ?_
    go_upto_region 8 with (fail)
    go_cut [52] (fun v52 wc => ∃ (kq : Nat) (x52_20 : Bool), v52 = .bool x52_20 ∧ Aside0 (laws_FnExactMustPass.j0 kq t488 t491 t502 t505 x52_20 a0_0 a0_1 l0_2 a1_0 a1_1 a2_0 a2_1 t492 t493 t494 = some r) ∧ Aside0 (kq ≤ k) ∧ Aside0 (Kd.R (Kd.int .i64) 2 wc w.heap.size (fun k_ => some k_ ≠ (v503 : Value).ownBlock) v489 t488) ∧ Aside0 (Kd.R (Kd.int .i64) 2 wc w.heap.size (fun k_ => some k_ ≠ (v489 : Value).ownBlock) v503 t502) ∧ Aside0 (Kd.R k82 82 wc w.heap.size (fun _ => True) (.slice Ao42 t494.length co42) t494) ∧ Aside0 (wc.heap[gb475]? = some (.cells #[.int .i8 a0_0, .int .i16 a0_1, (.slice A0_2 l0_2.length c0_2)] 26 (0, 0))) ∧ Aside0 (wc.heap[gb476]? = some (.cells #[.int .i8 a1_0, .int .i16 a1_1] 44 (0, 0))) ∧ Aside0 (wc.heap[gb477]? = some (.cells #[.int .i8 a2_0, .int .i16 a2_1] 44 (0, 0))) ∧ Aside0 (wc.heap[gb497]? = some (.cells #[.int .i8 t492, .int .i16 t493, (.slice Ao42 t494.length co42)] 31 (0, 0))) ∧ Aside0 (Below w.heap.size w wc))
    case first =>
      have H := HC21.out
      clear HC21
      replace H := Option.bind_eq_some_iff.mp H
      obtain ⟨t506, A480, H⟩ := H
      replace H : (if t506 = true then (laws_FnExactMustPass.j0 k t488 t491 t502 t505 (t505 != t491) a0_0 a0_1 l0_2 a1_0 a1_1 a2_0 a2_1 t492 t493 t494) else (laws_FnExactMustPass.j0 k t488 t491 t502 t505 true a0_0 a0_1 l0_2 a1_0 a1_1 a2_0 a2_1 t492 t493 t494)) = some r := H
      have A48 := Aside0.mk A480
      clear A480
      by_cases c49 : t506 = true
      · subst c49
        have H1 : (laws_FnExactMustPass.j0 k t488 t491 t502 t505 (t505 != t491) a0_0 a0_1 l0_2 a1_0 a1_1 a2_0 a2_1 t492 t493 t494) = some r := by rw [if_pos rfl] at H; exact H
        clear H
        have H := H1
        clear H1
        have H' := Aside0.mk H
        clear H
        obtain ⟨Ao50, co50, eo50⟩ := Kd.R_slice HO504.out
        subst eo50
        obtain ⟨Ao51, co51, eo51⟩ := Kd.R_slice HO490.out
        subst eo51
        go_wp2_with (first | ((with_reducible refine gate_callee (f := 24) rfl ?_); refine goesL_ (some 46) rfl rfl Try.func24 (by kernel_rfl) rfl #[.slice Ao50 t502.length co50, .slice Ao51 t488.length co51] rfl (by (try simp only [List.map_toArray, List.map_cons, List.map_nil]); first | done | rfl | (simp only [List.length_drop, List.length_take]; rfl)) ?_; (with_reducible refine (laws_eqInt64S.calls k _ _ t502 _ _ t488 true _ ?side1 ?side2 ?side3 ?side4 A48.out).mono ?_); (case side1 => repeat (first | exact (Kd.R_reads' HO504.out).2.2 | (with_reducible refine Kd.C_alloc ?_ _) | (with_reducible refine Kd.C_drewN ?_ _) | (with_reducible refine Kd.C_drew ?_))); (case side2 => exact (Kd.R_reads' HO504.out).2.1); (case side3 => repeat (first | exact (Kd.R_reads' HO490.out).2.2 | (with_reducible refine Kd.C_alloc ?_ _) | (with_reducible refine Kd.C_drewN ?_ _) | (with_reducible refine Kd.C_drew ?_))); (case side4 => exact (Kd.R_reads' HO490.out).2.1); rintro e w' ⟨rfl, ⟨nd, rfl⟩⟩; refine ⟨_, rfl, ?_⟩))
        go_meet
        case rel => exact ⟨_, ((t505 != t491)), (by first | rfl | (simp; done) | (simp [*]; done)), H', ⟨by first | omega | exact Nat.le_refl _⟩, ⟨by (with_reducible repeat (first | apply Kd.R_alloc | apply Kd.R_drewN | apply Kd.R_drew)); exact Kd.R_mono HO490.out (fun _ hk => hk.2)⟩, ⟨by (with_reducible repeat (first | apply Kd.R_alloc | apply Kd.R_drewN | apply Kd.R_drew)); exact Kd.R_mono HO504.out (fun _ hk => hk.2)⟩, ⟨by (with_reducible repeat (first | apply Kd.R_alloc | apply Kd.R_drewN | apply Kd.R_drew)); exact Kd.R_mono HO496.out (fun _ hk => trivial)⟩, ⟨by (with_reducible repeat (first | refine blk_drewN ?_ _ | refine blk_drew ?_ | refine blk_alloc ?_ _)); exact BK475.out⟩, ⟨by (with_reducible repeat (first | refine blk_drewN ?_ _ | refine blk_drew ?_ | refine blk_alloc ?_ _)); exact BK476.out⟩, ⟨by (with_reducible repeat (first | refine blk_drewN ?_ _ | refine blk_drew ?_ | refine blk_alloc ?_ _)); exact BK477.out⟩, ⟨by (with_reducible repeat (first | refine blk_drewN ?_ _ | refine blk_drew ?_ | refine blk_alloc ?_ _)); exact BK497.out⟩, ⟨by repeat (first | (with_reducible first | exact HB.out | apply below_alloc | apply pw_below_drewN | apply below_drew1 | refine below_set ?_ GE475.out | refine below_set ?_ GE476.out | refine below_set ?_ GE477.out | refine below_set ?_ GE497.out) | exact HB.out)⟩⟩
      · replace c49 := Bool.eq_false_iff.mpr c49
        subst c49
        have H1 : (laws_FnExactMustPass.j0 k t488 t491 t502 t505 true a0_0 a0_1 l0_2 a1_0 a1_1 a2_0 a2_1 t492 t493 t494) = some r := by rw [if_neg (show ¬ (false = true) by decide)] at H; exact H
        clear H
        have H := H1
        clear H1
        have H' := Aside0.mk H
        clear H
        obtain ⟨Ao52, co52, eo52⟩ := Kd.R_slice HO504.out
        subst eo52
        obtain ⟨Ao53, co53, eo53⟩ := Kd.R_slice HO490.out
        subst eo53
        go_wp2_with (first | ((with_reducible refine gate_callee (f := 24) rfl ?_); refine goesL_ (some 46) rfl rfl Try.func24 (by kernel_rfl) rfl #[.slice Ao52 t502.length co52, .slice Ao53 t488.length co53] rfl (by (try simp only [List.map_toArray, List.map_cons, List.map_nil]); first | done | rfl | (simp only [List.length_drop, List.length_take]; rfl)) ?_; (with_reducible refine (laws_eqInt64S.calls k _ _ t502 _ _ t488 false _ ?side1 ?side2 ?side3 ?side4 A48.out).mono ?_); (case side1 => repeat (first | exact (Kd.R_reads' HO504.out).2.2 | (with_reducible refine Kd.C_alloc ?_ _) | (with_reducible refine Kd.C_drewN ?_ _) | (with_reducible refine Kd.C_drew ?_))); (case side2 => exact (Kd.R_reads' HO504.out).2.1); (case side3 => repeat (first | exact (Kd.R_reads' HO490.out).2.2 | (with_reducible refine Kd.C_alloc ?_ _) | (with_reducible refine Kd.C_drewN ?_ _) | (with_reducible refine Kd.C_drew ?_))); (case side4 => exact (Kd.R_reads' HO490.out).2.1); rintro e w' ⟨rfl, ⟨nd, rfl⟩⟩; refine ⟨_, rfl, ?_⟩))
        go_meet
        case rel => exact ⟨_, (true), (by first | rfl | (simp; done) | (simp [*]; done)), H', ⟨by first | omega | exact Nat.le_refl _⟩, ⟨by (with_reducible repeat (first | apply Kd.R_alloc | apply Kd.R_drewN | apply Kd.R_drew)); exact Kd.R_mono HO490.out (fun _ hk => hk.2)⟩, ⟨by (with_reducible repeat (first | apply Kd.R_alloc | apply Kd.R_drewN | apply Kd.R_drew)); exact Kd.R_mono HO504.out (fun _ hk => hk.2)⟩, ⟨by (with_reducible repeat (first | apply Kd.R_alloc | apply Kd.R_drewN | apply Kd.R_drew)); exact Kd.R_mono HO496.out (fun _ hk => trivial)⟩, ⟨by (with_reducible repeat (first | refine blk_drewN ?_ _ | refine blk_drew ?_ | refine blk_alloc ?_ _)); exact BK475.out⟩, ⟨by (with_reducible repeat (first | refine blk_drewN ?_ _ | refine blk_drew ?_ | refine blk_alloc ?_ _)); exact BK476.out⟩, ⟨by (with_reducible repeat (first | refine blk_drewN ?_ _ | refine blk_drew ?_ | refine blk_alloc ?_ _)); exact BK477.out⟩, ⟨by (with_reducible repeat (first | refine blk_drewN ?_ _ | refine blk_drew ?_ | refine blk_alloc ?_ _)); exact BK497.out⟩, ⟨by repeat (first | (with_reducible first | exact HB.out | apply below_alloc | apply pw_below_drewN | apply below_drew1 | refine below_set ?_ GE475.out | refine below_set ?_ GE476.out | refine below_set ?_ GE477.out | refine below_set ?_ GE497.out) | exact HB.out)⟩⟩
    case rest =>
      clear HC21
      try clear c1
      try clear c2
      try clear p2
      try clear c3
      try clear c4
      try clear c5
      try clear c5b0
      try clear c9
      try clear c10
      try clear c12
      try clear c15
      try clear c17
      try clear c24
      try clear c25
      try clear c26
      try clear c29
      try clear c38
      try clear c39
      try clear c40
      try clear c48
      try clear c49
      try clear hcz11_0
      try clear hcz11_1
      try clear hcz11_2
      try clear hcz27_0
      try clear hcz27_1
      try clear hcz27_2
      try clear hcz35_0
      try clear hcz35_1
      try clear hcz35_2
      try clear hcz41_0
      try clear hcz41_1
      try clear hcz41_2
      try clear hfz11_0
      try clear hfz11_1
      try clear hfz11_2
      try clear hfz27_0
      try clear hfz27_1
      try clear hfz27_2
      try clear hfz35_0
      try clear hfz35_1
      try clear hfz35_2
      try clear hfz41_0
      try clear hfz41_1
      try clear hfz41_2
      obtain ⟨kq, x52_20, rfl, HA, HJ20, HO_8, HO_11, HO_498002, BK475, BK476, BK477, BK497, HB⟩ := hcut
      cases kq with
      | zero => exact absurd HA.out (by simp [laws_FnExactMustPass.j0])
      | succ kj20 =>
        have H := HA.out
        clear HA
        simp only [laws_FnExactMustPass.j0] at H
        by_cases c54 : x52_20 = true
        · subst c54
          have H1 : (some false) = some r := by rw [if_pos rfl] at H; exact H
          clear H
          have H := H1
          clear H1
          obtain rfl := Option.some.inj H
          go_wp2
          go_ret
          exact ⟨by first | rfl | (simp [errW_none, errW_some] <;> rfl) | (simp [*, errW_none, errW_some] <;> rfl), by repeat (first | (with_reducible first | exact HB.out | apply below_alloc | apply pw_below_drewN | apply below_drew1 | refine below_set ?_ GE475.out | refine below_set ?_ GE476.out | refine below_set ?_ GE477.out | refine below_set ?_ GE497.out) | exact HB.out)⟩
        · replace c54 := Bool.eq_false_iff.mpr c54
          subst c54
          have H1 : ((laws_toNet.f kj20 a0_0 a0_1 l0_2).bind fun bt507 => ((laws_eqNet.f kj20 t492 t493 t494 bt507.1 bt507.2.1 bt507.2.2).bind fun t512 => (if t512 = true then ((laws_markNet.f kj20 t492 t493 t494 1).bind fun bt513 => (if bt513.1 < 0 then (laws_FnExactMustPass.j1 kj20 t488 t491 t502 true a0_0 a0_1 l0_2 a1_0 a1_1 a2_0 a2_1) else ((laws_eqInt64S.f kj20 t502 t488).bind fun t515 => (if t515 = true then (laws_FnExactMustPass.j1 kj20 t488 t491 t502 (t505 != t491) a0_0 a0_1 l0_2 a1_0 a1_1 a2_0 a2_1) else (laws_FnExactMustPass.j1 kj20 t488 t491 t502 true a0_0 a0_1 l0_2 a1_0 a1_1 a2_0 a2_1))))) else (some false)))) = some r := by rw [if_neg (show ¬ (false = true) by decide)] at H; exact H
          clear H
          have H := H1
          clear H1
          replace H := Option.bind_eq_some_iff.mp H
          obtain ⟨⟨t507, t508, t509⟩, A550, H⟩ := H
          replace H : ((laws_eqNet.f kj20 t492 t493 t494 t507 t508 t509).bind fun t512 => (if t512 = true then ((laws_markNet.f kj20 t492 t493 t494 1).bind fun bt513 => (if bt513.1 < 0 then (laws_FnExactMustPass.j1 kj20 t488 t491 t502 true a0_0 a0_1 l0_2 a1_0 a1_1 a2_0 a2_1) else ((laws_eqInt64S.f kj20 t502 t488).bind fun t515 => (if t515 = true then (laws_FnExactMustPass.j1 kj20 t488 t491 t502 (t505 != t491) a0_0 a0_1 l0_2 a1_0 a1_1 a2_0 a2_1) else (laws_FnExactMustPass.j1 kj20 t488 t491 t502 true a0_0 a0_1 l0_2 a1_0 a1_1 a2_0 a2_1))))) else (some false))) = some r := H
          have A55 := Aside0.mk A550
          clear A550
          replace H := Option.bind_eq_some_iff.mp H
          obtain ⟨t512, A560, H⟩ := H
          replace H : (if t512 = true then ((laws_markNet.f kj20 t492 t493 t494 1).bind fun bt513 => (if bt513.1 < 0 then (laws_FnExactMustPass.j1 kj20 t488 t491 t502 true a0_0 a0_1 l0_2 a1_0 a1_1 a2_0 a2_1) else ((laws_eqInt64S.f kj20 t502 t488).bind fun t515 => (if t515 = true then (laws_FnExactMustPass.j1 kj20 t488 t491 t502 (t505 != t491) a0_0 a0_1 l0_2 a1_0 a1_1 a2_0 a2_1) else (laws_FnExactMustPass.j1 kj20 t488 t491 t502 true a0_0 a0_1 l0_2 a1_0 a1_1 a2_0 a2_1))))) else (some false)) = some r := H
          have A56 := Aside0.mk A560
          clear A560
          by_cases c57 : t512 = true
          · subst c57
            have H1 : ((laws_markNet.f kj20 t492 t493 t494 1).bind fun bt513 => (if bt513.1 < 0 then (laws_FnExactMustPass.j1 kj20 t488 t491 t502 true a0_0 a0_1 l0_2 a1_0 a1_1 a2_0 a2_1) else ((laws_eqInt64S.f kj20 t502 t488).bind fun t515 => (if t515 = true then (laws_FnExactMustPass.j1 kj20 t488 t491 t502 (t505 != t491) a0_0 a0_1 l0_2 a1_0 a1_1 a2_0 a2_1) else (laws_FnExactMustPass.j1 kj20 t488 t491 t502 true a0_0 a0_1 l0_2 a1_0 a1_1 a2_0 a2_1))))) = some r := by rw [if_pos rfl] at H; exact H
            clear H
            have H := H1
            clear H1
            replace H := Option.bind_eq_some_iff.mp H
            obtain ⟨⟨t513, t514⟩, A580, H⟩ := H
            replace H : (if t513 < 0 then (laws_FnExactMustPass.j1 kj20 t488 t491 t502 true a0_0 a0_1 l0_2 a1_0 a1_1 a2_0 a2_1) else ((laws_eqInt64S.f kj20 t502 t488).bind fun t515 => (if t515 = true then (laws_FnExactMustPass.j1 kj20 t488 t491 t502 (t505 != t491) a0_0 a0_1 l0_2 a1_0 a1_1 a2_0 a2_1) else (laws_FnExactMustPass.j1 kj20 t488 t491 t502 true a0_0 a0_1 l0_2 a1_0 a1_1 a2_0 a2_1)))) = some r := H
            have A58 := Aside0.mk A580
            clear A580
            have HC59 := Aside0.mk H
            clear H
            try go_wp2
            have n0_ := Aside0.mk (Kd.R_drew HO_8.out)
            have n1_ := Aside0.mk (Kd.R_drew HO_11.out)
            have n2_ := Aside0.mk (Kd.R_drew HO_498002.out)
            have n3_ := Aside0.mk (blk_drew BK475.out)
            have n4_ := Aside0.mk (blk_drew BK476.out)
            have n5_ := Aside0.mk (blk_drew BK477.out)
            have n6_ := Aside0.mk (blk_drew BK497.out)
            have n7_ := Aside0.mk (below_drew1 HB.out)
            clear HO_8
            clear HO_11
            clear HO_498002
            clear BK475
            clear BK476
            clear BK477
            clear BK497
            clear HB
            have HO_8 := n0_
            have HO_11 := n1_
            have HO_498002 := n2_
            have BK475 := n3_
            have BK476 := n4_
            have BK477 := n5_
            have BK497 := n6_
            have HB := n7_
            clear n0_ n1_ n2_ n3_ n4_ n5_ n6_ n7_
            refine start_ (n := 5) (S := fun w' => w'.cell? ⟨gb497, 0, none⟩ = some (.int .i8 t492) ∧ w'.cell? ⟨gb497, 1, none⟩ = some (.int .i16 t493) ∧ w'.cell? ⟨gb497, 2, none⟩ = some (.slice Ao42 t494.length co42) ∧ w'.cell? ⟨gb475, 0, none⟩ = some (.int .i8 a0_0) ∧ w'.cell? ⟨gb475, 1, none⟩ = some (.int .i16 a0_1) ∧ w'.cell? ⟨gb475, 2, none⟩ = some (.slice A0_2 l0_2.length c0_2)) (ds := []) #[false, false, false, false, false] (by kernel_rfl) rfl rfl ⟨(blk_cell BK497.out 0).trans rfl, (blk_cell BK497.out 1).trans rfl, (blk_cell BK497.out 2).trans rfl, (blk_cell BK475.out 0).trans rfl, (blk_cell BK475.out 1).trans rfl, (blk_cell BK475.out 2).trans rfl⟩ (fun hHeld => ?_)
            generalize wc.drew = w60 at HO_8 HO_11 HO_498002 BK475 BK476 BK477 BK497 HB hHeld ⊢
            refine take_ (i := 0) (N := some 53) (v := ?_) (a' := ?_) #[true, false, false, false, false] rfl rfl (by kernel_rfl) (fun _ _ _ h => h) (Or.inl ⟨by rfl, ?_⟩) hHeld ?_ ?_
            rotate_left
            · rintro w' ⟨s0, s1, s2, s3, s4, s5⟩
              go_simp
              with_reducible rfl
            rotate_left
            · simp only [Act.put, List.setIfInBounds_toArray, List.set_cons_zero, List.set_cons_succ, i64_w, i32_w]
              rfl
            refine take_ (i := 1) (N := some 54) (v := ?_) (a' := ?_) #[true, true, false, false, false] rfl rfl (by kernel_rfl) (fun _ _ _ h => h) (Or.inl ⟨by rfl, ?_⟩) hHeld ?_ ?_
            rotate_left
            · rintro w' ⟨s0, s1, s2, s3, s4, s5⟩
              go_simp
              with_reducible rfl
            rotate_left
            · simp only [Act.put, List.setIfInBounds_toArray, List.set_cons_zero, List.set_cons_succ, i64_w, i32_w]
              rfl
            refine one_ (i := 2) (N := some 55) #[true, true, true, false, false] rfl rfl (by kernel_rfl) (by decide) (fun K hK => ?_)
            refine goes_ Try.func17 (by kernel_rfl) rfl #[.agg #[.int .i8 a0_0, .int .i16 a0_1, .slice A0_2 l0_2.length c0_2]] (by rfl) rfl rfl (by (try simp only [List.map_toArray, List.map_cons, List.map_nil]); first | done | rfl | (simp only [List.length_drop, List.length_take]; rfl)) ?_
            with_reducible refine (laws_toNet.calls kj20 a0_0 a0_1 _ _ l0_2 t507 t508 t509 _ ?side1 ?side2 A55.out).mono ?_
            (case side1 => repeat (first | exact (Kd.C_below HR0_2.out HB.out) | (with_reducible refine Kd.C_alloc ?_ _) | (with_reducible refine Kd.C_drewN ?_ _) | (with_reducible refine Kd.C_drew ?_)))
            (case side2 => exact HC0_2.out)
            rintro e w61 ⟨v510, rfl, ho0, hb⟩
            refine ⟨_, rfl, ?_⟩
            have n0_ := Aside0.mk (Kd.R_below (by (with_reducible repeat (first | apply Kd.R_alloc | apply Kd.R_drewN | apply Kd.R_drew)); exact HO_8.out) hb)
            have n1_ := Aside0.mk (Kd.R_below (by (with_reducible repeat (first | apply Kd.R_alloc | apply Kd.R_drewN | apply Kd.R_drew)); exact HO_11.out) hb)
            have n2_ := Aside0.mk (Kd.R_elder' (by (with_reducible repeat (first | apply Kd.R_alloc | apply Kd.R_drewN | apply Kd.R_drew)); exact HO_498002.out) (Kd.R_base ho0) hb)
            have n3_ := Aside0.mk (Kd.R_lower (Kd.R_new' ho0 (Kd.R_lt (by (with_reducible repeat (first | apply Kd.R_alloc | apply Kd.R_drewN | apply Kd.R_drew)); exact HO_498002.out))) (below_size (by repeat (first | (with_reducible first | exact HB.out | apply below_alloc | apply pw_below_drewN | apply below_drew1 | refine below_set ?_ GE475.out | refine below_set ?_ GE476.out | refine below_set ?_ GE477.out | refine below_set ?_ GE497.out) | exact HB.out))))
            have n4_ := Aside0.mk (blk_below (g := gb475) (o := .cells #[.int .i8 a0_0, .int .i16 a0_1, .slice A0_2 l0_2.length c0_2] 26 (0, 0)) (by (with_reducible repeat (first | refine blk_drewN ?_ _ | refine blk_drew ?_ | refine blk_alloc ?_ _)); exact BK475.out) hb)
            have n5_ := Aside0.mk (blk_below (g := gb476) (o := .cells #[.int .i8 a1_0, .int .i16 a1_1] 44 (0, 0)) (by (with_reducible repeat (first | refine blk_drewN ?_ _ | refine blk_drew ?_ | refine blk_alloc ?_ _)); exact BK476.out) hb)
            have n6_ := Aside0.mk (blk_below (g := gb477) (o := .cells #[.int .i8 a2_0, .int .i16 a2_1] 44 (0, 0)) (by (with_reducible repeat (first | refine blk_drewN ?_ _ | refine blk_drew ?_ | refine blk_alloc ?_ _)); exact BK477.out) hb)
            have n7_ := Aside0.mk (blk_below (g := gb497) (o := .cells #[.int .i8 t492, .int .i16 t493, .slice Ao42 t494.length co42] 31 (0, 0)) (by (with_reducible repeat (first | refine blk_drewN ?_ _ | refine blk_drew ?_ | refine blk_alloc ?_ _)); exact BK497.out) hb)
            have n8_ := Aside0.mk (below_step (by repeat (first | (with_reducible first | exact HB.out | apply below_alloc | apply pw_below_drewN | apply below_drew1 | refine below_set ?_ GE475.out | refine below_set ?_ GE476.out | refine below_set ?_ GE477.out | refine below_set ?_ GE497.out) | exact HB.out)) hb)
            clear HO_8
            clear HO_11
            clear HO_498002
            clear BK475
            clear BK476
            clear BK477
            clear BK497
            clear HB
            have HO_8 := n0_
            have HO_11 := n1_
            have HO_498002 := n2_
            have HO511 := n3_
            have BK475 := n4_
            have BK476 := n5_
            have BK477 := n6_
            have BK497 := n7_
            have HB := n8_
            clear n0_ n1_ n2_ n3_ n4_ n5_ n6_ n7_ n8_
            (try clear hb)
            (try clear hb2)
            (try clear hk)
            (try clear hi)
            (try clear ho0)
            obtain ⟨Ao62, co62, eo62⟩ := Kd.R_slice HO511.out
            (first | subst eo62 | (injection eo62 with f1_ f2_ f3_; have f4_ := f1_.symm; have f5_ := f3_.symm; clear f1_ f2_ f3_; subst f4_; subst f5_))
            refine hK.out _ _ ⟨(blk_cell BK497.out 0).trans rfl, (blk_cell BK497.out 1).trans rfl, (blk_cell BK497.out 2).trans rfl, (blk_cell BK475.out 0).trans rfl, (blk_cell BK475.out 1).trans rfl, (blk_cell BK475.out 2).trans rfl⟩ (fun hHeld => ?_)
            clear hK K
            refine norm_ (a' := ?_) ?_ ?_
            rotate_left
            · show Act.put _ (some 55) _ = _
              simp only [Act.put, List.setIfInBounds_toArray, List.set_cons_zero, List.set_cons_succ, i64_w, i32_w]
              rfl
            refine one_ (i := 3) (N := some 56) #[true, true, true, true, false] rfl rfl (by kernel_rfl) (by decide) (fun K hK => ?_)
            refine goes_ Try.func19 (by kernel_rfl) rfl #[.agg #[.int .i8 t492, .int .i16 t493, .slice Ao42 t494.length co42], .agg #[.int .i8 t507, .int .i16 t508, .slice Ao62 t509.length co62]] (by rfl) rfl rfl (by (try simp only [List.map_toArray, List.map_cons, List.map_nil]); first | done | rfl | (simp only [List.length_drop, List.length_take]; rfl)) ?_
            with_reducible refine (laws_eqNet.calls kj20 t492 t493 _ _ t494 t507 t508 _ _ t509 true _ ?side1 ?side2 ?side3 ?side4 A56.out).mono ?_
            (case side1 => repeat (first | exact (Kd.R_reads' HO_498002.out).2.2 | (with_reducible refine Kd.C_alloc ?_ _) | (with_reducible refine Kd.C_drewN ?_ _) | (with_reducible refine Kd.C_drew ?_)))
            (case side2 => exact (Kd.R_reads' HO_498002.out).2.1)
            (case side3 => repeat (first | exact (Kd.R_reads' HO511.out).2.2 | (with_reducible refine Kd.C_alloc ?_ _) | (with_reducible refine Kd.C_drewN ?_ _) | (with_reducible refine Kd.C_drew ?_)))
            (case side4 => exact (Kd.R_reads' HO511.out).2.1)
            rintro e w63 ⟨rfl, hb⟩
            refine ⟨_, rfl, ?_⟩
            have n0_ := Aside0.mk (Kd.R_below (by (with_reducible repeat (first | apply Kd.R_alloc | apply Kd.R_drewN | apply Kd.R_drew)); exact HO_8.out) hb)
            have n1_ := Aside0.mk (Kd.R_below (by (with_reducible repeat (first | apply Kd.R_alloc | apply Kd.R_drewN | apply Kd.R_drew)); exact HO_11.out) hb)
            have n2_ := Aside0.mk (Kd.R_below (by (with_reducible repeat (first | apply Kd.R_alloc | apply Kd.R_drewN | apply Kd.R_drew)); exact HO_498002.out) hb)
            have n3_ := Aside0.mk (Kd.R_below (by (with_reducible repeat (first | apply Kd.R_alloc | apply Kd.R_drewN | apply Kd.R_drew)); exact HO511.out) hb)
            have n4_ := Aside0.mk (blk_below (g := gb475) (o := .cells #[.int .i8 a0_0, .int .i16 a0_1, .slice A0_2 l0_2.length c0_2] 26 (0, 0)) (by (with_reducible repeat (first | refine blk_drewN ?_ _ | refine blk_drew ?_ | refine blk_alloc ?_ _)); exact BK475.out) hb)
            have n5_ := Aside0.mk (blk_below (g := gb476) (o := .cells #[.int .i8 a1_0, .int .i16 a1_1] 44 (0, 0)) (by (with_reducible repeat (first | refine blk_drewN ?_ _ | refine blk_drew ?_ | refine blk_alloc ?_ _)); exact BK476.out) hb)
            have n6_ := Aside0.mk (blk_below (g := gb477) (o := .cells #[.int .i8 a2_0, .int .i16 a2_1] 44 (0, 0)) (by (with_reducible repeat (first | refine blk_drewN ?_ _ | refine blk_drew ?_ | refine blk_alloc ?_ _)); exact BK477.out) hb)
            have n7_ := Aside0.mk (blk_below (g := gb497) (o := .cells #[.int .i8 t492, .int .i16 t493, .slice Ao42 t494.length co42] 31 (0, 0)) (by (with_reducible repeat (first | refine blk_drewN ?_ _ | refine blk_drew ?_ | refine blk_alloc ?_ _)); exact BK497.out) hb)
            have n8_ := Aside0.mk (below_step (by repeat (first | (with_reducible first | exact HB.out | apply below_alloc | apply pw_below_drewN | apply below_drew1 | refine below_set ?_ GE475.out | refine below_set ?_ GE476.out | refine below_set ?_ GE477.out | refine below_set ?_ GE497.out) | exact HB.out)) hb)
            clear HO_8
            clear HO_11
            clear HO_498002
            clear HO511
            clear BK475
            clear BK476
            clear BK477
            clear BK497
            clear HB
            have HO_8 := n0_
            have HO_11 := n1_
            have HO_498002 := n2_
            have HO511 := n3_
            have BK475 := n4_
            have BK476 := n5_
            have BK477 := n6_
            have BK497 := n7_
            have HB := n8_
            clear n0_ n1_ n2_ n3_ n4_ n5_ n6_ n7_ n8_
            (try clear hb)
            (try clear hb2)
            (try clear hk)
            (try clear hi)
            refine hK.out _ _ ⟨(blk_cell BK497.out 0).trans rfl, (blk_cell BK497.out 1).trans rfl, (blk_cell BK497.out 2).trans rfl, (blk_cell BK475.out 0).trans rfl, (blk_cell BK475.out 1).trans rfl, (blk_cell BK475.out 2).trans rfl⟩ (fun hHeld => ?_)
            clear hK K
            refine norm_ (a' := ?_) ?_ ?_
            rotate_left
            · show Act.put _ (some 56) _ = _
              simp only [Act.put, List.setIfInBounds_toArray, List.set_cons_zero, List.set_cons_succ, i64_w, i32_w]
              rfl
            refine pure_ (i := 4) (N := some 57) (v := ?_) (a' := ?_) #[true, true, true, true, true] rfl rfl (by kernel_rfl) (fun _ _ _ h => h) (Or.inl ⟨by rfl, ?_⟩) ?_ ?_
            rotate_left
            · intro w'
              go_simp
              with_reducible rfl
            rotate_left
            · simp only [Act.put, List.setIfInBounds_toArray, List.set_cons_zero, List.set_cons_succ, i64_w, i32_w]
              rfl
            refine done_ (by kernel_rfl) ?_
            have hnb64 := NB497_475.out
            have hnc64 := NB475_497.out
            have hnb65 := NB497_476.out
            have hnc65 := NB476_497.out
            have hnb66 := NB497_477.out
            have hnc66 := NB477_497.out
            have hcz67_0 : w63.cell? ⟨gb497, 0, none⟩ = some (.int .i8 t492) := (blk_cell BK497.out 0).trans rfl
            have hcz67_1 : w63.cell? ⟨gb497, 1, none⟩ = some (.int .i16 t493) := (blk_cell BK497.out 1).trans rfl
            have hcz67_2 : w63.cell? ⟨gb497, 2, none⟩ = some (.slice Ao42 t494.length co42) := (blk_cell BK497.out 2).trans rfl
            have hfz67_0 := blk_frozen BK497.out 0
            have hfz67_1 := blk_frozen BK497.out 1
            have hfz67_2 := blk_frozen BK497.out 2
            go_upto_region 14 with (first | ((with_reducible refine gate_callee (f := 25) rfl ?_); refine goesL_ (some 60) rfl rfl Try.func25 (by kernel_rfl) rfl #[.agg #[.int .i8 t492, .int .i16 t493, .slice Ao42 t494.length co42], .int .i64 1] rfl (by (try simp only [List.map_toArray, List.map_cons, List.map_nil]); first | done | rfl | (simp only [List.length_drop, List.length_take]; rfl)) ?_; (with_reducible refine (laws_markNet.calls kj20 t492 t493 (fun k_ => some k_ = (.slice Ao42 t494.length co42 : Value).ownBlock) (.slice Ao42 t494.length co42) t494 1 t513 t514 w _ ?side1 ?side2 A58.out).mono ?_); (case side1 => repeat (first | (with_reducible first | exact HB.out | apply below_alloc | apply pw_below_drewN | apply below_drew1 | refine below_set ?_ GE475.out | refine below_set ?_ GE476.out | refine below_set ?_ GE477.out | refine below_set ?_ GE497.out) | exact HB.out)); (case side2 => exact Kd.R_tight rfl HO_498002.out); rintro e w68 ⟨rfl, hy0, hb, hkp⟩; refine ⟨_, rfl, ?_⟩; have n0_ := Aside0.mk (Kd.R_mono (ok' := fun k_ => some k_ ≠ (v503 : Value).ownBlock) (Kd.R_keptB ((Kd.R_apart' HO_8.out (Kd.R_typed HO_498002.out) (by decide))) hkp (fun k_ hk_ hs_ => (hk_.2) hs_)) (fun k_ hk_ => hk_.1.1)); have n1_ := Aside0.mk (Kd.R_mono (ok' := fun k_ => some k_ ≠ (v489 : Value).ownBlock) (Kd.R_keptB ((Kd.R_apart' HO_11.out (Kd.R_typed HO_498002.out) (by decide))) hkp (fun k_ hk_ hs_ => (hk_.2) hs_)) (fun k_ hk_ => hk_.1.1)); have n2_ := Aside0.mk (Kd.R_reok rfl hy0 (fun k_ e_ => HO_498002.out.1 k_ e_)); have n3_ := Aside0.mk (blk_kept (by (with_reducible repeat (first | refine blk_drewN ?_ _ | refine blk_drew ?_ | refine blk_alloc ?_ _)); exact BK475.out) hkp (fun hs_ => (fun e_ => (Kd.R_ne HO_498002.out BK475.out (by decide)) e_) hs_)); have n4_ := Aside0.mk (blk_kept (by (with_reducible repeat (first | refine blk_drewN ?_ _ | refine blk_drew ?_ | refine blk_alloc ?_ _)); exact BK476.out) hkp (fun hs_ => (fun e_ => (Kd.R_ne HO_498002.out BK476.out (by decide)) e_) hs_)); have n5_ := Aside0.mk (blk_kept (by (with_reducible repeat (first | refine blk_drewN ?_ _ | refine blk_drew ?_ | refine blk_alloc ?_ _)); exact BK477.out) hkp (fun hs_ => (fun e_ => (Kd.R_ne HO_498002.out BK477.out (by decide)) e_) hs_)); have n6_ := Aside0.mk (blk_kept (by (with_reducible repeat (first | refine blk_drewN ?_ _ | refine blk_drew ?_ | refine blk_alloc ?_ _)); exact BK497.out) hkp (fun hs_ => (fun e_ => (Kd.R_ne HO_498002.out BK497.out (by decide)) e_) hs_)); have n7_ := Aside0.mk (Kd.R_mono (ok' := fun k_ => some k_ ≠ (.slice Ao42 t494.length co42 : Value).ownBlock) (Kd.R_keptB (HO511.out) hkp (fun k_ hk_ hs_ => (hk_.2) hs_)) (fun k_ hk_ => hk_.1.2)); have n8_ := Aside0.mk (hb); clear HO_8; clear HO_11; clear HO_498002; clear BK475; clear BK476; clear BK477; clear BK497; clear HO511; clear HB; have HO_8 := n0_; have HO_11 := n1_; have HO_498002 := n2_; have BK475 := n3_; have BK476 := n4_; have BK477 := n5_; have BK497 := n6_; have HO511 := n7_; have HB := n8_; clear n0_ n1_ n2_ n3_ n4_ n5_ n6_ n7_ n8_; (try clear hb); (try clear hkp); (try clear hy0)))
            (try simp only [Act.put, List.setIfInBounds_toArray, List.set_cons_zero, List.set_cons_succ])
            go_cut [73] (fun v73 wc => ∃ (kq : Nat) (x73_58 : Bool), v73 = .bool x73_58 ∧ Aside0 (laws_FnExactMustPass.j1 kq t488 t491 t502 x73_58 a0_0 a0_1 l0_2 a1_0 a1_1 a2_0 a2_1 = some r) ∧ Aside0 (kq ≤ kj20) ∧ Aside0 (Kd.R (Kd.int .i64) 2 wc w.heap.size (fun k_ => some k_ ≠ (v503 : Value).ownBlock) v489 t488) ∧ Aside0 (Kd.R (Kd.int .i64) 2 wc w.heap.size (fun k_ => some k_ ≠ (v489 : Value).ownBlock) v503 t502) ∧ Aside0 (Kd.R k82 82 wc w.heap.size (fun _ => True) (.slice Ao42 t494.length co42) t514) ∧ Aside0 (wc.heap[gb475]? = some (.cells #[.int .i8 a0_0, .int .i16 a0_1, (.slice A0_2 l0_2.length c0_2)] 26 (0, 0))) ∧ Aside0 (wc.heap[gb476]? = some (.cells #[.int .i8 a1_0, .int .i16 a1_1] 44 (0, 0))) ∧ Aside0 (wc.heap[gb477]? = some (.cells #[.int .i8 a2_0, .int .i16 a2_1] 44 (0, 0))) ∧ Aside0 (wc.heap[gb497]? = some (.cells #[.int .i8 t492, .int .i16 t493, (.slice Ao42 t494.length co42)] 31 (0, 0))) ∧ Aside0 (Below w.heap.size w wc))
            case first =>
              have H := HC59.out
              clear HC59
              by_cases c69 : t513 < 0
              · rw [if_pos c69] at H
                have c69b0 : decide (t513 < 0) = true := decide_eq_true c69
                clear c69
                (first | rw [c69b0] | (simp only [i64_w, i32_w]; rw [c69b0]) | skip)
                have H' := Aside0.mk H
                clear H
                go_wp2
                go_meet
                case rel => exact ⟨_, (true), (by first | rfl | (simp; done) | (simp [*]; done)), H', ⟨by have := HJ20.out; first | omega | exact Nat.le_refl _⟩, ⟨by (with_reducible repeat (first | apply Kd.R_alloc | apply Kd.R_drewN | apply Kd.R_drew)); exact HO_8.out⟩, ⟨by (with_reducible repeat (first | apply Kd.R_alloc | apply Kd.R_drewN | apply Kd.R_drew)); exact HO_11.out⟩, ⟨by (with_reducible repeat (first | apply Kd.R_alloc | apply Kd.R_drewN | apply Kd.R_drew)); exact Kd.R_mono HO_498002.out (fun _ hk => trivial)⟩, ⟨by (with_reducible repeat (first | refine blk_drewN ?_ _ | refine blk_drew ?_ | refine blk_alloc ?_ _)); exact BK475.out⟩, ⟨by (with_reducible repeat (first | refine blk_drewN ?_ _ | refine blk_drew ?_ | refine blk_alloc ?_ _)); exact BK476.out⟩, ⟨by (with_reducible repeat (first | refine blk_drewN ?_ _ | refine blk_drew ?_ | refine blk_alloc ?_ _)); exact BK477.out⟩, ⟨by (with_reducible repeat (first | refine blk_drewN ?_ _ | refine blk_drew ?_ | refine blk_alloc ?_ _)); exact BK497.out⟩, ⟨by repeat (first | (with_reducible first | exact HB.out | apply below_alloc | apply pw_below_drewN | apply below_drew1 | refine below_set ?_ GE475.out | refine below_set ?_ GE476.out | refine below_set ?_ GE477.out | refine below_set ?_ GE497.out) | exact HB.out)⟩⟩
              · rw [if_neg c69] at H
                have c69b0 : decide (t513 < 0) = false := decide_eq_false c69
                clear c69
                (first | rw [c69b0] | (simp only [i64_w, i32_w]; rw [c69b0]) | skip)
                replace H := Option.bind_eq_some_iff.mp H
                obtain ⟨t515, A700, H⟩ := H
                replace H : (if t515 = true then (laws_FnExactMustPass.j1 kj20 t488 t491 t502 (t505 != t491) a0_0 a0_1 l0_2 a1_0 a1_1 a2_0 a2_1) else (laws_FnExactMustPass.j1 kj20 t488 t491 t502 true a0_0 a0_1 l0_2 a1_0 a1_1 a2_0 a2_1)) = some r := H
                have A70 := Aside0.mk A700
                clear A700
                by_cases c71 : t515 = true
                · subst c71
                  have H1 : (laws_FnExactMustPass.j1 kj20 t488 t491 t502 (t505 != t491) a0_0 a0_1 l0_2 a1_0 a1_1 a2_0 a2_1) = some r := by rw [if_pos rfl] at H; exact H
                  clear H
                  have H := H1
                  clear H1
                  have H' := Aside0.mk H
                  clear H
                  obtain ⟨Ao72, co72, eo72⟩ := Kd.R_slice HO_11.out
                  subst eo72
                  obtain ⟨Ao73, co73, eo73⟩ := Kd.R_slice HO_8.out
                  subst eo73
                  go_wp2_with (first | (go_at_call 24; (with_reducible refine (laws_eqInt64S.calls kj20 _ _ t502 _ _ t488 true _ ?side1 ?side2 ?side3 ?side4 A70.out).mono ?_); (case side1 => repeat (first | exact (Kd.R_reads' HO_11.out).2.2 | (with_reducible refine Kd.C_alloc ?_ _) | (with_reducible refine Kd.C_drewN ?_ _) | (with_reducible refine Kd.C_drew ?_))); (case side2 => exact (Kd.R_reads' HO_11.out).2.1); (case side3 => repeat (first | exact (Kd.R_reads' HO_8.out).2.2 | (with_reducible refine Kd.C_alloc ?_ _) | (with_reducible refine Kd.C_drewN ?_ _) | (with_reducible refine Kd.C_drew ?_))); (case side4 => exact (Kd.R_reads' HO_8.out).2.1); rintro e w' ⟨rfl, ⟨nd, rfl⟩⟩))
                  go_meet
                  case rel => exact ⟨_, ((t505 != t491)), (by first | rfl | (simp; done) | (simp [*]; done)), H', ⟨by have := HJ20.out; first | omega | exact Nat.le_refl _⟩, ⟨by (with_reducible repeat (first | apply Kd.R_alloc | apply Kd.R_drewN | apply Kd.R_drew)); exact HO_8.out⟩, ⟨by (with_reducible repeat (first | apply Kd.R_alloc | apply Kd.R_drewN | apply Kd.R_drew)); exact HO_11.out⟩, ⟨by (with_reducible repeat (first | apply Kd.R_alloc | apply Kd.R_drewN | apply Kd.R_drew)); exact Kd.R_mono HO_498002.out (fun _ hk => trivial)⟩, ⟨by (with_reducible repeat (first | refine blk_drewN ?_ _ | refine blk_drew ?_ | refine blk_alloc ?_ _)); exact BK475.out⟩, ⟨by (with_reducible repeat (first | refine blk_drewN ?_ _ | refine blk_drew ?_ | refine blk_alloc ?_ _)); exact BK476.out⟩, ⟨by (with_reducible repeat (first | refine blk_drewN ?_ _ | refine blk_drew ?_ | refine blk_alloc ?_ _)); exact BK477.out⟩, ⟨by (with_reducible repeat (first | refine blk_drewN ?_ _ | refine blk_drew ?_ | refine blk_alloc ?_ _)); exact BK497.out⟩, ⟨by repeat (first | (with_reducible first | exact HB.out | apply below_alloc | apply pw_below_drewN | apply below_drew1 | refine below_set ?_ GE475.out | refine below_set ?_ GE476.out | refine below_set ?_ GE477.out | refine below_set ?_ GE497.out) | exact HB.out)⟩⟩
                · replace c71 := Bool.eq_false_iff.mpr c71
                  subst c71
                  have H1 : (laws_FnExactMustPass.j1 kj20 t488 t491 t502 true a0_0 a0_1 l0_2 a1_0 a1_1 a2_0 a2_1) = some r := by rw [if_neg (show ¬ (false = true) by decide)] at H; exact H
                  clear H
                  have H := H1
                  clear H1
                  have H' := Aside0.mk H
                  clear H
                  obtain ⟨Ao74, co74, eo74⟩ := Kd.R_slice HO_11.out
                  subst eo74
                  obtain ⟨Ao75, co75, eo75⟩ := Kd.R_slice HO_8.out
                  subst eo75
                  go_wp2_with (first | (go_at_call 24; (with_reducible refine (laws_eqInt64S.calls kj20 _ _ t502 _ _ t488 false _ ?side1 ?side2 ?side3 ?side4 A70.out).mono ?_); (case side1 => repeat (first | exact (Kd.R_reads' HO_11.out).2.2 | (with_reducible refine Kd.C_alloc ?_ _) | (with_reducible refine Kd.C_drewN ?_ _) | (with_reducible refine Kd.C_drew ?_))); (case side2 => exact (Kd.R_reads' HO_11.out).2.1); (case side3 => repeat (first | exact (Kd.R_reads' HO_8.out).2.2 | (with_reducible refine Kd.C_alloc ?_ _) | (with_reducible refine Kd.C_drewN ?_ _) | (with_reducible refine Kd.C_drew ?_))); (case side4 => exact (Kd.R_reads' HO_8.out).2.1); rintro e w' ⟨rfl, ⟨nd, rfl⟩⟩))
                  go_meet
                  case rel => exact ⟨_, (true), (by first | rfl | (simp; done) | (simp [*]; done)), H', ⟨by have := HJ20.out; first | omega | exact Nat.le_refl _⟩, ⟨by (with_reducible repeat (first | apply Kd.R_alloc | apply Kd.R_drewN | apply Kd.R_drew)); exact HO_8.out⟩, ⟨by (with_reducible repeat (first | apply Kd.R_alloc | apply Kd.R_drewN | apply Kd.R_drew)); exact HO_11.out⟩, ⟨by (with_reducible repeat (first | apply Kd.R_alloc | apply Kd.R_drewN | apply Kd.R_drew)); exact Kd.R_mono HO_498002.out (fun _ hk => trivial)⟩, ⟨by (with_reducible repeat (first | refine blk_drewN ?_ _ | refine blk_drew ?_ | refine blk_alloc ?_ _)); exact BK475.out⟩, ⟨by (with_reducible repeat (first | refine blk_drewN ?_ _ | refine blk_drew ?_ | refine blk_alloc ?_ _)); exact BK476.out⟩, ⟨by (with_reducible repeat (first | refine blk_drewN ?_ _ | refine blk_drew ?_ | refine blk_alloc ?_ _)); exact BK477.out⟩, ⟨by (with_reducible repeat (first | refine blk_drewN ?_ _ | refine blk_drew ?_ | refine blk_alloc ?_ _)); exact BK497.out⟩, ⟨by repeat (first | (with_reducible first | exact HB.out | apply below_alloc | apply pw_below_drewN | apply below_drew1 | refine below_set ?_ GE475.out | refine below_set ?_ GE476.out | refine below_set ?_ GE477.out | refine below_set ?_ GE497.out) | exact HB.out)⟩⟩
            case rest =>
              clear HC59
              try clear c1
              try clear c2
              try clear p2
              try clear c3
              try clear c4
              try clear c5
              try clear c5b0
              try clear c6
              try clear c7
              try clear c9
              try clear c10
              try clear c12
              try clear c15
              try clear c17
              try clear c19
              try clear c24
              try clear c25
              try clear c26
              try clear c29
              try clear c38
              try clear c39
              try clear c40
              try clear c48
              try clear c49
              try clear c54
              try clear c57
              try clear c64
              try clear c65
              try clear c66
              try clear c69
              try clear c69b0
              try clear c71
              try clear hcz11_0
              try clear hcz11_1
              try clear hcz11_2
              try clear hcz27_0
              try clear hcz27_1
              try clear hcz27_2
              try clear hcz35_0
              try clear hcz35_1
              try clear hcz35_2
              try clear hcz41_0
              try clear hcz41_1
              try clear hcz41_2
              try clear hcz67_0
              try clear hcz67_1
              try clear hcz67_2
              try clear hfz11_0
              try clear hfz11_1
              try clear hfz11_2
              try clear hfz27_0
              try clear hfz27_1
              try clear hfz27_2
              try clear hfz35_0
              try clear hfz35_1
              try clear hfz35_2
              try clear hfz41_0
              try clear hfz41_1
              try clear hfz41_2
              try clear hfz67_0
              try clear hfz67_1
              try clear hfz67_2
              try clear p2
              obtain ⟨kq, x73_58, rfl, HA, HJ58, HO_8, HO_11, HO_498002, BK475, BK476, BK477, BK497, HB⟩ := hcut
              have hl498002_58 := (Kd.R_reads' HO_498002.out).1
              rw [hl498002_58] at HO_498002
              (try simp only [hl498002_58])
              (try simp only [hl498002_58] at BK475)
              (try simp only [hl498002_58] at BK476)
              (try simp only [hl498002_58] at BK477)
              (try simp only [hl498002_58] at BK497)
              (try simp only [hl498002_58] at HO_8)
              (try simp only [hl498002_58] at HO_11)
              cases kq with
              | zero => exact absurd HA.out (by simp [laws_FnExactMustPass.j1])
              | succ kj58 =>
                have H := HA.out
                clear HA
                simp only [laws_FnExactMustPass.j1] at H
                by_cases c76 : x73_58 = true
                · subst c76
                  have H1 : (some false) = some r := by rw [if_pos rfl] at H; exact H
                  clear H
                  have H := H1
                  clear H1
                  obtain rfl := Option.some.inj H
                  go_wp2
                  go_ret
                  exact ⟨by first | rfl | (simp [errW_none, errW_some] <;> rfl) | (simp [*, errW_none, errW_some] <;> rfl), by repeat (first | (with_reducible first | exact HB.out | apply below_alloc | apply pw_below_drewN | apply below_drew1 | refine below_set ?_ GE475.out | refine below_set ?_ GE476.out | refine below_set ?_ GE477.out | refine below_set ?_ GE497.out) | exact HB.out)⟩
                · replace c76 := Bool.eq_false_iff.mpr c76
                  subst c76
                  have H1 : ((laws_markInt64S.f kj58 t502 1).bind fun bt516 => ((laws_heldInt64S.f kj58 bt516.2 1).bind fun t518 => (if t518 < 0 then (some false) else (if t518 = bt516.1 then ((laws_toNet.f kj58 a0_0 a0_1 l0_2).bind fun bt519 => ((laws_toScan.f a1_0 a1_1).bind fun bt524 => ((laws_toScan.f a2_0 a2_1).bind fun bt526 => ((impl_MustPass.f bt519.1 bt519.2.1 bt519.2.2 bt524.1 bt524.2 bt526.1 bt526.2).bind fun bt528 => ((laws_eqInt64S.f kj58 bt528.1 t488).bind fun t532 => (if t532 = true then (laws_FnExactMustPass.j2 kj58 bt516.2 bt516.1 (bt528.2 != t491)) else (laws_FnExactMustPass.j2 kj58 bt516.2 bt516.1 true))))))) else (some false))))) = some r := by rw [if_neg (show ¬ (false = true) by decide)] at H; exact H
                  clear H
                  have H := H1
                  clear H1
                  replace H := Option.bind_eq_some_iff.mp H
                  obtain ⟨⟨t516, t517⟩, A770, H⟩ := H
                  replace H : ((laws_heldInt64S.f kj58 t517 1).bind fun t518 => (if t518 < 0 then (some false) else (if t518 = t516 then ((laws_toNet.f kj58 a0_0 a0_1 l0_2).bind fun bt519 => ((laws_toScan.f a1_0 a1_1).bind fun bt524 => ((laws_toScan.f a2_0 a2_1).bind fun bt526 => ((impl_MustPass.f bt519.1 bt519.2.1 bt519.2.2 bt524.1 bt524.2 bt526.1 bt526.2).bind fun bt528 => ((laws_eqInt64S.f kj58 bt528.1 t488).bind fun t532 => (if t532 = true then (laws_FnExactMustPass.j2 kj58 t517 t516 (bt528.2 != t491)) else (laws_FnExactMustPass.j2 kj58 t517 t516 true))))))) else (some false)))) = some r := H
                  have A77 := Aside0.mk A770
                  clear A770
                  replace H := Option.bind_eq_some_iff.mp H
                  obtain ⟨t518, A780, H⟩ := H
                  replace H : (if t518 < 0 then (some false) else (if t518 = t516 then ((laws_toNet.f kj58 a0_0 a0_1 l0_2).bind fun bt519 => ((laws_toScan.f a1_0 a1_1).bind fun bt524 => ((laws_toScan.f a2_0 a2_1).bind fun bt526 => ((impl_MustPass.f bt519.1 bt519.2.1 bt519.2.2 bt524.1 bt524.2 bt526.1 bt526.2).bind fun bt528 => ((laws_eqInt64S.f kj58 bt528.1 t488).bind fun t532 => (if t532 = true then (laws_FnExactMustPass.j2 kj58 t517 t516 (bt528.2 != t491)) else (laws_FnExactMustPass.j2 kj58 t517 t516 true))))))) else (some false))) = some r := H
                  have A78 := Aside0.mk A780
                  clear A780
                  by_cases c79 : t518 < 0
                  · rw [if_pos c79] at H
                    have c79b0 : decide (t518 < 0) = true := decide_eq_true c79
                    clear c79
                    obtain rfl := Option.some.inj H
                    obtain ⟨Ao80, co80, eo80⟩ := Kd.R_slice HO_11.out
                    subst eo80
                    go_wp2_with (first | ((with_reducible refine gate_callee (f := 26) rfl ?_); refine goesL_ (some 76) rfl rfl Try.func26 (by kernel_rfl) rfl #[.slice Ao80 t502.length co80, .int .i64 1] rfl (by (try simp only [List.map_toArray, List.map_cons, List.map_nil]); first | done | rfl | (simp only [List.length_drop, List.length_take]; rfl)) ?_; (with_reducible refine (laws_markInt64S.calls kj58 (fun k_ => some k_ = (.slice Ao80 t502.length co80 : Value).ownBlock) (.slice Ao80 t502.length co80) t502 1 t516 t517 w _ ?side1 ?side2 A77.out).mono ?_); (case side1 => repeat (first | (with_reducible first | exact HB.out | apply below_alloc | apply pw_below_drewN | apply below_drew1 | refine below_set ?_ GE475.out | refine below_set ?_ GE476.out | refine below_set ?_ GE477.out | refine below_set ?_ GE497.out) | exact HB.out)); (case side2 => exact Kd.R_tight rfl HO_11.out); rintro e w81 ⟨rfl, hy0, hb, hkp⟩; refine ⟨_, rfl, ?_⟩; have n0_ := Aside0.mk (Kd.R_mono (ok' := fun k_ => some k_ ≠ (.slice Ao80 t502.length co80 : Value).ownBlock) (Kd.R_keptB (HO_8.out) hkp (fun k_ hk_ hs_ => (hk_) hs_)) (fun k_ hk_ => hk_.1)); have n1_ := Aside0.mk (Kd.R_reok rfl hy0 (fun k_ e_ => HO_11.out.1 k_ e_)); have n2_ := Aside0.mk (Kd.R_mono (ok' := fun k_ => True) (Kd.R_keptB ((Kd.R_apart' HO_498002.out (Kd.R_typed HO_11.out) (by decide))) hkp (fun k_ hk_ hs_ => (hk_.2) hs_)) (fun k_ hk_ => trivial)); have n3_ := Aside0.mk (blk_kept (by (with_reducible repeat (first | refine blk_drewN ?_ _ | refine blk_drew ?_ | refine blk_alloc ?_ _)); exact BK475.out) hkp (fun hs_ => (fun e_ => (Kd.R_ne HO_11.out BK475.out (by decide)) e_) hs_)); have n4_ := Aside0.mk (blk_kept (by (with_reducible repeat (first | refine blk_drewN ?_ _ | refine blk_drew ?_ | refine blk_alloc ?_ _)); exact BK476.out) hkp (fun hs_ => (fun e_ => (Kd.R_ne HO_11.out BK476.out (by decide)) e_) hs_)); have n5_ := Aside0.mk (blk_kept (by (with_reducible repeat (first | refine blk_drewN ?_ _ | refine blk_drew ?_ | refine blk_alloc ?_ _)); exact BK477.out) hkp (fun hs_ => (fun e_ => (Kd.R_ne HO_11.out BK477.out (by decide)) e_) hs_)); have n6_ := Aside0.mk (blk_kept (by (with_reducible repeat (first | refine blk_drewN ?_ _ | refine blk_drew ?_ | refine blk_alloc ?_ _)); exact BK497.out) hkp (fun hs_ => (fun e_ => (Kd.R_ne HO_11.out BK497.out (by decide)) e_) hs_)); have n7_ := Aside0.mk (hb); clear HO_8; clear HO_11; clear HO_498002; clear BK475; clear BK476; clear BK477; clear BK497; clear HB; have HO_8 := n0_; have HO_11 := n1_; have HO_498002 := n2_; have BK475 := n3_; have BK476 := n4_; have BK477 := n5_; have BK497 := n6_; have HB := n7_; clear n0_ n1_ n2_ n3_ n4_ n5_ n6_ n7_; (try clear hb); (try clear hkp); (try clear hy0)) | ((with_reducible refine gate_callee (f := 27) rfl ?_); refine goesL_ (some 79) rfl rfl Try.func27 (by kernel_rfl) rfl #[.slice Ao80 t517.length co80, .int .i64 1] rfl (by (try simp only [List.map_toArray, List.map_cons, List.map_nil]); first | done | (rw [show t517.length = t502.length from (Kd.R_reads' HO_11.out).1.symm] <;> rfl) | rfl | (simp only [List.length_drop, List.length_take]; rfl)) ?_; (with_reducible refine (laws_heldInt64S.calls kj58 _ _ t517 1 t518 _ ?side1 ?side2 A78.out).mono ?_); (case side1 => repeat (first | exact (Kd.R_reads' HO_11.out).2.2 | (with_reducible refine Kd.C_alloc ?_ _) | (with_reducible refine Kd.C_drewN ?_ _) | (with_reducible refine Kd.C_drew ?_))); (case side2 => rw [show t517.length = t502.length from (Kd.R_reads' HO_11.out).1.symm]; exact (Kd.R_reads' HO_11.out).2.1); rintro e w' ⟨rfl, ⟨nd, rfl⟩⟩; refine ⟨_, rfl, ?_⟩))
                    go_ret
                    exact ⟨by first | rfl | (simp [errW_none, errW_some] <;> rfl) | (simp [*, errW_none, errW_some] <;> rfl), by repeat (first | (with_reducible first | exact HB.out | apply below_alloc | apply pw_below_drewN | apply below_drew1 | refine below_set ?_ GE475.out | refine below_set ?_ GE476.out | refine below_set ?_ GE477.out | refine below_set ?_ GE497.out) | exact HB.out)⟩
                  · rw [if_neg c79] at H
                    have c79b0 : decide (t518 < 0) = false := decide_eq_false c79
                    clear c79
                    by_cases c82 : t518 = t516
                    · rw [if_pos c82] at H
                      have c82b0 : (t518 == t516) = true := beq_iff_eq.mpr c82
                      have c82b1 : (t518 != t516) = false := bne_eq_false_iff_eq.mpr c82
                      clear c82
                      replace H := Option.bind_eq_some_iff.mp H
                      obtain ⟨⟨t519, t520, t521⟩, A830, H⟩ := H
                      replace H : ((laws_toScan.f a1_0 a1_1).bind fun bt524 => ((laws_toScan.f a2_0 a2_1).bind fun bt526 => ((impl_MustPass.f t519 t520 t521 bt524.1 bt524.2 bt526.1 bt526.2).bind fun bt528 => ((laws_eqInt64S.f kj58 bt528.1 t488).bind fun t532 => (if t532 = true then (laws_FnExactMustPass.j2 kj58 t517 t516 (bt528.2 != t491)) else (laws_FnExactMustPass.j2 kj58 t517 t516 true)))))) = some r := H
                      have A83 := Aside0.mk A830
                      clear A830
                      replace H := Option.bind_eq_some_iff.mp H
                      obtain ⟨⟨t524, t525⟩, A840, H⟩ := H
                      replace H : ((laws_toScan.f a2_0 a2_1).bind fun bt526 => ((impl_MustPass.f t519 t520 t521 t524 t525 bt526.1 bt526.2).bind fun bt528 => ((laws_eqInt64S.f kj58 bt528.1 t488).bind fun t532 => (if t532 = true then (laws_FnExactMustPass.j2 kj58 t517 t516 (bt528.2 != t491)) else (laws_FnExactMustPass.j2 kj58 t517 t516 true))))) = some r := H
                      have A84 := Aside0.mk A840
                      clear A840
                      replace H := Option.bind_eq_some_iff.mp H
                      obtain ⟨⟨t526, t527⟩, A850, H⟩ := H
                      replace H : ((impl_MustPass.f t519 t520 t521 t524 t525 t526 t527).bind fun bt528 => ((laws_eqInt64S.f kj58 bt528.1 t488).bind fun t532 => (if t532 = true then (laws_FnExactMustPass.j2 kj58 t517 t516 (bt528.2 != t491)) else (laws_FnExactMustPass.j2 kj58 t517 t516 true)))) = some r := H
                      have A85 := Aside0.mk A850
                      clear A850
                      replace H := Option.bind_eq_some_iff.mp H
                      obtain ⟨⟨t528, t531⟩, A860, H⟩ := H
                      replace H : ((laws_eqInt64S.f kj58 t528 t488).bind fun t532 => (if t532 = true then (laws_FnExactMustPass.j2 kj58 t517 t516 (t531 != t491)) else (laws_FnExactMustPass.j2 kj58 t517 t516 true))) = some r := H
                      have A86 := Aside0.mk A860
                      clear A860
                      have HC87 := Aside0.mk H
                      clear H
                      obtain ⟨Ao88, co88, eo88⟩ := Kd.R_slice HO_11.out
                      subst eo88
                      try go_wp2_with (first | ((with_reducible refine gate_callee (f := 26) rfl ?_); refine goesL_ (some 76) rfl rfl Try.func26 (by kernel_rfl) rfl #[.slice Ao88 t502.length co88, .int .i64 1] rfl (by (try simp only [List.map_toArray, List.map_cons, List.map_nil]); first | done | rfl | (simp only [List.length_drop, List.length_take]; rfl)) ?_; (with_reducible refine (laws_markInt64S.calls kj58 (fun k_ => some k_ = (.slice Ao88 t502.length co88 : Value).ownBlock) (.slice Ao88 t502.length co88) t502 1 t516 t517 w _ ?side1 ?side2 A77.out).mono ?_); (case side1 => repeat (first | (with_reducible first | exact HB.out | apply below_alloc | apply pw_below_drewN | apply below_drew1 | refine below_set ?_ GE475.out | refine below_set ?_ GE476.out | refine below_set ?_ GE477.out | refine below_set ?_ GE497.out) | exact HB.out)); (case side2 => exact Kd.R_tight rfl HO_11.out); rintro e w89 ⟨rfl, hy0, hb, hkp⟩; refine ⟨_, rfl, ?_⟩; have n0_ := Aside0.mk (Kd.R_mono (ok' := fun k_ => some k_ ≠ (.slice Ao88 t502.length co88 : Value).ownBlock) (Kd.R_keptB (HO_8.out) hkp (fun k_ hk_ hs_ => (hk_) hs_)) (fun k_ hk_ => hk_.1)); have n1_ := Aside0.mk (Kd.R_reok rfl hy0 (fun k_ e_ => HO_11.out.1 k_ e_)); have n2_ := Aside0.mk (Kd.R_mono (ok' := fun k_ => True) (Kd.R_keptB ((Kd.R_apart' HO_498002.out (Kd.R_typed HO_11.out) (by decide))) hkp (fun k_ hk_ hs_ => (hk_.2) hs_)) (fun k_ hk_ => trivial)); have n3_ := Aside0.mk (blk_kept (by (with_reducible repeat (first | refine blk_drewN ?_ _ | refine blk_drew ?_ | refine blk_alloc ?_ _)); exact BK475.out) hkp (fun hs_ => (fun e_ => (Kd.R_ne HO_11.out BK475.out (by decide)) e_) hs_)); have n4_ := Aside0.mk (blk_kept (by (with_reducible repeat (first | refine blk_drewN ?_ _ | refine blk_drew ?_ | refine blk_alloc ?_ _)); exact BK476.out) hkp (fun hs_ => (fun e_ => (Kd.R_ne HO_11.out BK476.out (by decide)) e_) hs_)); have n5_ := Aside0.mk (blk_kept (by (with_reducible repeat (first | refine blk_drewN ?_ _ | refine blk_drew ?_ | refine blk_alloc ?_ _)); exact BK477.out) hkp (fun hs_ => (fun e_ => (Kd.R_ne HO_11.out BK477.out (by decide)) e_) hs_)); have n6_ := Aside0.mk (blk_kept (by (with_reducible repeat (first | refine blk_drewN ?_ _ | refine blk_drew ?_ | refine blk_alloc ?_ _)); exact BK497.out) hkp (fun hs_ => (fun e_ => (Kd.R_ne HO_11.out BK497.out (by decide)) e_) hs_)); have n7_ := Aside0.mk (hb); clear HO_8; clear HO_11; clear HO_498002; clear BK475; clear BK476; clear BK477; clear BK497; clear HB; have HO_8 := n0_; have HO_11 := n1_; have HO_498002 := n2_; have BK475 := n3_; have BK476 := n4_; have BK477 := n5_; have BK497 := n6_; have HB := n7_; clear n0_ n1_ n2_ n3_ n4_ n5_ n6_ n7_; (try clear hb); (try clear hkp); (try clear hy0)) | ((with_reducible refine gate_callee (f := 27) rfl ?_); refine goesL_ (some 79) rfl rfl Try.func27 (by kernel_rfl) rfl #[.slice Ao88 t517.length co88, .int .i64 1] rfl (by (try simp only [List.map_toArray, List.map_cons, List.map_nil]); first | done | (rw [show t517.length = t502.length from (Kd.R_reads' HO_11.out).1.symm] <;> rfl) | rfl | (simp only [List.length_drop, List.length_take]; rfl)) ?_; (with_reducible refine (laws_heldInt64S.calls kj58 _ _ t517 1 t518 _ ?side1 ?side2 A78.out).mono ?_); (case side1 => repeat (first | exact (Kd.R_reads' HO_11.out).2.2 | (with_reducible refine Kd.C_alloc ?_ _) | (with_reducible refine Kd.C_drewN ?_ _) | (with_reducible refine Kd.C_drew ?_))); (case side2 => rw [show t517.length = t502.length from (Kd.R_reads' HO_11.out).1.symm]; exact (Kd.R_reads' HO_11.out).2.1); rintro e w' ⟨rfl, ⟨nd, rfl⟩⟩; refine ⟨_, rfl, ?_⟩))
                      (try (rw [drewN_self w89]; generalize hq_ : World.drewN w89 _ = w89; have n0_ : Aside0 (Kd.R (Kd.int .i64) 2 w89 w.heap.size (fun k_ => some k_ ≠ (v489 : Value).ownBlock) (.slice Ao88 t502.length co88) t517) := ⟨by rw [← hq_]; exact (by (with_reducible repeat (first | apply Kd.R_alloc | apply Kd.R_drewN | apply Kd.R_drew)); exact HO_11.out)⟩; have n1_ : Aside0 (Kd.R k82 82 w89 w.heap.size (fun _ => True) (.slice Ao42 t514.length co42) t514) := ⟨by rw [← hq_]; exact (by (with_reducible repeat (first | apply Kd.R_alloc | apply Kd.R_drewN | apply Kd.R_drew)); exact HO_498002.out)⟩; have n2_ : Aside0 (Kd.R (Kd.int .i64) 2 w89 w.heap.size (fun k_ => some k_ ≠ (.slice Ao88 t502.length co88 : Value).ownBlock) v489 t488) := ⟨by rw [← hq_]; exact (by (with_reducible repeat (first | apply Kd.R_alloc | apply Kd.R_drewN | apply Kd.R_drew)); exact HO_8.out)⟩; have n3_ : Aside0 (w89.heap[gb475]? = some (.cells #[.int .i8 a0_0, .int .i16 a0_1, .slice A0_2 l0_2.length c0_2] 26 (0, 0))) := ⟨by rw [← hq_]; exact (by (with_reducible repeat (first | refine blk_drewN ?_ _ | refine blk_drew ?_ | refine blk_alloc ?_ _)); exact BK475.out)⟩; have n4_ : Aside0 (w89.heap[gb476]? = some (.cells #[.int .i8 a1_0, .int .i16 a1_1] 44 (0, 0))) := ⟨by rw [← hq_]; exact (by (with_reducible repeat (first | refine blk_drewN ?_ _ | refine blk_drew ?_ | refine blk_alloc ?_ _)); exact BK476.out)⟩; have n5_ : Aside0 (w89.heap[gb477]? = some (.cells #[.int .i8 a2_0, .int .i16 a2_1] 44 (0, 0))) := ⟨by rw [← hq_]; exact (by (with_reducible repeat (first | refine blk_drewN ?_ _ | refine blk_drew ?_ | refine blk_alloc ?_ _)); exact BK477.out)⟩; have n6_ : Aside0 (w89.heap[gb497]? = some (.cells #[.int .i8 t492, .int .i16 t493, .slice Ao42 t514.length co42] 31 (0, 0))) := ⟨by rw [← hq_]; exact (by (with_reducible repeat (first | refine blk_drewN ?_ _ | refine blk_drew ?_ | refine blk_alloc ?_ _)); exact BK497.out)⟩; have n7_ : Aside0 (Below w.heap.size w w89) := ⟨by rw [← hq_]; exact (by repeat (first | (with_reducible first | exact HB.out | apply below_alloc | apply pw_below_drewN | apply below_drew1 | refine below_set ?_ GE475.out | refine below_set ?_ GE476.out | refine below_set ?_ GE477.out | refine below_set ?_ GE497.out) | exact HB.out))⟩; clear HO_11 HO_498002 HO_8 BK475 BK476 BK477 BK497 HB hq_; have HO_11 := n0_; have HO_498002 := n1_; have HO_8 := n2_; have BK475 := n3_; have BK476 := n4_; have BK477 := n5_; have BK497 := n6_; have HB := n7_; clear n0_ n1_ n2_ n3_ n4_ n5_ n6_ n7_))
                      have n0_ := Aside0.mk (Kd.R_drew HO_8.out)
                      have n1_ := Aside0.mk (Kd.R_drew HO_11.out)
                      have n2_ := Aside0.mk (Kd.R_drew HO_498002.out)
                      have n3_ := Aside0.mk (blk_drew BK475.out)
                      have n4_ := Aside0.mk (blk_drew BK476.out)
                      have n5_ := Aside0.mk (blk_drew BK477.out)
                      have n6_ := Aside0.mk (blk_drew BK497.out)
                      have n7_ := Aside0.mk (below_drew1 HB.out)
                      clear HO_8
                      clear HO_11
                      clear HO_498002
                      clear BK475
                      clear BK476
                      clear BK477
                      clear BK497
                      clear HB
                      have HO_8 := n0_
                      have HO_11 := n1_
                      have HO_498002 := n2_
                      have BK475 := n3_
                      have BK476 := n4_
                      have BK477 := n5_
                      have BK497 := n6_
                      have HB := n7_
                      clear n0_ n1_ n2_ n3_ n4_ n5_ n6_ n7_
                      refine start_ (n := 12) (S := fun w' => w'.cell? ⟨gb475, 0, none⟩ = some (.int .i8 a0_0) ∧ w'.cell? ⟨gb475, 1, none⟩ = some (.int .i16 a0_1) ∧ w'.cell? ⟨gb475, 2, none⟩ = some (.slice A0_2 l0_2.length c0_2) ∧ w'.cell? ⟨gb476, 0, none⟩ = some (.int .i8 a1_0) ∧ w'.cell? ⟨gb476, 1, none⟩ = some (.int .i16 a1_1) ∧ w'.cell? ⟨gb477, 0, none⟩ = some (.int .i8 a2_0) ∧ w'.cell? ⟨gb477, 1, none⟩ = some (.int .i16 a2_1)) (ds := []) #[false, false, false, false, false, false, false, false, false, false, false, false] (by kernel_rfl) rfl rfl ⟨(blk_cell BK475.out 0).trans rfl, (blk_cell BK475.out 1).trans rfl, (blk_cell BK475.out 2).trans rfl, (blk_cell BK476.out 0).trans rfl, (blk_cell BK476.out 1).trans rfl, (blk_cell BK477.out 0).trans rfl, (blk_cell BK477.out 1).trans rfl⟩ (fun hHeld => ?_); refine with_tabW laws_FnExactMustPass.tab24 laws_FnExactMustPass.bits24 (fun HT_ HW_ => ?_)
                      generalize w89.drew = w90 at HO_8 HO_11 HO_498002 BK475 BK476 BK477 BK497 HB hHeld ⊢
                      refine take_ (i := 0) (N := some 86) (v := ?_) (a' := ?_) #[true, false, false, false, false, false, false, false, false, false, false, false] rfl rfl (take_ofW HT_.out HW_.out (by kernel_rfl)) (fun _ _ _ h => h) (Or.inl ⟨by rfl, ?_⟩) hHeld ?_ ?_
                      rotate_left
                      · rintro w' ⟨s0, s1, s2, s3, s4, s5, s6⟩
                        go_simp
                        with_reducible rfl
                      rotate_left
                      · simp only [Act.put, List.setIfInBounds_toArray, List.set_cons_zero, List.set_cons_succ, i64_w, i32_w]
                        rfl
                      refine take_ (i := 2) (N := some 88) (v := ?_) (a' := ?_) #[true, false, true, false, false, false, false, false, false, false, false, false] rfl rfl (take_ofW HT_.out HW_.out (by kernel_rfl)) (fun _ _ _ h => h) (Or.inl ⟨by rfl, ?_⟩) hHeld ?_ ?_
                      rotate_left
                      · rintro w' ⟨s0, s1, s2, s3, s4, s5, s6⟩
                        go_simp
                        with_reducible rfl
                      rotate_left
                      · simp only [Act.put, List.setIfInBounds_toArray, List.set_cons_zero, List.set_cons_succ, i64_w, i32_w]
                        rfl
                      refine take_ (i := 4) (N := some 90) (v := ?_) (a' := ?_) #[true, false, true, false, true, false, false, false, false, false, false, false] rfl rfl (take_ofW HT_.out HW_.out (by kernel_rfl)) (fun _ _ _ h => h) (Or.inl ⟨by rfl, ?_⟩) hHeld ?_ ?_
                      rotate_left
                      · rintro w' ⟨s0, s1, s2, s3, s4, s5, s6⟩
                        go_simp
                        with_reducible rfl
                      rotate_left
                      · simp only [Act.put, List.setIfInBounds_toArray, List.set_cons_zero, List.set_cons_succ, i64_w, i32_w]
                        rfl
                      refine one_ (i := 1) (N := some 87) #[true, true, true, false, true, false, false, false, false, false, false, false] rfl rfl (one_of HT_.out (by kernel_rfl)) (by decide) (fun K hK => ?_)
                      refine goes_ Try.func17 (by kernel_rfl) rfl #[.agg #[.int .i8 a0_0, .int .i16 a0_1, .slice A0_2 l0_2.length c0_2]] (by rfl) rfl rfl (by (try simp only [List.map_toArray, List.map_cons, List.map_nil]); first | done | rfl | (simp only [List.length_drop, List.length_take]; rfl)) ?_
                      with_reducible refine (laws_toNet.calls kj58 a0_0 a0_1 _ _ l0_2 t519 t520 t521 _ ?side1 ?side2 A83.out).mono ?_
                      (case side1 => repeat (first | exact (Kd.C_below HR0_2.out HB.out) | (with_reducible refine Kd.C_alloc ?_ _) | (with_reducible refine Kd.C_drewN ?_ _) | (with_reducible refine Kd.C_drew ?_)))
                      (case side2 => exact HC0_2.out)
                      rintro e w91 ⟨v522, rfl, ho0, hb⟩
                      refine ⟨_, rfl, ?_⟩
                      have n0_ := Aside0.mk (Kd.R_below (by (with_reducible repeat (first | apply Kd.R_alloc | apply Kd.R_drewN | apply Kd.R_drew)); exact HO_8.out) hb)
                      have n1_ := Aside0.mk (Kd.R_below (by (with_reducible repeat (first | apply Kd.R_alloc | apply Kd.R_drewN | apply Kd.R_drew)); exact HO_11.out) hb)
                      have n2_ := Aside0.mk (Kd.R_elder' (by (with_reducible repeat (first | apply Kd.R_alloc | apply Kd.R_drewN | apply Kd.R_drew)); exact HO_498002.out) (Kd.R_base ho0) hb)
                      have n3_ := Aside0.mk (Kd.R_lower (Kd.R_new' ho0 (Kd.R_lt (by (with_reducible repeat (first | apply Kd.R_alloc | apply Kd.R_drewN | apply Kd.R_drew)); exact HO_498002.out))) (below_size (by repeat (first | (with_reducible first | exact HB.out | apply below_alloc | apply pw_below_drewN | apply below_drew1 | refine below_set ?_ GE475.out | refine below_set ?_ GE476.out | refine below_set ?_ GE477.out | refine below_set ?_ GE497.out) | exact HB.out))))
                      have n4_ := Aside0.mk (blk_below (g := gb475) (o := .cells #[.int .i8 a0_0, .int .i16 a0_1, .slice A0_2 l0_2.length c0_2] 26 (0, 0)) (by (with_reducible repeat (first | refine blk_drewN ?_ _ | refine blk_drew ?_ | refine blk_alloc ?_ _)); exact BK475.out) hb)
                      have n5_ := Aside0.mk (blk_below (g := gb476) (o := .cells #[.int .i8 a1_0, .int .i16 a1_1] 44 (0, 0)) (by (with_reducible repeat (first | refine blk_drewN ?_ _ | refine blk_drew ?_ | refine blk_alloc ?_ _)); exact BK476.out) hb)
                      have n6_ := Aside0.mk (blk_below (g := gb477) (o := .cells #[.int .i8 a2_0, .int .i16 a2_1] 44 (0, 0)) (by (with_reducible repeat (first | refine blk_drewN ?_ _ | refine blk_drew ?_ | refine blk_alloc ?_ _)); exact BK477.out) hb)
                      have n7_ := Aside0.mk (blk_below (g := gb497) (o := .cells #[.int .i8 t492, .int .i16 t493, .slice Ao42 t514.length co42] 31 (0, 0)) (by (with_reducible repeat (first | refine blk_drewN ?_ _ | refine blk_drew ?_ | refine blk_alloc ?_ _)); exact BK497.out) hb)
                      have n8_ := Aside0.mk (below_step (by repeat (first | (with_reducible first | exact HB.out | apply below_alloc | apply pw_below_drewN | apply below_drew1 | refine below_set ?_ GE475.out | refine below_set ?_ GE476.out | refine below_set ?_ GE477.out | refine below_set ?_ GE497.out) | exact HB.out)) hb)
                      clear HO_8
                      clear HO_11
                      clear HO_498002
                      clear BK475
                      clear BK476
                      clear BK477
                      clear BK497
                      clear HB
                      have HO_8 := n0_
                      have HO_11 := n1_
                      have HO_498002 := n2_
                      have HO523 := n3_
                      have BK475 := n4_
                      have BK476 := n5_
                      have BK477 := n6_
                      have BK497 := n7_
                      have HB := n8_
                      clear n0_ n1_ n2_ n3_ n4_ n5_ n6_ n7_ n8_
                      (try clear hb)
                      (try clear hb2)
                      (try clear hk)
                      (try clear hi)
                      (try clear ho0)
                      refine hK.out _ _ ⟨(blk_cell BK475.out 0).trans rfl, (blk_cell BK475.out 1).trans rfl, (blk_cell BK475.out 2).trans rfl, (blk_cell BK476.out 0).trans rfl, (blk_cell BK476.out 1).trans rfl, (blk_cell BK477.out 0).trans rfl, (blk_cell BK477.out 1).trans rfl⟩ (fun hHeld => ?_)
                      clear hK K
                      refine norm_ (a' := ?_) ?_ ?_
                      rotate_left
                      · show Act.put _ (some 87) _ = _
                        simp only [Act.put, List.setIfInBounds_toArray, List.set_cons_zero, List.set_cons_succ, i64_w, i32_w]
                        rfl
                      refine one_ (i := 3) (N := some 89) #[true, true, true, true, true, false, false, false, false, false, false, false] rfl rfl (one_of HT_.out (by kernel_rfl)) (by decide) (fun K hK => ?_)
                      refine goes_ Try.func29 (by kernel_rfl) rfl #[.agg #[.int .i8 a1_0, .int .i16 a1_1]] (by rfl) rfl rfl (by (try simp only [List.map_toArray, List.map_cons, List.map_nil]); first | done | rfl | (simp only [List.length_drop, List.length_take]; rfl)) ?_
                      with_reducible refine (laws_toScan.calls a1_0 a1_1 t524 t525 _ A84.out).mono ?_
                      rintro e w92 ⟨rfl, hb⟩
                      refine ⟨_, rfl, ?_⟩
                      have n0_ := Aside0.mk (Kd.R_below (by (with_reducible repeat (first | apply Kd.R_alloc | apply Kd.R_drewN | apply Kd.R_drew)); exact HO_8.out) hb)
                      have n1_ := Aside0.mk (Kd.R_below (by (with_reducible repeat (first | apply Kd.R_alloc | apply Kd.R_drewN | apply Kd.R_drew)); exact HO_11.out) hb)
                      have n2_ := Aside0.mk (Kd.R_below (by (with_reducible repeat (first | apply Kd.R_alloc | apply Kd.R_drewN | apply Kd.R_drew)); exact HO_498002.out) hb)
                      have n3_ := Aside0.mk (Kd.R_below (by (with_reducible repeat (first | apply Kd.R_alloc | apply Kd.R_drewN | apply Kd.R_drew)); exact HO523.out) hb)
                      have n4_ := Aside0.mk (blk_below (g := gb475) (o := .cells #[.int .i8 a0_0, .int .i16 a0_1, .slice A0_2 l0_2.length c0_2] 26 (0, 0)) (by (with_reducible repeat (first | refine blk_drewN ?_ _ | refine blk_drew ?_ | refine blk_alloc ?_ _)); exact BK475.out) hb)
                      have n5_ := Aside0.mk (blk_below (g := gb476) (o := .cells #[.int .i8 a1_0, .int .i16 a1_1] 44 (0, 0)) (by (with_reducible repeat (first | refine blk_drewN ?_ _ | refine blk_drew ?_ | refine blk_alloc ?_ _)); exact BK476.out) hb)
                      have n6_ := Aside0.mk (blk_below (g := gb477) (o := .cells #[.int .i8 a2_0, .int .i16 a2_1] 44 (0, 0)) (by (with_reducible repeat (first | refine blk_drewN ?_ _ | refine blk_drew ?_ | refine blk_alloc ?_ _)); exact BK477.out) hb)
                      have n7_ := Aside0.mk (blk_below (g := gb497) (o := .cells #[.int .i8 t492, .int .i16 t493, .slice Ao42 t514.length co42] 31 (0, 0)) (by (with_reducible repeat (first | refine blk_drewN ?_ _ | refine blk_drew ?_ | refine blk_alloc ?_ _)); exact BK497.out) hb)
                      have n8_ := Aside0.mk (below_step (by repeat (first | (with_reducible first | exact HB.out | apply below_alloc | apply pw_below_drewN | apply below_drew1 | refine below_set ?_ GE475.out | refine below_set ?_ GE476.out | refine below_set ?_ GE477.out | refine below_set ?_ GE497.out) | exact HB.out)) hb)
                      clear HO_8
                      clear HO_11
                      clear HO_498002
                      clear HO523
                      clear BK475
                      clear BK476
                      clear BK477
                      clear BK497
                      clear HB
                      have HO_8 := n0_
                      have HO_11 := n1_
                      have HO_498002 := n2_
                      have HO523 := n3_
                      have BK475 := n4_
                      have BK476 := n5_
                      have BK477 := n6_
                      have BK497 := n7_
                      have HB := n8_
                      clear n0_ n1_ n2_ n3_ n4_ n5_ n6_ n7_ n8_
                      (try clear hb)
                      (try clear hb2)
                      (try clear hk)
                      (try clear hi)
                      refine hK.out _ _ ⟨(blk_cell BK475.out 0).trans rfl, (blk_cell BK475.out 1).trans rfl, (blk_cell BK475.out 2).trans rfl, (blk_cell BK476.out 0).trans rfl, (blk_cell BK476.out 1).trans rfl, (blk_cell BK477.out 0).trans rfl, (blk_cell BK477.out 1).trans rfl⟩ (fun hHeld => ?_)
                      clear hK K
                      refine norm_ (a' := ?_) ?_ ?_
                      rotate_left
                      · show Act.put _ (some 89) _ = _
                        simp only [Act.put, List.setIfInBounds_toArray, List.set_cons_zero, List.set_cons_succ, i64_w, i32_w]
                        rfl
                      refine one_ (i := 5) (N := some 91) #[true, true, true, true, true, true, false, false, false, false, false, false] rfl rfl (one_of HT_.out (by kernel_rfl)) (by decide) (fun K hK => ?_)
                      refine goes_ Try.func29 (by kernel_rfl) rfl #[.agg #[.int .i8 a2_0, .int .i16 a2_1]] (by rfl) rfl rfl (by (try simp only [List.map_toArray, List.map_cons, List.map_nil]); first | done | rfl | (simp only [List.length_drop, List.length_take]; rfl)) ?_
                      with_reducible refine (laws_toScan.calls a2_0 a2_1 t526 t527 _ A85.out).mono ?_
                      rintro e w93 ⟨rfl, hb⟩
                      refine ⟨_, rfl, ?_⟩
                      have n0_ := Aside0.mk (Kd.R_below (by (with_reducible repeat (first | apply Kd.R_alloc | apply Kd.R_drewN | apply Kd.R_drew)); exact HO_8.out) hb)
                      have n1_ := Aside0.mk (Kd.R_below (by (with_reducible repeat (first | apply Kd.R_alloc | apply Kd.R_drewN | apply Kd.R_drew)); exact HO_11.out) hb)
                      have n2_ := Aside0.mk (Kd.R_below (by (with_reducible repeat (first | apply Kd.R_alloc | apply Kd.R_drewN | apply Kd.R_drew)); exact HO_498002.out) hb)
                      have n3_ := Aside0.mk (Kd.R_below (by (with_reducible repeat (first | apply Kd.R_alloc | apply Kd.R_drewN | apply Kd.R_drew)); exact HO523.out) hb)
                      have n4_ := Aside0.mk (blk_below (g := gb475) (o := .cells #[.int .i8 a0_0, .int .i16 a0_1, .slice A0_2 l0_2.length c0_2] 26 (0, 0)) (by (with_reducible repeat (first | refine blk_drewN ?_ _ | refine blk_drew ?_ | refine blk_alloc ?_ _)); exact BK475.out) hb)
                      have n5_ := Aside0.mk (blk_below (g := gb476) (o := .cells #[.int .i8 a1_0, .int .i16 a1_1] 44 (0, 0)) (by (with_reducible repeat (first | refine blk_drewN ?_ _ | refine blk_drew ?_ | refine blk_alloc ?_ _)); exact BK476.out) hb)
                      have n6_ := Aside0.mk (blk_below (g := gb477) (o := .cells #[.int .i8 a2_0, .int .i16 a2_1] 44 (0, 0)) (by (with_reducible repeat (first | refine blk_drewN ?_ _ | refine blk_drew ?_ | refine blk_alloc ?_ _)); exact BK477.out) hb)
                      have n7_ := Aside0.mk (blk_below (g := gb497) (o := .cells #[.int .i8 t492, .int .i16 t493, .slice Ao42 t514.length co42] 31 (0, 0)) (by (with_reducible repeat (first | refine blk_drewN ?_ _ | refine blk_drew ?_ | refine blk_alloc ?_ _)); exact BK497.out) hb)
                      have n8_ := Aside0.mk (below_step (by repeat (first | (with_reducible first | exact HB.out | apply below_alloc | apply pw_below_drewN | apply below_drew1 | refine below_set ?_ GE475.out | refine below_set ?_ GE476.out | refine below_set ?_ GE477.out | refine below_set ?_ GE497.out) | exact HB.out)) hb)
                      clear HO_8
                      clear HO_11
                      clear HO_498002
                      clear HO523
                      clear BK475
                      clear BK476
                      clear BK477
                      clear BK497
                      clear HB
                      have HO_8 := n0_
                      have HO_11 := n1_
                      have HO_498002 := n2_
                      have HO523 := n3_
                      have BK475 := n4_
                      have BK476 := n5_
                      have BK477 := n6_
                      have BK497 := n7_
                      have HB := n8_
                      clear n0_ n1_ n2_ n3_ n4_ n5_ n6_ n7_ n8_
                      (try clear hb)
                      (try clear hb2)
                      (try clear hk)
                      (try clear hi)
                      obtain ⟨Ao94, co94, eo94⟩ := Kd.R_slice HO523.out
                      (first | subst eo94 | (injection eo94 with f1_ f2_ f3_; have f4_ := f1_.symm; have f5_ := f3_.symm; clear f1_ f2_ f3_; subst f4_; subst f5_))
                      refine hK.out _ _ ⟨(blk_cell BK475.out 0).trans rfl, (blk_cell BK475.out 1).trans rfl, (blk_cell BK475.out 2).trans rfl, (blk_cell BK476.out 0).trans rfl, (blk_cell BK476.out 1).trans rfl, (blk_cell BK477.out 0).trans rfl, (blk_cell BK477.out 1).trans rfl⟩ (fun hHeld => ?_)
                      clear hK K
                      refine norm_ (a' := ?_) ?_ ?_
                      rotate_left
                      · show Act.put _ (some 91) _ = _
                        simp only [Act.put, List.setIfInBounds_toArray, List.set_cons_zero, List.set_cons_succ, i64_w, i32_w]
                        rfl
                      refine one_ (i := 6) (N := some 92) #[true, true, true, true, true, true, true, false, false, false, false, false] rfl rfl (one_of HT_.out (by kernel_rfl)) (by decide) (fun K hK => ?_)
                      refine goes_ Try.func49 (by kernel_rfl) rfl #[.agg #[.int .i8 t519, .int .i16 t520, .slice Ao94 t521.length co94], .agg #[.int .i8 t524, .int .i16 t525], .agg #[.int .i8 t526, .int .i16 t527]] (by rfl) rfl rfl (by (try simp only [List.map_toArray, List.map_cons, List.map_nil]); first | done | rfl | (simp only [List.length_drop, List.length_take]; rfl)) ?_
                      with_reducible refine (impl_MustPass.calls t519 t520 _ _ t521 t524 t525 t526 t527 t528 t531 _ ?side1 ?side2 A86.out).mono ?_
                      (case side1 => repeat (first | exact (Kd.R_reads' HO523.out).2.2 | (with_reducible refine Kd.C_alloc ?_ _) | (with_reducible refine Kd.C_drewN ?_ _) | (with_reducible refine Kd.C_drew ?_)))
                      (case side2 => exact (Kd.R_reads' HO523.out).2.1)
                      rintro e w95 ⟨v529, rfl, ho0, hb⟩
                      refine ⟨_, rfl, ?_⟩
                      have n0_ := Aside0.mk (Kd.R_elder' (by (with_reducible repeat (first | apply Kd.R_alloc | apply Kd.R_drewN | apply Kd.R_drew)); exact HO_8.out) (Kd.R_base ho0) hb)
                      have n1_ := Aside0.mk (Kd.R_elder' (by (with_reducible repeat (first | apply Kd.R_alloc | apply Kd.R_drewN | apply Kd.R_drew)); exact HO_11.out) (Kd.R_base ho0) hb)
                      have n2_ := Aside0.mk (Kd.R_below (by (with_reducible repeat (first | apply Kd.R_alloc | apply Kd.R_drewN | apply Kd.R_drew)); exact HO_498002.out) hb)
                      have n3_ := Aside0.mk (Kd.R_below (by (with_reducible repeat (first | apply Kd.R_alloc | apply Kd.R_drewN | apply Kd.R_drew)); exact HO523.out) hb)
                      have n4_ := Aside0.mk (Kd.R_lower (Kd.R_new' (Kd.R_new' ho0 (Kd.R_lt (by (with_reducible repeat (first | apply Kd.R_alloc | apply Kd.R_drewN | apply Kd.R_drew)); exact HO_8.out))) (Kd.R_lt (by (with_reducible repeat (first | apply Kd.R_alloc | apply Kd.R_drewN | apply Kd.R_drew)); exact HO_11.out))) (below_size (by repeat (first | (with_reducible first | exact HB.out | apply below_alloc | apply pw_below_drewN | apply below_drew1 | refine below_set ?_ GE475.out | refine below_set ?_ GE476.out | refine below_set ?_ GE477.out | refine below_set ?_ GE497.out) | exact HB.out))))
                      have n5_ := Aside0.mk (blk_below (g := gb475) (o := .cells #[.int .i8 a0_0, .int .i16 a0_1, .slice A0_2 l0_2.length c0_2] 26 (0, 0)) (by (with_reducible repeat (first | refine blk_drewN ?_ _ | refine blk_drew ?_ | refine blk_alloc ?_ _)); exact BK475.out) hb)
                      have n6_ := Aside0.mk (blk_below (g := gb476) (o := .cells #[.int .i8 a1_0, .int .i16 a1_1] 44 (0, 0)) (by (with_reducible repeat (first | refine blk_drewN ?_ _ | refine blk_drew ?_ | refine blk_alloc ?_ _)); exact BK476.out) hb)
                      have n7_ := Aside0.mk (blk_below (g := gb477) (o := .cells #[.int .i8 a2_0, .int .i16 a2_1] 44 (0, 0)) (by (with_reducible repeat (first | refine blk_drewN ?_ _ | refine blk_drew ?_ | refine blk_alloc ?_ _)); exact BK477.out) hb)
                      have n8_ := Aside0.mk (blk_below (g := gb497) (o := .cells #[.int .i8 t492, .int .i16 t493, .slice Ao42 t514.length co42] 31 (0, 0)) (by (with_reducible repeat (first | refine blk_drewN ?_ _ | refine blk_drew ?_ | refine blk_alloc ?_ _)); exact BK497.out) hb)
                      have n9_ := Aside0.mk (below_step (by repeat (first | (with_reducible first | exact HB.out | apply below_alloc | apply pw_below_drewN | apply below_drew1 | refine below_set ?_ GE475.out | refine below_set ?_ GE476.out | refine below_set ?_ GE477.out | refine below_set ?_ GE497.out) | exact HB.out)) hb)
                      clear HO_8
                      clear HO_11
                      clear HO_498002
                      clear HO523
                      clear BK475
                      clear BK476
                      clear BK477
                      clear BK497
                      clear HB
                      have HO_8 := n0_
                      have HO_11 := n1_
                      have HO_498002 := n2_
                      have HO523 := n3_
                      have HO530 := n4_
                      have BK475 := n5_
                      have BK476 := n6_
                      have BK477 := n7_
                      have BK497 := n8_
                      have HB := n9_
                      clear n0_ n1_ n2_ n3_ n4_ n5_ n6_ n7_ n8_ n9_
                      (try clear hb)
                      (try clear hb2)
                      (try clear hk)
                      (try clear hi)
                      (try clear ho0)
                      refine hK.out _ _ ⟨(blk_cell BK475.out 0).trans rfl, (blk_cell BK475.out 1).trans rfl, (blk_cell BK475.out 2).trans rfl, (blk_cell BK476.out 0).trans rfl, (blk_cell BK476.out 1).trans rfl, (blk_cell BK477.out 0).trans rfl, (blk_cell BK477.out 1).trans rfl⟩ (fun hHeld => ?_)
                      clear hK K
                      refine norm_ (a' := ?_) ?_ ?_
                      rotate_left
                      · show Act.put _ (some 92) _ = _
                        simp only [Act.put, List.setIfInBounds_toArray, List.set_cons_zero, List.set_cons_succ, i64_w, i32_w]
                        rfl
                      refine pure_ (i := 7) (N := some 85) (v := ?_) (a' := ?_) #[true, true, true, true, true, true, true, true, false, false, false, false] rfl rfl (any_of HT_.out (by kernel_rfl)) (fun _ _ _ h => h) (Or.inl ⟨by rfl, ?_⟩) ?_ ?_
                      rotate_left
                      · intro w'
                        go_simp
                        with_reducible rfl
                      rotate_left
                      · simp only [Act.put, List.setIfInBounds_toArray, List.set_cons_zero, List.set_cons_succ, i64_w, i32_w]
                        rfl
                      refine pure_ (i := 8) (N := some 93) (v := ?_) (a' := ?_) #[true, true, true, true, true, true, true, true, true, false, false, false] rfl rfl (any_of HT_.out (by kernel_rfl)) (fun _ _ _ h => h) (Or.inl ⟨by rfl, ?_⟩) ?_ ?_
                      rotate_left
                      · intro w'
                        go_simp
                        with_reducible rfl
                      rotate_left
                      · simp only [Act.put, List.setIfInBounds_toArray, List.set_cons_zero, List.set_cons_succ, i64_w, i32_w]
                        rfl
                      refine pure_ (i := 9) (N := some 94) (v := ?_) (a' := ?_) #[true, true, true, true, true, true, true, true, true, true, false, false] rfl rfl (any_of HT_.out (by kernel_rfl)) (fun _ _ _ h => h) (Or.inl ⟨by rfl, ?_⟩) ?_ ?_
                      rotate_left
                      · intro w'
                        go_simp
                        with_reducible rfl
                      rotate_left
                      · simp only [Act.put, List.setIfInBounds_toArray, List.set_cons_zero, List.set_cons_succ, i64_w, i32_w]
                        rfl
                      refine pure_ (i := 10) (N := some 16) (v := ?_) (a' := ?_) #[true, true, true, true, true, true, true, true, true, true, true, false] rfl rfl (any_of HT_.out (by kernel_rfl)) (fun _ _ _ h => h) (Or.inl ⟨by rfl, ?_⟩) ?_ ?_
                      rotate_left
                      · intro w'
                        go_simp
                        with_reducible rfl
                      rotate_left
                      · simp only [Act.put, List.setIfInBounds_toArray, List.set_cons_zero, List.set_cons_succ, i64_w, i32_w]
                        rfl
                      refine pure_ (i := 11) (N := some 17) (v := ?_) (a' := ?_) #[true, true, true, true, true, true, true, true, true, true, true, true] rfl rfl (any_of HT_.out (by kernel_rfl)) (fun _ _ _ h => h) (Or.inl ⟨by rfl, ?_⟩) ?_ ?_
                      rotate_left
                      · intro w'
                        go_simp
                        with_reducible rfl
                      rotate_left
                      · simp only [Act.put, List.setIfInBounds_toArray, List.set_cons_zero, List.set_cons_succ, i64_w, i32_w]
                        rfl
                      refine done_ (done_of HT_.out (by kernel_rfl)) ?_
                      go_upto_region 25 with (fail)
                      go_cut [103] (fun v103 wc => ∃ (kq : Nat) (x103_86 : Bool), v103 = .bool x103_86 ∧ Aside0 (laws_FnExactMustPass.j2 kq t517 t516 x103_86 = some r) ∧ Aside0 (kq ≤ kj58) ∧ Aside0 (Kd.R (Kd.int .i64) 2 wc w.heap.size (fun _ => True) (.slice Ao88 t502.length co88) t517) ∧ Aside0 (Kd.R k82 82 wc w.heap.size (fun _ => True) (.slice Ao42 t514.length co42) t514) ∧ Aside0 (wc.heap[gb475]? = some (.cells #[.int .i8 a0_0, .int .i16 a0_1, (.slice A0_2 l0_2.length c0_2)] 26 (0, 0))) ∧ Aside0 (wc.heap[gb476]? = some (.cells #[.int .i8 a1_0, .int .i16 a1_1] 44 (0, 0))) ∧ Aside0 (wc.heap[gb477]? = some (.cells #[.int .i8 a2_0, .int .i16 a2_1] 44 (0, 0))) ∧ Aside0 (wc.heap[gb497]? = some (.cells #[.int .i8 t492, .int .i16 t493, (.slice Ao42 t514.length co42)] 31 (0, 0))) ∧ Aside0 (Below w.heap.size w wc))
                      case first =>
                        have H := HC87.out
                        clear HC87
                        replace H := Option.bind_eq_some_iff.mp H
                        obtain ⟨t532, A960, H⟩ := H
                        replace H : (if t532 = true then (laws_FnExactMustPass.j2 kj58 t517 t516 (t531 != t491)) else (laws_FnExactMustPass.j2 kj58 t517 t516 true)) = some r := H
                        have A96 := Aside0.mk A960
                        clear A960
                        by_cases c97 : t532 = true
                        · subst c97
                          have H1 : (laws_FnExactMustPass.j2 kj58 t517 t516 (t531 != t491)) = some r := by rw [if_pos rfl] at H; exact H
                          clear H
                          have H := H1
                          clear H1
                          have H' := Aside0.mk H
                          clear H
                          obtain ⟨Ao98, co98, eo98⟩ := Kd.R_slice HO530.out
                          subst eo98
                          obtain ⟨Ao99, co99, eo99⟩ := Kd.R_slice HO_8.out
                          subst eo99
                          go_wp2_with (first | ((with_reducible refine gate_callee (f := 24) rfl ?_); refine goesL_ (some 97) rfl rfl Try.func24 (by kernel_rfl) rfl #[.slice Ao98 t528.length co98, .slice Ao99 t488.length co99] rfl (by (try simp only [List.map_toArray, List.map_cons, List.map_nil]); first | done | rfl | (simp only [List.length_drop, List.length_take]; rfl)) ?_; (with_reducible refine (laws_eqInt64S.calls kj58 _ _ t528 _ _ t488 true _ ?side1 ?side2 ?side3 ?side4 A96.out).mono ?_); (case side1 => repeat (first | exact (Kd.R_reads' HO530.out).2.2 | (with_reducible refine Kd.C_alloc ?_ _) | (with_reducible refine Kd.C_drewN ?_ _) | (with_reducible refine Kd.C_drew ?_))); (case side2 => exact (Kd.R_reads' HO530.out).2.1); (case side3 => repeat (first | exact (Kd.R_reads' HO_8.out).2.2 | (with_reducible refine Kd.C_alloc ?_ _) | (with_reducible refine Kd.C_drewN ?_ _) | (with_reducible refine Kd.C_drew ?_))); (case side4 => exact (Kd.R_reads' HO_8.out).2.1); rintro e w' ⟨rfl, ⟨nd, rfl⟩⟩; refine ⟨_, rfl, ?_⟩))
                          go_meet
                          case rel => exact ⟨_, ((t531 != t491)), (by first | rfl | (simp; done) | (simp [*]; done)), H', ⟨by have := HJ20.out; have := HJ58.out; first | omega | exact Nat.le_refl _⟩, ⟨by (try simp only [hl498002_58]); (with_reducible repeat (first | apply Kd.R_alloc | apply Kd.R_drewN | apply Kd.R_drew)); exact Kd.R_mono HO_11.out (fun _ hk => trivial)⟩, ⟨by (try simp only [hl498002_58]); (with_reducible repeat (first | apply Kd.R_alloc | apply Kd.R_drewN | apply Kd.R_drew)); exact Kd.R_mono HO_498002.out (fun _ hk => trivial)⟩, ⟨by (try simp only [hl498002_58]); (with_reducible repeat (first | refine blk_drewN ?_ _ | refine blk_drew ?_ | refine blk_alloc ?_ _)); exact BK475.out⟩, ⟨by (try simp only [hl498002_58]); (with_reducible repeat (first | refine blk_drewN ?_ _ | refine blk_drew ?_ | refine blk_alloc ?_ _)); exact BK476.out⟩, ⟨by (try simp only [hl498002_58]); (with_reducible repeat (first | refine blk_drewN ?_ _ | refine blk_drew ?_ | refine blk_alloc ?_ _)); exact BK477.out⟩, ⟨by (try simp only [hl498002_58]); (with_reducible repeat (first | refine blk_drewN ?_ _ | refine blk_drew ?_ | refine blk_alloc ?_ _)); exact BK497.out⟩, ⟨by repeat (first | (with_reducible first | exact HB.out | apply below_alloc | apply pw_below_drewN | apply below_drew1 | refine below_set ?_ GE475.out | refine below_set ?_ GE476.out | refine below_set ?_ GE477.out | refine below_set ?_ GE497.out) | exact HB.out)⟩⟩
                        · replace c97 := Bool.eq_false_iff.mpr c97
                          subst c97
                          have H1 : (laws_FnExactMustPass.j2 kj58 t517 t516 true) = some r := by rw [if_neg (show ¬ (false = true) by decide)] at H; exact H
                          clear H
                          have H := H1
                          clear H1
                          have H' := Aside0.mk H
                          clear H
                          obtain ⟨Ao100, co100, eo100⟩ := Kd.R_slice HO530.out
                          subst eo100
                          obtain ⟨Ao101, co101, eo101⟩ := Kd.R_slice HO_8.out
                          subst eo101
                          go_wp2_with (first | ((with_reducible refine gate_callee (f := 24) rfl ?_); refine goesL_ (some 97) rfl rfl Try.func24 (by kernel_rfl) rfl #[.slice Ao100 t528.length co100, .slice Ao101 t488.length co101] rfl (by (try simp only [List.map_toArray, List.map_cons, List.map_nil]); first | done | rfl | (simp only [List.length_drop, List.length_take]; rfl)) ?_; (with_reducible refine (laws_eqInt64S.calls kj58 _ _ t528 _ _ t488 false _ ?side1 ?side2 ?side3 ?side4 A96.out).mono ?_); (case side1 => repeat (first | exact (Kd.R_reads' HO530.out).2.2 | (with_reducible refine Kd.C_alloc ?_ _) | (with_reducible refine Kd.C_drewN ?_ _) | (with_reducible refine Kd.C_drew ?_))); (case side2 => exact (Kd.R_reads' HO530.out).2.1); (case side3 => repeat (first | exact (Kd.R_reads' HO_8.out).2.2 | (with_reducible refine Kd.C_alloc ?_ _) | (with_reducible refine Kd.C_drewN ?_ _) | (with_reducible refine Kd.C_drew ?_))); (case side4 => exact (Kd.R_reads' HO_8.out).2.1); rintro e w' ⟨rfl, ⟨nd, rfl⟩⟩; refine ⟨_, rfl, ?_⟩))
                          go_meet
                          case rel => exact ⟨_, (true), (by first | rfl | (simp; done) | (simp [*]; done)), H', ⟨by have := HJ20.out; have := HJ58.out; first | omega | exact Nat.le_refl _⟩, ⟨by (try simp only [hl498002_58]); (with_reducible repeat (first | apply Kd.R_alloc | apply Kd.R_drewN | apply Kd.R_drew)); exact Kd.R_mono HO_11.out (fun _ hk => trivial)⟩, ⟨by (try simp only [hl498002_58]); (with_reducible repeat (first | apply Kd.R_alloc | apply Kd.R_drewN | apply Kd.R_drew)); exact Kd.R_mono HO_498002.out (fun _ hk => trivial)⟩, ⟨by (try simp only [hl498002_58]); (with_reducible repeat (first | refine blk_drewN ?_ _ | refine blk_drew ?_ | refine blk_alloc ?_ _)); exact BK475.out⟩, ⟨by (try simp only [hl498002_58]); (with_reducible repeat (first | refine blk_drewN ?_ _ | refine blk_drew ?_ | refine blk_alloc ?_ _)); exact BK476.out⟩, ⟨by (try simp only [hl498002_58]); (with_reducible repeat (first | refine blk_drewN ?_ _ | refine blk_drew ?_ | refine blk_alloc ?_ _)); exact BK477.out⟩, ⟨by (try simp only [hl498002_58]); (with_reducible repeat (first | refine blk_drewN ?_ _ | refine blk_drew ?_ | refine blk_alloc ?_ _)); exact BK497.out⟩, ⟨by repeat (first | (with_reducible first | exact HB.out | apply below_alloc | apply pw_below_drewN | apply below_drew1 | refine below_set ?_ GE475.out | refine below_set ?_ GE476.out | refine below_set ?_ GE477.out | refine below_set ?_ GE497.out) | exact HB.out)⟩⟩
                      case rest =>
                        clear HC87
                        try clear c1
                        try clear c2
                        try clear p2
                        try clear c3
                        try clear c4
                        try clear c5
                        try clear c5b0
                        try clear c6
                        try clear c7
                        try clear c8
                        try clear c9
                        try clear c10
                        try clear c12
                        try clear c15
                        try clear c17
                        try clear c19
                        try clear c24
                        try clear c25
                        try clear c26
                        try clear c27
                        try clear c29
                        try clear c38
                        try clear c39
                        try clear c40
                        try clear c48
                        try clear c49
                        try clear c54
                        try clear c57
                        try clear c64
                        try clear c65
                        try clear c66
                        try clear c69
                        try clear c69b0
                        try clear c71
                        try clear c76
                        try clear c79
                        try clear c79b0
                        try clear c82
                        try clear c82b0
                        try clear c82b1
                        try clear c97
                        try clear hcz11_0
                        try clear hcz11_1
                        try clear hcz11_2
                        try clear hcz27_0
                        try clear hcz27_1
                        try clear hcz27_2
                        try clear hcz35_0
                        try clear hcz35_1
                        try clear hcz35_2
                        try clear hcz41_0
                        try clear hcz41_1
                        try clear hcz41_2
                        try clear hcz67_0
                        try clear hcz67_1
                        try clear hcz67_2
                        try clear hfz11_0
                        try clear hfz11_1
                        try clear hfz11_2
                        try clear hfz27_0
                        try clear hfz27_1
                        try clear hfz27_2
                        try clear hfz35_0
                        try clear hfz35_1
                        try clear hfz35_2
                        try clear hfz41_0
                        try clear hfz41_1
                        try clear hfz41_2
                        try clear hfz67_0
                        try clear hfz67_1
                        try clear hfz67_2
                        try clear p2
                        obtain ⟨kq, x103_86, rfl, HA, HJ86, HO_11, HO_498002, BK475, BK476, BK477, BK497, HB⟩ := hcut
                        have hl11_86 := (Kd.R_reads' HO_11.out).1
                        rw [hl11_86] at HO_11
                        (try simp only [hl11_86])
                        (try simp only [hl11_86] at BK475)
                        (try simp only [hl11_86] at BK476)
                        (try simp only [hl11_86] at BK477)
                        (try simp only [hl11_86] at BK497)
                        (try simp only [hl11_86] at HO_498002)
                        cases kq with
                        | zero => exact absurd HA.out (by simp [laws_FnExactMustPass.j2])
                        | succ kj86 =>
                          have H := HA.out
                          clear HA
                          simp only [laws_FnExactMustPass.j2] at H
                          by_cases c102 : x103_86 = true
                          · subst c102
                            have H1 : (some false) = some r := by rw [if_pos rfl] at H; exact H
                            clear H
                            have H := H1
                            clear H1
                            obtain rfl := Option.some.inj H
                            go_wp2
                            go_ret
                            exact ⟨by first | rfl | (simp [errW_none, errW_some] <;> rfl) | (simp [*, errW_none, errW_some] <;> rfl), by repeat (first | (with_reducible first | exact HB.out | apply below_alloc | apply pw_below_drewN | apply below_drew1 | refine below_set ?_ GE475.out | refine below_set ?_ GE476.out | refine below_set ?_ GE477.out | refine below_set ?_ GE497.out) | exact HB.out)⟩
                          · replace c102 := Bool.eq_false_iff.mpr c102
                            subst c102
                            have H1 : ((laws_heldInt64S.f kj86 t517 1).bind fun t533 => (if t533 < 0 then (some false) else (if t533 = t516 then (some true) else (some false)))) = some r := by rw [if_neg (show ¬ (false = true) by decide)] at H; exact H
                            clear H
                            have H := H1
                            clear H1
                            replace H := Option.bind_eq_some_iff.mp H
                            obtain ⟨t533, A1030, H⟩ := H
                            replace H : (if t533 < 0 then (some false) else (if t533 = t516 then (some true) else (some false))) = some r := H
                            have A103 := Aside0.mk A1030
                            clear A1030
                            by_cases c104 : t533 < 0
                            · rw [if_pos c104] at H
                              have c104b0 : decide (t533 < 0) = true := decide_eq_true c104
                              clear c104
                              obtain rfl := Option.some.inj H
                              go_wp2_with (first | ((with_reducible refine gate_callee (f := 27) rfl ?_); refine goesL_ (some 106) rfl rfl Try.func27 (by kernel_rfl) rfl #[.slice Ao88 t517.length co88, .int .i64 1] rfl (by (try simp only [List.map_toArray, List.map_cons, List.map_nil]); first | done | rfl | (simp only [List.length_drop, List.length_take]; rfl)) ?_; (with_reducible refine (laws_heldInt64S.calls kj86 _ _ t517 1 t533 _ ?side1 ?side2 A103.out).mono ?_); (case side1 => repeat (first | exact (Kd.R_reads' HO_11.out).2.2 | (with_reducible refine Kd.C_alloc ?_ _) | (with_reducible refine Kd.C_drewN ?_ _) | (with_reducible refine Kd.C_drew ?_))); (case side2 => exact (Kd.R_reads' HO_11.out).2.1); rintro e w' ⟨rfl, ⟨nd, rfl⟩⟩; refine ⟨_, rfl, ?_⟩))
                              go_ret
                              exact ⟨by first | rfl | (simp [errW_none, errW_some] <;> rfl) | (simp [*, errW_none, errW_some] <;> rfl), by repeat (first | (with_reducible first | exact HB.out | apply below_alloc | apply pw_below_drewN | apply below_drew1 | refine below_set ?_ GE475.out | refine below_set ?_ GE476.out | refine below_set ?_ GE477.out | refine below_set ?_ GE497.out) | exact HB.out)⟩
                            · rw [if_neg c104] at H
                              have c104b0 : decide (t533 < 0) = false := decide_eq_false c104
                              clear c104
                              by_cases c105 : t533 = t516
                              · rw [if_pos c105] at H
                                have c105b0 : (t533 == t516) = true := beq_iff_eq.mpr c105
                                have c105b1 : (t533 != t516) = false := bne_eq_false_iff_eq.mpr c105
                                clear c105
                                obtain rfl := Option.some.inj H
                                go_wp2_with (first | ((with_reducible refine gate_callee (f := 27) rfl ?_); refine goesL_ (some 106) rfl rfl Try.func27 (by kernel_rfl) rfl #[.slice Ao88 t517.length co88, .int .i64 1] rfl (by (try simp only [List.map_toArray, List.map_cons, List.map_nil]); first | done | rfl | (simp only [List.length_drop, List.length_take]; rfl)) ?_; (with_reducible refine (laws_heldInt64S.calls kj86 _ _ t517 1 t533 _ ?side1 ?side2 A103.out).mono ?_); (case side1 => repeat (first | exact (Kd.R_reads' HO_11.out).2.2 | (with_reducible refine Kd.C_alloc ?_ _) | (with_reducible refine Kd.C_drewN ?_ _) | (with_reducible refine Kd.C_drew ?_))); (case side2 => exact (Kd.R_reads' HO_11.out).2.1); rintro e w' ⟨rfl, ⟨nd, rfl⟩⟩; refine ⟨_, rfl, ?_⟩))
                                go_ret
                                exact ⟨by first | rfl | (simp [errW_none, errW_some] <;> rfl) | (simp [*, errW_none, errW_some] <;> rfl), by repeat (first | (with_reducible first | exact HB.out | apply below_alloc | apply pw_below_drewN | apply below_drew1 | refine below_set ?_ GE475.out | refine below_set ?_ GE476.out | refine below_set ?_ GE477.out | refine below_set ?_ GE497.out) | exact HB.out)⟩
                              · rw [if_neg c105] at H
                                have c105b0 : (t533 == t516) = false := beq_eq_false_iff_ne.mpr c105
                                have c105b1 : (t533 != t516) = true := bne_iff_ne.mpr c105
                                obtain rfl := Option.some.inj H
                                go_wp2_with (first | ((with_reducible refine gate_callee (f := 27) rfl ?_); refine goesL_ (some 106) rfl rfl Try.func27 (by kernel_rfl) rfl #[.slice Ao88 t517.length co88, .int .i64 1] rfl (by (try simp only [List.map_toArray, List.map_cons, List.map_nil]); first | done | rfl | (simp only [List.length_drop, List.length_take]; rfl)) ?_; (with_reducible refine (laws_heldInt64S.calls kj86 _ _ t517 1 t533 _ ?side1 ?side2 A103.out).mono ?_); (case side1 => repeat (first | exact (Kd.R_reads' HO_11.out).2.2 | (with_reducible refine Kd.C_alloc ?_ _) | (with_reducible refine Kd.C_drewN ?_ _) | (with_reducible refine Kd.C_drew ?_))); (case side2 => exact (Kd.R_reads' HO_11.out).2.1); rintro e w' ⟨rfl, ⟨nd, rfl⟩⟩; refine ⟨_, rfl, ?_⟩))
                                go_ret
                                exact ⟨by first | rfl | (simp [errW_none, errW_some] <;> rfl) | (simp [*, errW_none, errW_some] <;> rfl), by repeat (first | (with_reducible first | exact HB.out | apply below_alloc | apply pw_below_drewN | apply below_drew1 | refine below_set ?_ GE475.out | refine below_set ?_ GE476.out | refine below_set ?_ GE477.out | refine below_set ?_ GE497.out) | exact HB.out)⟩
                    · rw [if_neg c82] at H
                      have c82b0 : (t518 == t516) = false := beq_eq_false_iff_ne.mpr c82
                      have c82b1 : (t518 != t516) = true := bne_iff_ne.mpr c82
                      obtain rfl := Option.some.inj H
                      obtain ⟨Ao106, co106, eo106⟩ := Kd.R_slice HO_11.out
                      subst eo106
                      go_wp2_with (first | ((with_reducible refine gate_callee (f := 26) rfl ?_); refine goesL_ (some 76) rfl rfl Try.func26 (by kernel_rfl) rfl #[.slice Ao106 t502.length co106, .int .i64 1] rfl (by (try simp only [List.map_toArray, List.map_cons, List.map_nil]); first | done | rfl | (simp only [List.length_drop, List.length_take]; rfl)) ?_; (with_reducible refine (laws_markInt64S.calls kj58 (fun k_ => some k_ = (.slice Ao106 t502.length co106 : Value).ownBlock) (.slice Ao106 t502.length co106) t502 1 t516 t517 w _ ?side1 ?side2 A77.out).mono ?_); (case side1 => repeat (first | (with_reducible first | exact HB.out | apply below_alloc | apply pw_below_drewN | apply below_drew1 | refine below_set ?_ GE475.out | refine below_set ?_ GE476.out | refine below_set ?_ GE477.out | refine below_set ?_ GE497.out) | exact HB.out)); (case side2 => exact Kd.R_tight rfl HO_11.out); rintro e w107 ⟨rfl, hy0, hb, hkp⟩; refine ⟨_, rfl, ?_⟩; have n0_ := Aside0.mk (Kd.R_mono (ok' := fun k_ => some k_ ≠ (.slice Ao106 t502.length co106 : Value).ownBlock) (Kd.R_keptB (HO_8.out) hkp (fun k_ hk_ hs_ => (hk_) hs_)) (fun k_ hk_ => hk_.1)); have n1_ := Aside0.mk (Kd.R_reok rfl hy0 (fun k_ e_ => HO_11.out.1 k_ e_)); have n2_ := Aside0.mk (Kd.R_mono (ok' := fun k_ => True) (Kd.R_keptB ((Kd.R_apart' HO_498002.out (Kd.R_typed HO_11.out) (by decide))) hkp (fun k_ hk_ hs_ => (hk_.2) hs_)) (fun k_ hk_ => trivial)); have n3_ := Aside0.mk (blk_kept (by (with_reducible repeat (first | refine blk_drewN ?_ _ | refine blk_drew ?_ | refine blk_alloc ?_ _)); exact BK475.out) hkp (fun hs_ => (fun e_ => (Kd.R_ne HO_11.out BK475.out (by decide)) e_) hs_)); have n4_ := Aside0.mk (blk_kept (by (with_reducible repeat (first | refine blk_drewN ?_ _ | refine blk_drew ?_ | refine blk_alloc ?_ _)); exact BK476.out) hkp (fun hs_ => (fun e_ => (Kd.R_ne HO_11.out BK476.out (by decide)) e_) hs_)); have n5_ := Aside0.mk (blk_kept (by (with_reducible repeat (first | refine blk_drewN ?_ _ | refine blk_drew ?_ | refine blk_alloc ?_ _)); exact BK477.out) hkp (fun hs_ => (fun e_ => (Kd.R_ne HO_11.out BK477.out (by decide)) e_) hs_)); have n6_ := Aside0.mk (blk_kept (by (with_reducible repeat (first | refine blk_drewN ?_ _ | refine blk_drew ?_ | refine blk_alloc ?_ _)); exact BK497.out) hkp (fun hs_ => (fun e_ => (Kd.R_ne HO_11.out BK497.out (by decide)) e_) hs_)); have n7_ := Aside0.mk (hb); clear HO_8; clear HO_11; clear HO_498002; clear BK475; clear BK476; clear BK477; clear BK497; clear HB; have HO_8 := n0_; have HO_11 := n1_; have HO_498002 := n2_; have BK475 := n3_; have BK476 := n4_; have BK477 := n5_; have BK497 := n6_; have HB := n7_; clear n0_ n1_ n2_ n3_ n4_ n5_ n6_ n7_; (try clear hb); (try clear hkp); (try clear hy0)) | ((with_reducible refine gate_callee (f := 27) rfl ?_); refine goesL_ (some 79) rfl rfl Try.func27 (by kernel_rfl) rfl #[.slice Ao106 t517.length co106, .int .i64 1] rfl (by (try simp only [List.map_toArray, List.map_cons, List.map_nil]); first | done | (rw [show t517.length = t502.length from (Kd.R_reads' HO_11.out).1.symm] <;> rfl) | rfl | (simp only [List.length_drop, List.length_take]; rfl)) ?_; (with_reducible refine (laws_heldInt64S.calls kj58 _ _ t517 1 t518 _ ?side1 ?side2 A78.out).mono ?_); (case side1 => repeat (first | exact (Kd.R_reads' HO_11.out).2.2 | (with_reducible refine Kd.C_alloc ?_ _) | (with_reducible refine Kd.C_drewN ?_ _) | (with_reducible refine Kd.C_drew ?_))); (case side2 => rw [show t517.length = t502.length from (Kd.R_reads' HO_11.out).1.symm]; exact (Kd.R_reads' HO_11.out).2.1); rintro e w' ⟨rfl, ⟨nd, rfl⟩⟩; refine ⟨_, rfl, ?_⟩))
                      go_ret
                      exact ⟨by first | rfl | (simp [errW_none, errW_some] <;> rfl) | (simp [*, errW_none, errW_some] <;> rfl), by repeat (first | (with_reducible first | exact HB.out | apply below_alloc | apply pw_below_drewN | apply below_drew1 | refine below_set ?_ GE475.out | refine below_set ?_ GE476.out | refine below_set ?_ GE477.out | refine below_set ?_ GE497.out) | exact HB.out)⟩
          · replace c57 := Bool.eq_false_iff.mpr c57
            subst c57
            have H1 : (some false) = some r := by rw [if_neg (show ¬ (false = true) by decide)] at H; exact H
            clear H
            have H := H1
            clear H1
            obtain rfl := Option.some.inj H
            try go_wp2
            have n0_ := Aside0.mk (Kd.R_drew HO_8.out)
            have n1_ := Aside0.mk (Kd.R_drew HO_11.out)
            have n2_ := Aside0.mk (Kd.R_drew HO_498002.out)
            have n3_ := Aside0.mk (blk_drew BK475.out)
            have n4_ := Aside0.mk (blk_drew BK476.out)
            have n5_ := Aside0.mk (blk_drew BK477.out)
            have n6_ := Aside0.mk (blk_drew BK497.out)
            have n7_ := Aside0.mk (below_drew1 HB.out)
            clear HO_8
            clear HO_11
            clear HO_498002
            clear BK475
            clear BK476
            clear BK477
            clear BK497
            clear HB
            have HO_8 := n0_
            have HO_11 := n1_
            have HO_498002 := n2_
            have BK475 := n3_
            have BK476 := n4_
            have BK477 := n5_
            have BK497 := n6_
            have HB := n7_
            clear n0_ n1_ n2_ n3_ n4_ n5_ n6_ n7_
            refine start_ (n := 5) (S := fun w' => w'.cell? ⟨gb497, 0, none⟩ = some (.int .i8 t492) ∧ w'.cell? ⟨gb497, 1, none⟩ = some (.int .i16 t493) ∧ w'.cell? ⟨gb497, 2, none⟩ = some (.slice Ao42 t494.length co42) ∧ w'.cell? ⟨gb475, 0, none⟩ = some (.int .i8 a0_0) ∧ w'.cell? ⟨gb475, 1, none⟩ = some (.int .i16 a0_1) ∧ w'.cell? ⟨gb475, 2, none⟩ = some (.slice A0_2 l0_2.length c0_2)) (ds := []) #[false, false, false, false, false] (by kernel_rfl) rfl rfl ⟨(blk_cell BK497.out 0).trans rfl, (blk_cell BK497.out 1).trans rfl, (blk_cell BK497.out 2).trans rfl, (blk_cell BK475.out 0).trans rfl, (blk_cell BK475.out 1).trans rfl, (blk_cell BK475.out 2).trans rfl⟩ (fun hHeld => ?_)
            generalize wc.drew = w108 at HO_8 HO_11 HO_498002 BK475 BK476 BK477 BK497 HB hHeld ⊢
            refine take_ (i := 0) (N := some 53) (v := ?_) (a' := ?_) #[true, false, false, false, false] rfl rfl (by kernel_rfl) (fun _ _ _ h => h) (Or.inl ⟨by rfl, ?_⟩) hHeld ?_ ?_
            rotate_left
            · rintro w' ⟨s0, s1, s2, s3, s4, s5⟩
              go_simp
              with_reducible rfl
            rotate_left
            · simp only [Act.put, List.setIfInBounds_toArray, List.set_cons_zero, List.set_cons_succ, i64_w, i32_w]
              rfl
            refine take_ (i := 1) (N := some 54) (v := ?_) (a' := ?_) #[true, true, false, false, false] rfl rfl (by kernel_rfl) (fun _ _ _ h => h) (Or.inl ⟨by rfl, ?_⟩) hHeld ?_ ?_
            rotate_left
            · rintro w' ⟨s0, s1, s2, s3, s4, s5⟩
              go_simp
              with_reducible rfl
            rotate_left
            · simp only [Act.put, List.setIfInBounds_toArray, List.set_cons_zero, List.set_cons_succ, i64_w, i32_w]
              rfl
            refine one_ (i := 2) (N := some 55) #[true, true, true, false, false] rfl rfl (by kernel_rfl) (by decide) (fun K hK => ?_)
            refine goes_ Try.func17 (by kernel_rfl) rfl #[.agg #[.int .i8 a0_0, .int .i16 a0_1, .slice A0_2 l0_2.length c0_2]] (by rfl) rfl rfl (by (try simp only [List.map_toArray, List.map_cons, List.map_nil]); first | done | rfl | (simp only [List.length_drop, List.length_take]; rfl)) ?_
            with_reducible refine (laws_toNet.calls kj20 a0_0 a0_1 _ _ l0_2 t507 t508 t509 _ ?side1 ?side2 A55.out).mono ?_
            (case side1 => repeat (first | exact (Kd.C_below HR0_2.out HB.out) | (with_reducible refine Kd.C_alloc ?_ _) | (with_reducible refine Kd.C_drewN ?_ _) | (with_reducible refine Kd.C_drew ?_)))
            (case side2 => exact HC0_2.out)
            rintro e w109 ⟨v510, rfl, ho0, hb⟩
            refine ⟨_, rfl, ?_⟩
            have n0_ := Aside0.mk (Kd.R_below (by (with_reducible repeat (first | apply Kd.R_alloc | apply Kd.R_drewN | apply Kd.R_drew)); exact HO_8.out) hb)
            have n1_ := Aside0.mk (Kd.R_below (by (with_reducible repeat (first | apply Kd.R_alloc | apply Kd.R_drewN | apply Kd.R_drew)); exact HO_11.out) hb)
            have n2_ := Aside0.mk (Kd.R_elder' (by (with_reducible repeat (first | apply Kd.R_alloc | apply Kd.R_drewN | apply Kd.R_drew)); exact HO_498002.out) (Kd.R_base ho0) hb)
            have n3_ := Aside0.mk (Kd.R_lower (Kd.R_new' ho0 (Kd.R_lt (by (with_reducible repeat (first | apply Kd.R_alloc | apply Kd.R_drewN | apply Kd.R_drew)); exact HO_498002.out))) (below_size (by repeat (first | (with_reducible first | exact HB.out | apply below_alloc | apply pw_below_drewN | apply below_drew1 | refine below_set ?_ GE475.out | refine below_set ?_ GE476.out | refine below_set ?_ GE477.out | refine below_set ?_ GE497.out) | exact HB.out))))
            have n4_ := Aside0.mk (blk_below (g := gb475) (o := .cells #[.int .i8 a0_0, .int .i16 a0_1, .slice A0_2 l0_2.length c0_2] 26 (0, 0)) (by (with_reducible repeat (first | refine blk_drewN ?_ _ | refine blk_drew ?_ | refine blk_alloc ?_ _)); exact BK475.out) hb)
            have n5_ := Aside0.mk (blk_below (g := gb476) (o := .cells #[.int .i8 a1_0, .int .i16 a1_1] 44 (0, 0)) (by (with_reducible repeat (first | refine blk_drewN ?_ _ | refine blk_drew ?_ | refine blk_alloc ?_ _)); exact BK476.out) hb)
            have n6_ := Aside0.mk (blk_below (g := gb477) (o := .cells #[.int .i8 a2_0, .int .i16 a2_1] 44 (0, 0)) (by (with_reducible repeat (first | refine blk_drewN ?_ _ | refine blk_drew ?_ | refine blk_alloc ?_ _)); exact BK477.out) hb)
            have n7_ := Aside0.mk (blk_below (g := gb497) (o := .cells #[.int .i8 t492, .int .i16 t493, .slice Ao42 t494.length co42] 31 (0, 0)) (by (with_reducible repeat (first | refine blk_drewN ?_ _ | refine blk_drew ?_ | refine blk_alloc ?_ _)); exact BK497.out) hb)
            have n8_ := Aside0.mk (below_step (by repeat (first | (with_reducible first | exact HB.out | apply below_alloc | apply pw_below_drewN | apply below_drew1 | refine below_set ?_ GE475.out | refine below_set ?_ GE476.out | refine below_set ?_ GE477.out | refine below_set ?_ GE497.out) | exact HB.out)) hb)
            clear HO_8
            clear HO_11
            clear HO_498002
            clear BK475
            clear BK476
            clear BK477
            clear BK497
            clear HB
            have HO_8 := n0_
            have HO_11 := n1_
            have HO_498002 := n2_
            have HO511 := n3_
            have BK475 := n4_
            have BK476 := n5_
            have BK477 := n6_
            have BK497 := n7_
            have HB := n8_
            clear n0_ n1_ n2_ n3_ n4_ n5_ n6_ n7_ n8_
            (try clear hb)
            (try clear hb2)
            (try clear hk)
            (try clear hi)
            (try clear ho0)
            obtain ⟨Ao110, co110, eo110⟩ := Kd.R_slice HO511.out
            (first | subst eo110 | (injection eo110 with f1_ f2_ f3_; have f4_ := f1_.symm; have f5_ := f3_.symm; clear f1_ f2_ f3_; subst f4_; subst f5_))
            refine hK.out _ _ ⟨(blk_cell BK497.out 0).trans rfl, (blk_cell BK497.out 1).trans rfl, (blk_cell BK497.out 2).trans rfl, (blk_cell BK475.out 0).trans rfl, (blk_cell BK475.out 1).trans rfl, (blk_cell BK475.out 2).trans rfl⟩ (fun hHeld => ?_)
            clear hK K
            refine norm_ (a' := ?_) ?_ ?_
            rotate_left
            · show Act.put _ (some 55) _ = _
              simp only [Act.put, List.setIfInBounds_toArray, List.set_cons_zero, List.set_cons_succ, i64_w, i32_w]
              rfl
            refine one_ (i := 3) (N := some 56) #[true, true, true, true, false] rfl rfl (by kernel_rfl) (by decide) (fun K hK => ?_)
            refine goes_ Try.func19 (by kernel_rfl) rfl #[.agg #[.int .i8 t492, .int .i16 t493, .slice Ao42 t494.length co42], .agg #[.int .i8 t507, .int .i16 t508, .slice Ao110 t509.length co110]] (by rfl) rfl rfl (by (try simp only [List.map_toArray, List.map_cons, List.map_nil]); first | done | rfl | (simp only [List.length_drop, List.length_take]; rfl)) ?_
            with_reducible refine (laws_eqNet.calls kj20 t492 t493 _ _ t494 t507 t508 _ _ t509 false _ ?side1 ?side2 ?side3 ?side4 A56.out).mono ?_
            (case side1 => repeat (first | exact (Kd.R_reads' HO_498002.out).2.2 | (with_reducible refine Kd.C_alloc ?_ _) | (with_reducible refine Kd.C_drewN ?_ _) | (with_reducible refine Kd.C_drew ?_)))
            (case side2 => exact (Kd.R_reads' HO_498002.out).2.1)
            (case side3 => repeat (first | exact (Kd.R_reads' HO511.out).2.2 | (with_reducible refine Kd.C_alloc ?_ _) | (with_reducible refine Kd.C_drewN ?_ _) | (with_reducible refine Kd.C_drew ?_)))
            (case side4 => exact (Kd.R_reads' HO511.out).2.1)
            rintro e w111 ⟨rfl, hb⟩
            refine ⟨_, rfl, ?_⟩
            have n0_ := Aside0.mk (Kd.R_below (by (with_reducible repeat (first | apply Kd.R_alloc | apply Kd.R_drewN | apply Kd.R_drew)); exact HO_8.out) hb)
            have n1_ := Aside0.mk (Kd.R_below (by (with_reducible repeat (first | apply Kd.R_alloc | apply Kd.R_drewN | apply Kd.R_drew)); exact HO_11.out) hb)
            have n2_ := Aside0.mk (Kd.R_below (by (with_reducible repeat (first | apply Kd.R_alloc | apply Kd.R_drewN | apply Kd.R_drew)); exact HO_498002.out) hb)
            have n3_ := Aside0.mk (Kd.R_below (by (with_reducible repeat (first | apply Kd.R_alloc | apply Kd.R_drewN | apply Kd.R_drew)); exact HO511.out) hb)
            have n4_ := Aside0.mk (blk_below (g := gb475) (o := .cells #[.int .i8 a0_0, .int .i16 a0_1, .slice A0_2 l0_2.length c0_2] 26 (0, 0)) (by (with_reducible repeat (first | refine blk_drewN ?_ _ | refine blk_drew ?_ | refine blk_alloc ?_ _)); exact BK475.out) hb)
            have n5_ := Aside0.mk (blk_below (g := gb476) (o := .cells #[.int .i8 a1_0, .int .i16 a1_1] 44 (0, 0)) (by (with_reducible repeat (first | refine blk_drewN ?_ _ | refine blk_drew ?_ | refine blk_alloc ?_ _)); exact BK476.out) hb)
            have n6_ := Aside0.mk (blk_below (g := gb477) (o := .cells #[.int .i8 a2_0, .int .i16 a2_1] 44 (0, 0)) (by (with_reducible repeat (first | refine blk_drewN ?_ _ | refine blk_drew ?_ | refine blk_alloc ?_ _)); exact BK477.out) hb)
            have n7_ := Aside0.mk (blk_below (g := gb497) (o := .cells #[.int .i8 t492, .int .i16 t493, .slice Ao42 t494.length co42] 31 (0, 0)) (by (with_reducible repeat (first | refine blk_drewN ?_ _ | refine blk_drew ?_ | refine blk_alloc ?_ _)); exact BK497.out) hb)
            have n8_ := Aside0.mk (below_step (by repeat (first | (with_reducible first | exact HB.out | apply below_alloc | apply pw_below_drewN | apply below_drew1 | refine below_set ?_ GE475.out | refine below_set ?_ GE476.out | refine below_set ?_ GE477.out | refine below_set ?_ GE497.out) | exact HB.out)) hb)
            clear HO_8
            clear HO_11
            clear HO_498002
            clear HO511
            clear BK475
            clear BK476
            clear BK477
            clear BK497
            clear HB
            have HO_8 := n0_
            have HO_11 := n1_
            have HO_498002 := n2_
            have HO511 := n3_
            have BK475 := n4_
            have BK476 := n5_
            have BK477 := n6_
            have BK497 := n7_
            have HB := n8_
            clear n0_ n1_ n2_ n3_ n4_ n5_ n6_ n7_ n8_
            (try clear hb)
            (try clear hb2)
            (try clear hk)
            (try clear hi)
            refine hK.out _ _ ⟨(blk_cell BK497.out 0).trans rfl, (blk_cell BK497.out 1).trans rfl, (blk_cell BK497.out 2).trans rfl, (blk_cell BK475.out 0).trans rfl, (blk_cell BK475.out 1).trans rfl, (blk_cell BK475.out 2).trans rfl⟩ (fun hHeld => ?_)
            clear hK K
            refine norm_ (a' := ?_) ?_ ?_
            rotate_left
            · show Act.put _ (some 56) _ = _
              simp only [Act.put, List.setIfInBounds_toArray, List.set_cons_zero, List.set_cons_succ, i64_w, i32_w]
              rfl
            refine pure_ (i := 4) (N := some 57) (v := ?_) (a' := ?_) #[true, true, true, true, true] rfl rfl (by kernel_rfl) (fun _ _ _ h => h) (Or.inl ⟨by rfl, ?_⟩) ?_ ?_
            rotate_left
            · intro w'
              go_simp
              with_reducible rfl
            rotate_left
            · simp only [Act.put, List.setIfInBounds_toArray, List.set_cons_zero, List.set_cons_succ, i64_w, i32_w]
              rfl
            refine done_ (by kernel_rfl) ?_
            try go_wp2
            go_ret
            exact ⟨by first | rfl | (simp [errW_none, errW_some] <;> rfl) | (simp [*, errW_none, errW_some] <;> rfl), by repeat (first | (with_reducible first | exact HB.out | apply below_alloc | apply pw_below_drewN | apply below_drew1 | refine below_set ?_ GE475.out | refine below_set ?_ GE476.out | refine below_set ?_ GE477.out | refine below_set ?_ GE497.out) | exact HB.out)⟩

end Go.Proofs.Ytgchiepnodoohaa.Q
