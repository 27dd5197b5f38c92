-- By a program of this session (wip/pr.py) that turns the kit's printer.
import Derived.Test.YtlcnjpibfjhibaaHFewS
import Derived.Test.YtlcnjpibfjhibaaQ0
import Derived.Test.YtlcnjpibfjhibaaQ1
import Derived.Test.YtlcnjpibfjhibaaQ3
import Derived.Test.YtlcnjpibfjhibaaQ4
import Derived.Test.YtlcnjpibfjhibaaQ5
import Derived.Test.YtlcnjpibfjhibaaQ6
import Derived.Test.YtlcnjpibfjhibaaQ7
import Derived.Test.YtlcnjpibfjhibaaQD
namespace Go.Proofs.Ytlcnjpibfjhibaa.Q
open Go.RowKit Go.Proofs.YtlcnjpibfjhibaaW.PrintWords Go.Proofs.YtlcnjpibfjhibaaW.PrintLast Go.Proofs.YtlcnjpibfjhibaaW.PrintMore
attribute [local go_sem] max2_int min2_int max_two min_two max_three min_three max_four min_four   -- for this text's walks alone
set_option linter.unusedVariables false
set_option linter.unusedSimpArgs false

set_option maxHeartbeats 80000000 in
set_option maxRecDepth 100000 in
theorem laws_FnStamps.calls (k : Nat) (A0 : Option Addr) (c0 : Nat) (l0 : List Int) (A1 : Option Addr) (c1 : Nat) (l1 : List Int) (r : Bool) (w : World) (hr0 : Kd.C (Kd.int .u8) w A0 l0.length l0) (hc0 : l0.length ≤ c0) (hr1 : Kd.C (Kd.int .u8) w A1 l1.length l1) (hc1 : l1.length ≤ c1) (h : laws_FnStamps.f k l0 l1 = some r) (hR : Aside0 (r = true)) :
  Calls Try.prog 5 #[.slice A0 l0.length c0, .slice A1 l1.length c1] w fun e w' => e = .returned (.bool r) ∧ Below w.heap.size w w' := by
 have HR0 := Aside0.mk hr0
 have HC0 := Aside0.mk hc0
 clear hr0 hc0
 have HR1 := Aside0.mk hr1
 have HC1 := Aside0.mk hc1
 clear hr1 hc1
 have HB := Aside0.mk (Below.refl w.heap.size w)
 have H : ((laws_f6big.f l0).bind fun t327 => (if t327 = true then (laws_FnStamps.j0 k l0 l1 true) else ((laws_f6big.f l1).bind fun t328 => (laws_FnStamps.j0 k l0 l1 t328)))) = some r := h
 clear h
 have HC3 := Aside0.mk H
 clear H
 go_enter Try.func5, Try.ntmps5
 go_upto_region 1 with (fail)
 go_cut [40] (fun v40 wc => ∃ (kq : Nat) (x40_2 : Bool), v40 = .bool x40_2 ∧ Aside0 (laws_FnStamps.j0 kq l0 l1 x40_2 = some r) ∧ Aside0 (kq ≤ k) ∧ Aside0 (Below w.heap.size w wc))
 case first =>
  as_aux_lemma =>
   have H := HC3.out
   clear HC3
   replace H := Option.bind_eq_some_iff.mp H
   obtain ⟨t327, A40, H⟩ := H
   replace H : (if t327 = true then (laws_FnStamps.j0 k l0 l1 true) else ((laws_f6big.f l1).bind fun t328 => (laws_FnStamps.j0 k l0 l1 t328))) = some r := H
   have A4 := Aside0.mk A40
   clear A40
   by_cases c5 : t327 = true
   ·subst c5
    have H1 : (laws_FnStamps.j0 k l0 l1 true) = some r := by rw [if_pos rfl] at H; exact H
    clear H
    have H := H1
    clear H1
    have H' := Aside0.mk H
    clear H
    as_aux_lemma =>
     go_wp2_with (first | ((with_reducible refine gate_callee (f := 6) rfl ?_); refine goesL_ (some 36) rfl rfl Try.func6 (by kernel_rfl) rfl #[.slice A0 l0.length c0] rfl (by (try simp only [List.map_toArray, List.map_cons, List.map_nil]); first | done | rfl | (simp only [List.length_drop, List.length_take]; rfl)) ?_; (with_reducible refine (laws_f6big.calls _ _ l0 true _ ?side1 ?side2 A4.out).mono ?_); (case side1 => repeat (first | exact (Kd.C_below HR0.out HB.out) | (with_reducible refine Kd.C_alloc ?_ _) | (with_reducible refine Kd.C_drewN ?_ _) | (with_reducible refine Kd.C_drew ?_))); (case side2 => exact HC0.out); rintro e w' ⟨rfl, ⟨nd, rfl⟩⟩; refine ⟨_, rfl, ?_⟩))
     go_meet
     case rel => exact ⟨_, (true), (by first | rfl | (simp; done) | (simp [*]; done)), H', ⟨by first | omega | exact Nat.le_refl _⟩, ⟨by repeat (first | (with_reducible first | exact HB.out | apply below_alloc | apply pw_below_drewN | apply below_drew1) | exact HB.out)⟩⟩
   ·replace c5 := Bool.eq_false_iff.mpr c5
    subst c5
    have H1 : ((laws_f6big.f l1).bind fun t328 => (laws_FnStamps.j0 k l0 l1 t328)) = some r := by rw [if_neg (show ¬ (false = true) by decide)] at H; exact H
    clear H
    have H := H1
    clear H1
    replace H := Option.bind_eq_some_iff.mp H
    obtain ⟨t328, A60, H⟩ := H
    replace H : (laws_FnStamps.j0 k l0 l1 t328) = some r := H
    have A6 := Aside0.mk A60
    clear A60
    have H' := Aside0.mk H
    clear H
    as_aux_lemma =>
     go_wp2_with (first | ((with_reducible refine gate_callee (f := 6) rfl ?_); refine goesL_ (some 36) rfl rfl Try.func6 (by kernel_rfl) rfl #[.slice A0 l0.length c0] rfl (by (try simp only [List.map_toArray, List.map_cons, List.map_nil]); first | done | rfl | (simp only [List.length_drop, List.length_take]; rfl)) ?_; (with_reducible refine (laws_f6big.calls _ _ l0 false _ ?side1 ?side2 A4.out).mono ?_); (case side1 => repeat (first | exact (Kd.C_below HR0.out HB.out) | (with_reducible refine Kd.C_alloc ?_ _) | (with_reducible refine Kd.C_drewN ?_ _) | (with_reducible refine Kd.C_drew ?_))); (case side2 => exact HC0.out); rintro e w' ⟨rfl, ⟨nd, rfl⟩⟩; refine ⟨_, rfl, ?_⟩) | (go_at_call 6; (with_reducible refine (laws_f6big.calls _ _ l1 t328 _ ?side1 ?side2 A6.out).mono ?_); (case side1 => repeat (first | exact (Kd.C_below HR1.out (by repeat (first | (with_reducible first | exact HB.out | apply below_alloc | apply pw_below_drewN | apply below_drew1) | exact HB.out))) | (with_reducible refine Kd.C_alloc ?_ _) | (with_reducible refine Kd.C_drewN ?_ _) | (with_reducible refine Kd.C_drew ?_))); (case side2 => exact HC1.out); rintro e w' ⟨rfl, ⟨nd, rfl⟩⟩))
     go_meet
     case rel => exact ⟨_, (t328), (by first | rfl | (simp; done) | (simp [*]; done)), H', ⟨by first | omega | exact Nat.le_refl _⟩, ⟨by repeat (first | (with_reducible first | exact HB.out | apply below_alloc | apply pw_below_drewN | apply below_drew1) | exact HB.out)⟩⟩
 case rest =>
  as_aux_lemma =>
   clear HC3
   try clear c1
   try clear p2
   try clear c5
   try clear c6
   obtain ⟨kq, x40_2, rfl, HA, HJ2, HB⟩ := hcut
   cases kq with
   | zero => exact absurd HA.out (by simp [laws_FnStamps.j0])
   | succ kj2 =>
    have H := HA.out
    clear HA
    simp only [laws_FnStamps.j0] at H
    by_cases c7 : x40_2 = true
    ·subst c7
     have H1 : (some true) = some r := by rw [if_pos rfl] at H; exact H
     clear H
     have H := H1
     clear H1
     obtain rfl := Option.some.inj H
     go_wp2
     go_ret
     exact ⟨by first | rfl | (simp [errW_none, errW_some] <;> rfl) | (simp [*, errW_none, errW_some] <;> rfl), by repeat (first | (with_reducible first | exact HB.out | apply below_alloc | apply pw_below_drewN | apply below_drew1) | exact HB.out)⟩
    ·replace c7 := Bool.eq_false_iff.mpr c7
     subst c7
     have H1 : ((spec_P6Values.f kj2 l0).bind fun t329 => ((spec_P6Pick.f l1 60).bind fun t332 => ((impl_CanPay.f kj2 t329 t332).bind fun bt333 => ((impl_FewestStamps.f t329 t332).bind fun bt335 => ((spec_FewestStamps.f kj2 t329 t332).bind fun bt340 => ((impl_GreedyStamps.f kj2 t329 t332).bind fun bt345 => ((spec_GreedyStamps.f kj2 t329 t332).bind fun bt350 => ((impl_WaysToPay.f kj2 t329 t332).bind fun bt355 => ((spec_WaysToPay.f kj2 t329 t332).bind fun bt357 => (if bt333.2 = 0 then (if bt335.2.2 = bt340.2.2 then ((spec_SameNumbers.f kj2 bt335.1 bt340.1).bind fun t359 => (if t359 = true then (if bt335.2.1 = bt340.2.1 then (if ((bt335.2.2 == 0) != bt333.1) = true then (laws_FnStamps.j1 kj2 t329 t332 bt333.1 bt340.1 bt340.2.1 bt345.2.2 bt350.1 bt350.2.1 true) else (if bt345.2.2 = bt350.2.2 then ((spec_SameNumbers.f kj2 bt345.1 bt350.1).bind fun t360 => (if t360 = true then (if bt345.2.1 = bt350.2.1 then (if bt355.2 = bt357.2 then (if bt355.2 = 0 then (if bt355.1 = bt357.1 then (if ((decide (bt357.1 > 0)) != bt333.1) = true then (laws_FnStamps.j1 kj2 t329 t332 bt333.1 bt340.1 bt340.2.1 bt345.2.2 bt350.1 bt350.2.1 true) else ((impl_ValidValues.f kj2 t329).bind fun t361 => (laws_FnStamps.j1 kj2 t329 t332 bt333.1 bt340.1 bt340.2.1 bt345.2.2 bt350.1 bt350.2.1 (!t361)))) else (laws_FnStamps.j1 kj2 t329 t332 bt333.1 bt340.1 bt340.2.1 bt345.2.2 bt350.1 bt350.2.1 true)) else (laws_FnStamps.j1 kj2 t329 t332 bt333.1 bt340.1 bt340.2.1 bt345.2.2 bt350.1 bt350.2.1 true)) else (laws_FnStamps.j1 kj2 t329 t332 bt333.1 bt340.1 bt340.2.1 bt345.2.2 bt350.1 bt350.2.1 true)) else (laws_FnStamps.j1 kj2 t329 t332 bt333.1 bt340.1 bt340.2.1 bt345.2.2 bt350.1 bt350.2.1 true)) else (laws_FnStamps.j1 kj2 t329 t332 bt333.1 bt340.1 bt340.2.1 bt345.2.2 bt350.1 bt350.2.1 true))) else (laws_FnStamps.j1 kj2 t329 t332 bt333.1 bt340.1 bt340.2.1 bt345.2.2 bt350.1 bt350.2.1 true))) else (laws_FnStamps.j1 kj2 t329 t332 bt333.1 bt340.1 bt340.2.1 bt345.2.2 bt350.1 bt350.2.1 true)) else (laws_FnStamps.j1 kj2 t329 t332 bt333.1 bt340.1 bt340.2.1 bt345.2.2 bt350.1 bt350.2.1 true))) else (laws_FnStamps.j1 kj2 t329 t332 bt333.1 bt340.1 bt340.2.1 bt345.2.2 bt350.1 bt350.2.1 true)) else (laws_FnStamps.j1 kj2 t329 t332 bt333.1 bt340.1 bt340.2.1 bt345.2.2 bt350.1 bt350.2.1 true))))))))))) = some r := by rw [if_neg (show ¬ (false = true) by decide)] at H; exact H
     clear H
     have H := H1
     clear H1
     replace H := Option.bind_eq_some_iff.mp H
     obtain ⟨t329, A80, H⟩ := H
     replace H : ((spec_P6Pick.f l1 60).bind fun t332 => ((impl_CanPay.f kj2 t329 t332).bind fun bt333 => ((impl_FewestStamps.f t329 t332).bind fun bt335 => ((spec_FewestStamps.f kj2 t329 t332).bind fun bt340 => ((impl_GreedyStamps.f kj2 t329 t332).bind fun bt345 => ((spec_GreedyStamps.f kj2 t329 t332).bind fun bt350 => ((impl_WaysToPay.f kj2 t329 t332).bind fun bt355 => ((spec_WaysToPay.f kj2 t329 t332).bind fun bt357 => (if bt333.2 = 0 then (if bt335.2.2 = bt340.2.2 then ((spec_SameNumbers.f kj2 bt335.1 bt340.1).bind fun t359 => (if t359 = true then (if bt335.2.1 = bt340.2.1 then (if ((bt335.2.2 == 0) != bt333.1) = true then (laws_FnStamps.j1 kj2 t329 t332 bt333.1 bt340.1 bt340.2.1 bt345.2.2 bt350.1 bt350.2.1 true) else (if bt345.2.2 = bt350.2.2 then ((spec_SameNumbers.f kj2 bt345.1 bt350.1).bind fun t360 => (if t360 = true then (if bt345.2.1 = bt350.2.1 then (if bt355.2 = bt357.2 then (if bt355.2 = 0 then (if bt355.1 = bt357.1 then (if ((decide (bt357.1 > 0)) != bt333.1) = true then (laws_FnStamps.j1 kj2 t329 t332 bt333.1 bt340.1 bt340.2.1 bt345.2.2 bt350.1 bt350.2.1 true) else ((impl_ValidValues.f kj2 t329).bind fun t361 => (laws_FnStamps.j1 kj2 t329 t332 bt333.1 bt340.1 bt340.2.1 bt345.2.2 bt350.1 bt350.2.1 (!t361)))) else (laws_FnStamps.j1 kj2 t329 t332 bt333.1 bt340.1 bt340.2.1 bt345.2.2 bt350.1 bt350.2.1 true)) else (laws_FnStamps.j1 kj2 t329 t332 bt333.1 bt340.1 bt340.2.1 bt345.2.2 bt350.1 bt350.2.1 true)) else (laws_FnStamps.j1 kj2 t329 t332 bt333.1 bt340.1 bt340.2.1 bt345.2.2 bt350.1 bt350.2.1 true)) else (laws_FnStamps.j1 kj2 t329 t332 bt333.1 bt340.1 bt340.2.1 bt345.2.2 bt350.1 bt350.2.1 true)) else (laws_FnStamps.j1 kj2 t329 t332 bt333.1 bt340.1 bt340.2.1 bt345.2.2 bt350.1 bt350.2.1 true))) else (laws_FnStamps.j1 kj2 t329 t332 bt333.1 bt340.1 bt340.2.1 bt345.2.2 bt350.1 bt350.2.1 true))) else (laws_FnStamps.j1 kj2 t329 t332 bt333.1 bt340.1 bt340.2.1 bt345.2.2 bt350.1 bt350.2.1 true)) else (laws_FnStamps.j1 kj2 t329 t332 bt333.1 bt340.1 bt340.2.1 bt345.2.2 bt350.1 bt350.2.1 true))) else (laws_FnStamps.j1 kj2 t329 t332 bt333.1 bt340.1 bt340.2.1 bt345.2.2 bt350.1 bt350.2.1 true)) else (laws_FnStamps.j1 kj2 t329 t332 bt333.1 bt340.1 bt340.2.1 bt345.2.2 bt350.1 bt350.2.1 true)))))))))) = some r := H
     have A8 := Aside0.mk A80
     clear A80
     replace H := Option.bind_eq_some_iff.mp H
     obtain ⟨t332, A90, H⟩ := H
     replace H : ((impl_CanPay.f kj2 t329 t332).bind fun bt333 => ((impl_FewestStamps.f t329 t332).bind fun bt335 => ((spec_FewestStamps.f kj2 t329 t332).bind fun bt340 => ((impl_GreedyStamps.f kj2 t329 t332).bind fun bt345 => ((spec_GreedyStamps.f kj2 t329 t332).bind fun bt350 => ((impl_WaysToPay.f kj2 t329 t332).bind fun bt355 => ((spec_WaysToPay.f kj2 t329 t332).bind fun bt357 => (if bt333.2 = 0 then (if bt335.2.2 = bt340.2.2 then ((spec_SameNumbers.f kj2 bt335.1 bt340.1).bind fun t359 => (if t359 = true then (if bt335.2.1 = bt340.2.1 then (if ((bt335.2.2 == 0) != bt333.1) = true then (laws_FnStamps.j1 kj2 t329 t332 bt333.1 bt340.1 bt340.2.1 bt345.2.2 bt350.1 bt350.2.1 true) else (if bt345.2.2 = bt350.2.2 then ((spec_SameNumbers.f kj2 bt345.1 bt350.1).bind fun t360 => (if t360 = true then (if bt345.2.1 = bt350.2.1 then (if bt355.2 = bt357.2 then (if bt355.2 = 0 then (if bt355.1 = bt357.1 then (if ((decide (bt357.1 > 0)) != bt333.1) = true then (laws_FnStamps.j1 kj2 t329 t332 bt333.1 bt340.1 bt340.2.1 bt345.2.2 bt350.1 bt350.2.1 true) else ((impl_ValidValues.f kj2 t329).bind fun t361 => (laws_FnStamps.j1 kj2 t329 t332 bt333.1 bt340.1 bt340.2.1 bt345.2.2 bt350.1 bt350.2.1 (!t361)))) else (laws_FnStamps.j1 kj2 t329 t332 bt333.1 bt340.1 bt340.2.1 bt345.2.2 bt350.1 bt350.2.1 true)) else (laws_FnStamps.j1 kj2 t329 t332 bt333.1 bt340.1 bt340.2.1 bt345.2.2 bt350.1 bt350.2.1 true)) else (laws_FnStamps.j1 kj2 t329 t332 bt333.1 bt340.1 bt340.2.1 bt345.2.2 bt350.1 bt350.2.1 true)) else (laws_FnStamps.j1 kj2 t329 t332 bt333.1 bt340.1 bt340.2.1 bt345.2.2 bt350.1 bt350.2.1 true)) else (laws_FnStamps.j1 kj2 t329 t332 bt333.1 bt340.1 bt340.2.1 bt345.2.2 bt350.1 bt350.2.1 true))) else (laws_FnStamps.j1 kj2 t329 t332 bt333.1 bt340.1 bt340.2.1 bt345.2.2 bt350.1 bt350.2.1 true))) else (laws_FnStamps.j1 kj2 t329 t332 bt333.1 bt340.1 bt340.2.1 bt345.2.2 bt350.1 bt350.2.1 true)) else (laws_FnStamps.j1 kj2 t329 t332 bt333.1 bt340.1 bt340.2.1 bt345.2.2 bt350.1 bt350.2.1 true))) else (laws_FnStamps.j1 kj2 t329 t332 bt333.1 bt340.1 bt340.2.1 bt345.2.2 bt350.1 bt350.2.1 true)) else (laws_FnStamps.j1 kj2 t329 t332 bt333.1 bt340.1 bt340.2.1 bt345.2.2 bt350.1 bt350.2.1 true))))))))) = some r := H
     have A9 := Aside0.mk A90
     clear A90
     replace H := Option.bind_eq_some_iff.mp H
     obtain ⟨⟨t333, t334⟩, A100, H⟩ := H
     replace H : ((impl_FewestStamps.f t329 t332).bind fun bt335 => ((spec_FewestStamps.f kj2 t329 t332).bind fun bt340 => ((impl_GreedyStamps.f kj2 t329 t332).bind fun bt345 => ((spec_GreedyStamps.f kj2 t329 t332).bind fun bt350 => ((impl_WaysToPay.f kj2 t329 t332).bind fun bt355 => ((spec_WaysToPay.f kj2 t329 t332).bind fun bt357 => (if t334 = 0 then (if bt335.2.2 = bt340.2.2 then ((spec_SameNumbers.f kj2 bt335.1 bt340.1).bind fun t359 => (if t359 = true then (if bt335.2.1 = bt340.2.1 then (if ((bt335.2.2 == 0) != t333) = true then (laws_FnStamps.j1 kj2 t329 t332 t333 bt340.1 bt340.2.1 bt345.2.2 bt350.1 bt350.2.1 true) else (if bt345.2.2 = bt350.2.2 then ((spec_SameNumbers.f kj2 bt345.1 bt350.1).bind fun t360 => (if t360 = true then (if bt345.2.1 = bt350.2.1 then (if bt355.2 = bt357.2 then (if bt355.2 = 0 then (if bt355.1 = bt357.1 then (if ((decide (bt357.1 > 0)) != t333) = true then (laws_FnStamps.j1 kj2 t329 t332 t333 bt340.1 bt340.2.1 bt345.2.2 bt350.1 bt350.2.1 true) else ((impl_ValidValues.f kj2 t329).bind fun t361 => (laws_FnStamps.j1 kj2 t329 t332 t333 bt340.1 bt340.2.1 bt345.2.2 bt350.1 bt350.2.1 (!t361)))) else (laws_FnStamps.j1 kj2 t329 t332 t333 bt340.1 bt340.2.1 bt345.2.2 bt350.1 bt350.2.1 true)) else (laws_FnStamps.j1 kj2 t329 t332 t333 bt340.1 bt340.2.1 bt345.2.2 bt350.1 bt350.2.1 true)) else (laws_FnStamps.j1 kj2 t329 t332 t333 bt340.1 bt340.2.1 bt345.2.2 bt350.1 bt350.2.1 true)) else (laws_FnStamps.j1 kj2 t329 t332 t333 bt340.1 bt340.2.1 bt345.2.2 bt350.1 bt350.2.1 true)) else (laws_FnStamps.j1 kj2 t329 t332 t333 bt340.1 bt340.2.1 bt345.2.2 bt350.1 bt350.2.1 true))) else (laws_FnStamps.j1 kj2 t329 t332 t333 bt340.1 bt340.2.1 bt345.2.2 bt350.1 bt350.2.1 true))) else (laws_FnStamps.j1 kj2 t329 t332 t333 bt340.1 bt340.2.1 bt345.2.2 bt350.1 bt350.2.1 true)) else (laws_FnStamps.j1 kj2 t329 t332 t333 bt340.1 bt340.2.1 bt345.2.2 bt350.1 bt350.2.1 true))) else (laws_FnStamps.j1 kj2 t329 t332 t333 bt340.1 bt340.2.1 bt345.2.2 bt350.1 bt350.2.1 true)) else (laws_FnStamps.j1 kj2 t329 t332 t333 bt340.1 bt340.2.1 bt345.2.2 bt350.1 bt350.2.1 true)))))))) = some r := H
     have A10 := Aside0.mk A100
     clear A100
     replace H := Option.bind_eq_some_iff.mp H
     obtain ⟨⟨t335, t336, t337⟩, A110, H⟩ := H
     replace H : ((spec_FewestStamps.f kj2 t329 t332).bind fun bt340 => ((impl_GreedyStamps.f kj2 t329 t332).bind fun bt345 => ((spec_GreedyStamps.f kj2 t329 t332).bind fun bt350 => ((impl_WaysToPay.f kj2 t329 t332).bind fun bt355 => ((spec_WaysToPay.f kj2 t329 t332).bind fun bt357 => (if t334 = 0 then (if t337 = bt340.2.2 then ((spec_SameNumbers.f kj2 t335 bt340.1).bind fun t359 => (if t359 = true then (if t336 = bt340.2.1 then (if ((t337 == 0) != t333) = true then (laws_FnStamps.j1 kj2 t329 t332 t333 bt340.1 bt340.2.1 bt345.2.2 bt350.1 bt350.2.1 true) else (if bt345.2.2 = bt350.2.2 then ((spec_SameNumbers.f kj2 bt345.1 bt350.1).bind fun t360 => (if t360 = true then (if bt345.2.1 = bt350.2.1 then (if bt355.2 = bt357.2 then (if bt355.2 = 0 then (if bt355.1 = bt357.1 then (if ((decide (bt357.1 > 0)) != t333) = true then (laws_FnStamps.j1 kj2 t329 t332 t333 bt340.1 bt340.2.1 bt345.2.2 bt350.1 bt350.2.1 true) else ((impl_ValidValues.f kj2 t329).bind fun t361 => (laws_FnStamps.j1 kj2 t329 t332 t333 bt340.1 bt340.2.1 bt345.2.2 bt350.1 bt350.2.1 (!t361)))) else (laws_FnStamps.j1 kj2 t329 t332 t333 bt340.1 bt340.2.1 bt345.2.2 bt350.1 bt350.2.1 true)) else (laws_FnStamps.j1 kj2 t329 t332 t333 bt340.1 bt340.2.1 bt345.2.2 bt350.1 bt350.2.1 true)) else (laws_FnStamps.j1 kj2 t329 t332 t333 bt340.1 bt340.2.1 bt345.2.2 bt350.1 bt350.2.1 true)) else (laws_FnStamps.j1 kj2 t329 t332 t333 bt340.1 bt340.2.1 bt345.2.2 bt350.1 bt350.2.1 true)) else (laws_FnStamps.j1 kj2 t329 t332 t333 bt340.1 bt340.2.1 bt345.2.2 bt350.1 bt350.2.1 true))) else (laws_FnStamps.j1 kj2 t329 t332 t333 bt340.1 bt340.2.1 bt345.2.2 bt350.1 bt350.2.1 true))) else (laws_FnStamps.j1 kj2 t329 t332 t333 bt340.1 bt340.2.1 bt345.2.2 bt350.1 bt350.2.1 true)) else (laws_FnStamps.j1 kj2 t329 t332 t333 bt340.1 bt340.2.1 bt345.2.2 bt350.1 bt350.2.1 true))) else (laws_FnStamps.j1 kj2 t329 t332 t333 bt340.1 bt340.2.1 bt345.2.2 bt350.1 bt350.2.1 true)) else (laws_FnStamps.j1 kj2 t329 t332 t333 bt340.1 bt340.2.1 bt345.2.2 bt350.1 bt350.2.1 true))))))) = some r := H
     have A11 := Aside0.mk A110
     clear A110
     replace H := Option.bind_eq_some_iff.mp H
     obtain ⟨⟨t340, t341, t342⟩, A120, H⟩ := H
     replace H : ((impl_GreedyStamps.f kj2 t329 t332).bind fun bt345 => ((spec_GreedyStamps.f kj2 t329 t332).bind fun bt350 => ((impl_WaysToPay.f kj2 t329 t332).bind fun bt355 => ((spec_WaysToPay.f kj2 t329 t332).bind fun bt357 => (if t334 = 0 then (if t337 = t342 then ((spec_SameNumbers.f kj2 t335 t340).bind fun t359 => (if t359 = true then (if t336 = t341 then (if ((t337 == 0) != t333) = true then (laws_FnStamps.j1 kj2 t329 t332 t333 t340 t341 bt345.2.2 bt350.1 bt350.2.1 true) else (if bt345.2.2 = bt350.2.2 then ((spec_SameNumbers.f kj2 bt345.1 bt350.1).bind fun t360 => (if t360 = true then (if bt345.2.1 = bt350.2.1 then (if bt355.2 = bt357.2 then (if bt355.2 = 0 then (if bt355.1 = bt357.1 then (if ((decide (bt357.1 > 0)) != t333) = true then (laws_FnStamps.j1 kj2 t329 t332 t333 t340 t341 bt345.2.2 bt350.1 bt350.2.1 true) else ((impl_ValidValues.f kj2 t329).bind fun t361 => (laws_FnStamps.j1 kj2 t329 t332 t333 t340 t341 bt345.2.2 bt350.1 bt350.2.1 (!t361)))) else (laws_FnStamps.j1 kj2 t329 t332 t333 t340 t341 bt345.2.2 bt350.1 bt350.2.1 true)) else (laws_FnStamps.j1 kj2 t329 t332 t333 t340 t341 bt345.2.2 bt350.1 bt350.2.1 true)) else (laws_FnStamps.j1 kj2 t329 t332 t333 t340 t341 bt345.2.2 bt350.1 bt350.2.1 true)) else (laws_FnStamps.j1 kj2 t329 t332 t333 t340 t341 bt345.2.2 bt350.1 bt350.2.1 true)) else (laws_FnStamps.j1 kj2 t329 t332 t333 t340 t341 bt345.2.2 bt350.1 bt350.2.1 true))) else (laws_FnStamps.j1 kj2 t329 t332 t333 t340 t341 bt345.2.2 bt350.1 bt350.2.1 true))) else (laws_FnStamps.j1 kj2 t329 t332 t333 t340 t341 bt345.2.2 bt350.1 bt350.2.1 true)) else (laws_FnStamps.j1 kj2 t329 t332 t333 t340 t341 bt345.2.2 bt350.1 bt350.2.1 true))) else (laws_FnStamps.j1 kj2 t329 t332 t333 t340 t341 bt345.2.2 bt350.1 bt350.2.1 true)) else (laws_FnStamps.j1 kj2 t329 t332 t333 t340 t341 bt345.2.2 bt350.1 bt350.2.1 true)))))) = some r := H
     have A12 := Aside0.mk A120
     clear A120
     replace H := Option.bind_eq_some_iff.mp H
     obtain ⟨⟨t345, t346, t347⟩, A130, H⟩ := H
     replace H : ((spec_GreedyStamps.f kj2 t329 t332).bind fun bt350 => ((impl_WaysToPay.f kj2 t329 t332).bind fun bt355 => ((spec_WaysToPay.f kj2 t329 t332).bind fun bt357 => (if t334 = 0 then (if t337 = t342 then ((spec_SameNumbers.f kj2 t335 t340).bind fun t359 => (if t359 = true then (if t336 = t341 then (if ((t337 == 0) != t333) = true then (laws_FnStamps.j1 kj2 t329 t332 t333 t340 t341 t347 bt350.1 bt350.2.1 true) else (if t347 = bt350.2.2 then ((spec_SameNumbers.f kj2 t345 bt350.1).bind fun t360 => (if t360 = true then (if t346 = bt350.2.1 then (if bt355.2 = bt357.2 then (if bt355.2 = 0 then (if bt355.1 = bt357.1 then (if ((decide (bt357.1 > 0)) != t333) = true then (laws_FnStamps.j1 kj2 t329 t332 t333 t340 t341 t347 bt350.1 bt350.2.1 true) else ((impl_ValidValues.f kj2 t329).bind fun t361 => (laws_FnStamps.j1 kj2 t329 t332 t333 t340 t341 t347 bt350.1 bt350.2.1 (!t361)))) else (laws_FnStamps.j1 kj2 t329 t332 t333 t340 t341 t347 bt350.1 bt350.2.1 true)) else (laws_FnStamps.j1 kj2 t329 t332 t333 t340 t341 t347 bt350.1 bt350.2.1 true)) else (laws_FnStamps.j1 kj2 t329 t332 t333 t340 t341 t347 bt350.1 bt350.2.1 true)) else (laws_FnStamps.j1 kj2 t329 t332 t333 t340 t341 t347 bt350.1 bt350.2.1 true)) else (laws_FnStamps.j1 kj2 t329 t332 t333 t340 t341 t347 bt350.1 bt350.2.1 true))) else (laws_FnStamps.j1 kj2 t329 t332 t333 t340 t341 t347 bt350.1 bt350.2.1 true))) else (laws_FnStamps.j1 kj2 t329 t332 t333 t340 t341 t347 bt350.1 bt350.2.1 true)) else (laws_FnStamps.j1 kj2 t329 t332 t333 t340 t341 t347 bt350.1 bt350.2.1 true))) else (laws_FnStamps.j1 kj2 t329 t332 t333 t340 t341 t347 bt350.1 bt350.2.1 true)) else (laws_FnStamps.j1 kj2 t329 t332 t333 t340 t341 t347 bt350.1 bt350.2.1 true))))) = some r := H
     have A13 := Aside0.mk A130
     clear A130
     replace H := Option.bind_eq_some_iff.mp H
     obtain ⟨⟨t350, t351, t352⟩, A140, H⟩ := H
     replace H : ((impl_WaysToPay.f kj2 t329 t332).bind fun bt355 => ((spec_WaysToPay.f kj2 t329 t332).bind fun bt357 => (if t334 = 0 then (if t337 = t342 then ((spec_SameNumbers.f kj2 t335 t340).bind fun t359 => (if t359 = true then (if t336 = t341 then (if ((t337 == 0) != t333) = true then (laws_FnStamps.j1 kj2 t329 t332 t333 t340 t341 t347 t350 t351 true) else (if t347 = t352 then ((spec_SameNumbers.f kj2 t345 t350).bind fun t360 => (if t360 = true then (if t346 = t351 then (if bt355.2 = bt357.2 then (if bt355.2 = 0 then (if bt355.1 = bt357.1 then (if ((decide (bt357.1 > 0)) != t333) = true then (laws_FnStamps.j1 kj2 t329 t332 t333 t340 t341 t347 t350 t351 true) else ((impl_ValidValues.f kj2 t329).bind fun t361 => (laws_FnStamps.j1 kj2 t329 t332 t333 t340 t341 t347 t350 t351 (!t361)))) else (laws_FnStamps.j1 kj2 t329 t332 t333 t340 t341 t347 t350 t351 true)) else (laws_FnStamps.j1 kj2 t329 t332 t333 t340 t341 t347 t350 t351 true)) else (laws_FnStamps.j1 kj2 t329 t332 t333 t340 t341 t347 t350 t351 true)) else (laws_FnStamps.j1 kj2 t329 t332 t333 t340 t341 t347 t350 t351 true)) else (laws_FnStamps.j1 kj2 t329 t332 t333 t340 t341 t347 t350 t351 true))) else (laws_FnStamps.j1 kj2 t329 t332 t333 t340 t341 t347 t350 t351 true))) else (laws_FnStamps.j1 kj2 t329 t332 t333 t340 t341 t347 t350 t351 true)) else (laws_FnStamps.j1 kj2 t329 t332 t333 t340 t341 t347 t350 t351 true))) else (laws_FnStamps.j1 kj2 t329 t332 t333 t340 t341 t347 t350 t351 true)) else (laws_FnStamps.j1 kj2 t329 t332 t333 t340 t341 t347 t350 t351 true)))) = some r := H
     have A14 := Aside0.mk A140
     clear A140
     replace H := Option.bind_eq_some_iff.mp H
     obtain ⟨⟨t355, t356⟩, A150, H⟩ := H
     replace H : ((spec_WaysToPay.f kj2 t329 t332).bind fun bt357 => (if t334 = 0 then (if t337 = t342 then ((spec_SameNumbers.f kj2 t335 t340).bind fun t359 => (if t359 = true then (if t336 = t341 then (if ((t337 == 0) != t333) = true then (laws_FnStamps.j1 kj2 t329 t332 t333 t340 t341 t347 t350 t351 true) else (if t347 = t352 then ((spec_SameNumbers.f kj2 t345 t350).bind fun t360 => (if t360 = true then (if t346 = t351 then (if t356 = bt357.2 then (if t356 = 0 then (if t355 = bt357.1 then (if ((decide (bt357.1 > 0)) != t333) = true then (laws_FnStamps.j1 kj2 t329 t332 t333 t340 t341 t347 t350 t351 true) else ((impl_ValidValues.f kj2 t329).bind fun t361 => (laws_FnStamps.j1 kj2 t329 t332 t333 t340 t341 t347 t350 t351 (!t361)))) else (laws_FnStamps.j1 kj2 t329 t332 t333 t340 t341 t347 t350 t351 true)) else (laws_FnStamps.j1 kj2 t329 t332 t333 t340 t341 t347 t350 t351 true)) else (laws_FnStamps.j1 kj2 t329 t332 t333 t340 t341 t347 t350 t351 true)) else (laws_FnStamps.j1 kj2 t329 t332 t333 t340 t341 t347 t350 t351 true)) else (laws_FnStamps.j1 kj2 t329 t332 t333 t340 t341 t347 t350 t351 true))) else (laws_FnStamps.j1 kj2 t329 t332 t333 t340 t341 t347 t350 t351 true))) else (laws_FnStamps.j1 kj2 t329 t332 t333 t340 t341 t347 t350 t351 true)) else (laws_FnStamps.j1 kj2 t329 t332 t333 t340 t341 t347 t350 t351 true))) else (laws_FnStamps.j1 kj2 t329 t332 t333 t340 t341 t347 t350 t351 true)) else (laws_FnStamps.j1 kj2 t329 t332 t333 t340 t341 t347 t350 t351 true))) = some r := H
     have A15 := Aside0.mk A150
     clear A150
     replace H := Option.bind_eq_some_iff.mp H
     obtain ⟨⟨t357, t358⟩, A160, H⟩ := H
     replace H : (if t334 = 0 then (if t337 = t342 then ((spec_SameNumbers.f kj2 t335 t340).bind fun t359 => (if t359 = true then (if t336 = t341 then (if ((t337 == 0) != t333) = true then (laws_FnStamps.j1 kj2 t329 t332 t333 t340 t341 t347 t350 t351 true) else (if t347 = t352 then ((spec_SameNumbers.f kj2 t345 t350).bind fun t360 => (if t360 = true then (if t346 = t351 then (if t356 = t358 then (if t356 = 0 then (if t355 = t357 then (if ((decide (t357 > 0)) != t333) = true then (laws_FnStamps.j1 kj2 t329 t332 t333 t340 t341 t347 t350 t351 true) else ((impl_ValidValues.f kj2 t329).bind fun t361 => (laws_FnStamps.j1 kj2 t329 t332 t333 t340 t341 t347 t350 t351 (!t361)))) else (laws_FnStamps.j1 kj2 t329 t332 t333 t340 t341 t347 t350 t351 true)) else (laws_FnStamps.j1 kj2 t329 t332 t333 t340 t341 t347 t350 t351 true)) else (laws_FnStamps.j1 kj2 t329 t332 t333 t340 t341 t347 t350 t351 true)) else (laws_FnStamps.j1 kj2 t329 t332 t333 t340 t341 t347 t350 t351 true)) else (laws_FnStamps.j1 kj2 t329 t332 t333 t340 t341 t347 t350 t351 true))) else (laws_FnStamps.j1 kj2 t329 t332 t333 t340 t341 t347 t350 t351 true))) else (laws_FnStamps.j1 kj2 t329 t332 t333 t340 t341 t347 t350 t351 true)) else (laws_FnStamps.j1 kj2 t329 t332 t333 t340 t341 t347 t350 t351 true))) else (laws_FnStamps.j1 kj2 t329 t332 t333 t340 t341 t347 t350 t351 true)) else (laws_FnStamps.j1 kj2 t329 t332 t333 t340 t341 t347 t350 t351 true)) = some r := H
     have A16 := Aside0.mk A160
     clear A160
     have HC17 := Aside0.mk H
     clear H
     go_upto_region 12 with (first | ((with_reducible refine gate_callee (f := 7) rfl ?_); refine goesL_ (some 42) rfl rfl Try.func7 (by kernel_rfl) rfl #[.slice A0 l0.length c0] rfl (by (try simp only [List.map_toArray, List.map_cons, List.map_nil]); first | done | rfl | (simp only [List.length_drop, List.length_take]; rfl)) ?_; (with_reducible refine (spec_P6Values.calls kj2 _ _ l0 t329 _ ?side1 ?side2 A8.out).mono ?_); (case side1 => repeat (first | exact (Kd.C_below HR0.out HB.out) | (with_reducible refine Kd.C_alloc ?_ _) | (with_reducible refine Kd.C_drewN ?_ _) | (with_reducible refine Kd.C_drew ?_))); (case side2 => exact HC0.out); rintro e w18 ⟨v330, rfl, ho0, hb⟩; refine ⟨_, rfl, ?_⟩; have n0_ := Aside0.mk (Kd.R_lower ho0 (below_size (by repeat (first | (with_reducible first | exact HB.out | apply below_alloc | apply pw_below_drewN | apply below_drew1) | exact HB.out)))); have n1_ := Aside0.mk (below_step (by repeat (first | (with_reducible first | exact HB.out | apply below_alloc | apply pw_below_drewN | apply below_drew1) | exact HB.out)) hb); clear HB; have HO331 := n0_; have HB := n1_; clear n0_ n1_; (try clear hb); (try clear hb2); (try clear hk); (try clear hi); (try clear ho0)) | ((with_reducible refine gate_callee (f := 8) rfl ?_); refine goesL_ (some 44) rfl rfl Try.func8 (by kernel_rfl) rfl #[.slice A1 l1.length c1, .int .i64 60] rfl (by (try simp only [List.map_toArray, List.map_cons, List.map_nil]); first | done | rfl | (simp only [List.length_drop, List.length_take]; rfl)) ?_; (with_reducible refine (spec_P6Pick.calls _ _ l1 60 t332 _ ?side1 ?side2 A9.out).mono ?_); (case side1 => repeat (first | exact (Kd.C_below HR1.out HB.out) | (with_reducible refine Kd.C_alloc ?_ _) | (with_reducible refine Kd.C_drewN ?_ _) | (with_reducible refine Kd.C_drew ?_))); (case side2 => exact HC1.out); rintro e w19 ⟨rfl, hb⟩; refine ⟨_, rfl, ?_⟩; have n0_ := Aside0.mk (Kd.R_below (by (with_reducible repeat (first | apply Kd.R_alloc | apply Kd.R_drewN | apply Kd.R_drew)); exact HO331.out) hb); have n1_ := Aside0.mk (below_step (by repeat (first | (with_reducible first | exact HB.out | apply below_alloc | apply pw_below_drewN | apply below_drew1) | exact HB.out)) hb); clear HO331; clear HB; have HO331 := n0_; have HB := n1_; clear n0_ n1_; (try clear hb); (try clear hb2); (try clear hk); (try clear hi); obtain ⟨Ao20, co20, eo20⟩ := Kd.R_slice HO331.out; subst eo20) | ((with_reducible refine gate_callee (f := 14) rfl ?_); refine goesL_ (some 48) rfl rfl Try.func14 (by kernel_rfl) rfl #[.slice Ao20 t329.length co20, .int .i64 t332] rfl (by (try simp only [List.map_toArray, List.map_cons, List.map_nil]); first | done | rfl | (simp only [List.length_drop, List.length_take]; rfl)) ?_; (with_reducible refine (impl_CanPay.calls kj2 _ _ t329 t332 t333 t334 _ ?side1 ?side2 A10.out).mono ?_); (case side1 => repeat (first | exact (Kd.R_reads' HO331.out).2.2 | (with_reducible refine Kd.C_alloc ?_ _) | (with_reducible refine Kd.C_drewN ?_ _) | (with_reducible refine Kd.C_drew ?_))); (case side2 => exact (Kd.R_reads' HO331.out).2.1); rintro e w21 ⟨rfl, hb⟩; refine ⟨_, rfl, ?_⟩; have n0_ := Aside0.mk (Kd.R_below (by (with_reducible repeat (first | apply Kd.R_alloc | apply Kd.R_drewN | apply Kd.R_drew)); exact HO331.out) hb); have n1_ := Aside0.mk (below_step (by repeat (first | (with_reducible first | exact HB.out | apply below_alloc | apply pw_below_drewN | apply below_drew1) | exact HB.out)) hb); clear HO331; clear HB; have HO331 := n0_; have HB := n1_; clear n0_ n1_; (try clear hb); (try clear hb2); (try clear hk); (try clear hi)) | ((with_reducible refine gate_callee (f := 20) rfl ?_); refine goesL_ (some 54) rfl rfl Try.func20 (by kernel_rfl) rfl #[.slice Ao20 t329.length co20, .int .i64 t332] rfl (by (try simp only [List.map_toArray, List.map_cons, List.map_nil]); first | done | rfl | (simp only [List.length_drop, List.length_take]; rfl)) ?_; (with_reducible refine (impl_FewestStamps.calls _ _ t329 t332 t335 t336 t337 _ ?side1 ?side2 A11.out).mono ?_); (case side1 => repeat (first | exact (Kd.R_reads' HO331.out).2.2 | (with_reducible refine Kd.C_alloc ?_ _) | (with_reducible refine Kd.C_drewN ?_ _) | (with_reducible refine Kd.C_drew ?_))); (case side2 => exact (Kd.R_reads' HO331.out).2.1); rintro e w22 ⟨v338, rfl, ho0, hb⟩; refine ⟨_, rfl, ?_⟩; have n0_ := Aside0.mk (Kd.R_elder' (by (with_reducible repeat (first | apply Kd.R_alloc | apply Kd.R_drewN | apply Kd.R_drew)); exact HO331.out) (Kd.R_base ho0) hb); have n1_ := Aside0.mk (Kd.R_lower (Kd.R_new' ho0 (Kd.R_lt (by (with_reducible repeat (first | apply Kd.R_alloc | apply Kd.R_drewN | apply Kd.R_drew)); exact HO331.out))) (below_size (by repeat (first | (with_reducible first | exact HB.out | apply below_alloc | apply pw_below_drewN | apply below_drew1) | exact HB.out)))); have n2_ := Aside0.mk (below_step (by repeat (first | (with_reducible first | exact HB.out | apply below_alloc | apply pw_below_drewN | apply below_drew1) | exact HB.out)) hb); clear HO331; clear HB; have HO331 := n0_; have HO339 := n1_; have HB := n2_; clear n0_ n1_ n2_; (try clear hb); (try clear hb2); (try clear hk); (try clear hi); (try clear ho0)) | ((with_reducible refine gate_callee (f := 23) rfl ?_); refine goesL_ (some 61) rfl rfl Try.func23 (by kernel_rfl) rfl #[.slice Ao20 t329.length co20, .int .i64 t332] rfl (by (try simp only [List.map_toArray, List.map_cons, List.map_nil]); first | done | rfl | (simp only [List.length_drop, List.length_take]; rfl)) ?_; (with_reducible refine (spec_FewestStamps.calls kj2 _ _ t329 t332 t340 t341 t342 _ ?side1 ?side2 A12.out).mono ?_); (case side1 => repeat (first | exact (Kd.R_reads' HO331.out).2.2 | (with_reducible refine Kd.C_alloc ?_ _) | (with_reducible refine Kd.C_drewN ?_ _) | (with_reducible refine Kd.C_drew ?_))); (case side2 => exact (Kd.R_reads' HO331.out).2.1); rintro e w23 ⟨v343, rfl, ho0, hb⟩; refine ⟨_, rfl, ?_⟩; have n0_ := Aside0.mk (Kd.R_elder' (by (with_reducible repeat (first | apply Kd.R_alloc | apply Kd.R_drewN | apply Kd.R_drew)); exact HO331.out) (Kd.R_base ho0) hb); have n1_ := Aside0.mk (Kd.R_elder' (by (with_reducible repeat (first | apply Kd.R_alloc | apply Kd.R_drewN | apply Kd.R_drew)); exact HO339.out) (Kd.R_base ho0) hb); have n2_ := Aside0.mk (Kd.R_lower (Kd.R_new' (Kd.R_new' ho0 (Kd.R_lt (by (with_reducible repeat (first | apply Kd.R_alloc | apply Kd.R_drewN | apply Kd.R_drew)); exact HO331.out))) (Kd.R_lt (by (with_reducible repeat (first | apply Kd.R_alloc | apply Kd.R_drewN | apply Kd.R_drew)); exact HO339.out))) (below_size (by repeat (first | (with_reducible first | exact HB.out | apply below_alloc | apply pw_below_drewN | apply below_drew1) | exact HB.out)))); have n3_ := Aside0.mk (below_step (by repeat (first | (with_reducible first | exact HB.out | apply below_alloc | apply pw_below_drewN | apply below_drew1) | exact HB.out)) hb); clear HO331; clear HO339; clear HB; have HO331 := n0_; have HO339 := n1_; have HO344 := n2_; have HB := n3_; clear n0_ n1_ n2_ n3_; (try clear hb); (try clear hb2); (try clear hk); (try clear hi); (try clear ho0)) | ((with_reducible refine gate_callee (f := 24) rfl ?_); refine goesL_ (some 68) rfl rfl Try.func24 (by kernel_rfl) rfl #[.slice Ao20 t329.length co20, .int .i64 t332] rfl (by (try simp only [List.map_toArray, List.map_cons, List.map_nil]); first | done | rfl | (simp only [List.length_drop, List.length_take]; rfl)) ?_; (with_reducible refine (impl_GreedyStamps.calls kj2 _ _ t329 t332 t345 t346 t347 _ ?side1 ?side2 A13.out).mono ?_); (case side1 => repeat (first | exact (Kd.R_reads' HO331.out).2.2 | (with_reducible refine Kd.C_alloc ?_ _) | (with_reducible refine Kd.C_drewN ?_ _) | (with_reducible refine Kd.C_drew ?_))); (case side2 => exact (Kd.R_reads' HO331.out).2.1); rintro e w24 ⟨v348, rfl, ho0, hb⟩; refine ⟨_, rfl, ?_⟩; have n0_ := Aside0.mk (Kd.R_elder' (by (with_reducible repeat (first | apply Kd.R_alloc | apply Kd.R_drewN | apply Kd.R_drew)); exact HO331.out) (Kd.R_base ho0) hb); have n1_ := Aside0.mk (Kd.R_elder' (by (with_reducible repeat (first | apply Kd.R_alloc | apply Kd.R_drewN | apply Kd.R_drew)); exact HO339.out) (Kd.R_base ho0) hb); have n2_ := Aside0.mk (Kd.R_elder' (by (with_reducible repeat (first | apply Kd.R_alloc | apply Kd.R_drewN | apply Kd.R_drew)); exact HO344.out) (Kd.R_base ho0) hb); have n3_ := Aside0.mk (Kd.R_lower (Kd.R_new' (Kd.R_new' (Kd.R_new' ho0 (Kd.R_lt (by (with_reducible repeat (first | apply Kd.R_alloc | apply Kd.R_drewN | apply Kd.R_drew)); exact HO331.out))) (Kd.R_lt (by (with_reducible repeat (first | apply Kd.R_alloc | apply Kd.R_drewN | apply Kd.R_drew)); exact HO339.out))) (Kd.R_lt (by (with_reducible repeat (first | apply Kd.R_alloc | apply Kd.R_drewN | apply Kd.R_drew)); exact HO344.out))) (below_size (by repeat (first | (with_reducible first | exact HB.out | apply below_alloc | apply pw_below_drewN | apply below_drew1) | exact HB.out)))); have n4_ := Aside0.mk (below_step (by repeat (first | (with_reducible first | exact HB.out | apply below_alloc | apply pw_below_drewN | apply below_drew1) | exact HB.out)) hb); clear HO331; clear HO339; clear HO344; clear HB; have HO331 := n0_; have HO339 := n1_; have HO344 := n2_; have HO349 := n3_; have HB := n4_; clear n0_ n1_ n2_ n3_ n4_; (try clear hb); (try clear hb2); (try clear hk); (try clear hi); (try clear ho0)) | ((with_reducible refine gate_callee (f := 25) rfl ?_); refine goesL_ (some 75) rfl rfl Try.func25 (by kernel_rfl) rfl #[.slice Ao20 t329.length co20, .int .i64 t332] rfl (by (try simp only [List.map_toArray, List.map_cons, List.map_nil]); first | done | rfl | (simp only [List.length_drop, List.length_take]; rfl)) ?_; (with_reducible refine (spec_GreedyStamps.calls kj2 _ _ t329 t332 t350 t351 t352 _ ?side1 ?side2 A14.out).mono ?_); (case side1 => repeat (first | exact (Kd.R_reads' HO331.out).2.2 | (with_reducible refine Kd.C_alloc ?_ _) | (with_reducible refine Kd.C_drewN ?_ _) | (with_reducible refine Kd.C_drew ?_))); (case side2 => exact (Kd.R_reads' HO331.out).2.1); rintro e w25 ⟨v353, rfl, ho0, hb⟩; refine ⟨_, rfl, ?_⟩; have n0_ := Aside0.mk (Kd.R_elder' (by (with_reducible repeat (first | apply Kd.R_alloc | apply Kd.R_drewN | apply Kd.R_drew)); exact HO331.out) (Kd.R_base ho0) hb); have n1_ := Aside0.mk (Kd.R_elder' (by (with_reducible repeat (first | apply Kd.R_alloc | apply Kd.R_drewN | apply Kd.R_drew)); exact HO339.out) (Kd.R_base ho0) hb); have n2_ := Aside0.mk (Kd.R_elder' (by (with_reducible repeat (first | apply Kd.R_alloc | apply Kd.R_drewN | apply Kd.R_drew)); exact HO344.out) (Kd.R_base ho0) hb); have n3_ := Aside0.mk (Kd.R_elder' (by (with_reducible repeat (first | apply Kd.R_alloc | apply Kd.R_drewN | apply Kd.R_drew)); exact HO349.out) (Kd.R_base ho0) hb); have n4_ := Aside0.mk (Kd.R_lower (Kd.R_new' (Kd.R_new' (Kd.R_new' (Kd.R_new' ho0 (Kd.R_lt (by (with_reducible repeat (first | apply Kd.R_alloc | apply Kd.R_drewN | apply Kd.R_drew)); exact HO331.out))) (Kd.R_lt (by (with_reducible repeat (first | apply Kd.R_alloc | apply Kd.R_drewN | apply Kd.R_drew)); exact HO339.out))) (Kd.R_lt (by (with_reducible repeat (first | apply Kd.R_alloc | apply Kd.R_drewN | apply Kd.R_drew)); exact HO344.out))) (Kd.R_lt (by (with_reducible repeat (first | apply Kd.R_alloc | apply Kd.R_drewN | apply Kd.R_drew)); exact HO349.out))) (below_size (by repeat (first | (with_reducible first | exact HB.out | apply below_alloc | apply pw_below_drewN | apply below_drew1) | exact HB.out)))); have n5_ := Aside0.mk (below_step (by repeat (first | (with_reducible first | exact HB.out | apply below_alloc | apply pw_below_drewN | apply below_drew1) | exact HB.out)) hb); clear HO331; clear HO339; clear HO344; clear HO349; clear HB; have HO331 := n0_; have HO339 := n1_; have HO344 := n2_; have HO349 := n3_; have HO354 := n4_; have HB := n5_; clear n0_ n1_ n2_ n3_ n4_ n5_; (try clear hb); (try clear hb2); (try clear hk); (try clear hi); (try clear ho0)) | ((with_reducible refine gate_callee (f := 26) rfl ?_); refine goesL_ (some 82) rfl rfl Try.func26 (by kernel_rfl) rfl #[.slice Ao20 t329.length co20, .int .i64 t332] rfl (by (try simp only [List.map_toArray, List.map_cons, List.map_nil]); first | done | rfl | (simp only [List.length_drop, List.length_take]; rfl)) ?_; (with_reducible refine (impl_WaysToPay.calls kj2 _ _ t329 t332 t355 t356 _ ?side1 ?side2 A15.out).mono ?_); (case side1 => repeat (first | exact (Kd.R_reads' HO331.out).2.2 | (with_reducible refine Kd.C_alloc ?_ _) | (with_reducible refine Kd.C_drewN ?_ _) | (with_reducible refine Kd.C_drew ?_))); (case side2 => exact (Kd.R_reads' HO331.out).2.1); rintro e w26 ⟨rfl, hb⟩; refine ⟨_, rfl, ?_⟩; have n0_ := Aside0.mk (Kd.R_below (by (with_reducible repeat (first | apply Kd.R_alloc | apply Kd.R_drewN | apply Kd.R_drew)); exact HO331.out) hb); have n1_ := Aside0.mk (Kd.R_below (by (with_reducible repeat (first | apply Kd.R_alloc | apply Kd.R_drewN | apply Kd.R_drew)); exact HO339.out) hb); have n2_ := Aside0.mk (Kd.R_below (by (with_reducible repeat (first | apply Kd.R_alloc | apply Kd.R_drewN | apply Kd.R_drew)); exact HO344.out) hb); have n3_ := Aside0.mk (Kd.R_below (by (with_reducible repeat (first | apply Kd.R_alloc | apply Kd.R_drewN | apply Kd.R_drew)); exact HO349.out) hb); have n4_ := Aside0.mk (Kd.R_below (by (with_reducible repeat (first | apply Kd.R_alloc | apply Kd.R_drewN | apply Kd.R_drew)); exact HO354.out) hb); have n5_ := Aside0.mk (below_step (by repeat (first | (with_reducible first | exact HB.out | apply below_alloc | apply pw_below_drewN | apply below_drew1) | exact HB.out)) hb); clear HO331; clear HO339; clear HO344; clear HO349; clear HO354; clear HB; have HO331 := n0_; have HO339 := n1_; have HO344 := n2_; have HO349 := n3_; have HO354 := n4_; have HB := n5_; clear n0_ n1_ n2_ n3_ n4_ n5_; (try clear hb); (try clear hb2); (try clear hk); (try clear hi)) | ((with_reducible refine gate_callee (f := 27) rfl ?_); refine goesL_ (some 88) rfl rfl Try.func27 (by kernel_rfl) rfl #[.slice Ao20 t329.length co20, .int .i64 t332] rfl (by (try simp only [List.map_toArray, List.map_cons, List.map_nil]); first | done | rfl | (simp only [List.length_drop, List.length_take]; rfl)) ?_; (with_reducible refine (spec_WaysToPay.calls kj2 _ _ t329 t332 t357 t358 _ ?side1 ?side2 A16.out).mono ?_); (case side1 => repeat (first | exact (Kd.R_reads' HO331.out).2.2 | (with_reducible refine Kd.C_alloc ?_ _) | (with_reducible refine Kd.C_drewN ?_ _) | (with_reducible refine Kd.C_drew ?_))); (case side2 => exact (Kd.R_reads' HO331.out).2.1); rintro e w27 ⟨rfl, hb⟩; refine ⟨_, rfl, ?_⟩; have n0_ := Aside0.mk (Kd.R_below (by (with_reducible repeat (first | apply Kd.R_alloc | apply Kd.R_drewN | apply Kd.R_drew)); exact HO331.out) hb); have n1_ := Aside0.mk (Kd.R_below (by (with_reducible repeat (first | apply Kd.R_alloc | apply Kd.R_drewN | apply Kd.R_drew)); exact HO339.out) hb); have n2_ := Aside0.mk (Kd.R_below (by (with_reducible repeat (first | apply Kd.R_alloc | apply Kd.R_drewN | apply Kd.R_drew)); exact HO344.out) hb); have n3_ := Aside0.mk (Kd.R_below (by (with_reducible repeat (first | apply Kd.R_alloc | apply Kd.R_drewN | apply Kd.R_drew)); exact HO349.out) hb); have n4_ := Aside0.mk (Kd.R_below (by (with_reducible repeat (first | apply Kd.R_alloc | apply Kd.R_drewN | apply Kd.R_drew)); exact HO354.out) hb); have n5_ := Aside0.mk (below_step (by repeat (first | (with_reducible first | exact HB.out | apply below_alloc | apply pw_below_drewN | apply below_drew1) | exact HB.out)) hb); clear HO331; clear HO339; clear HO344; clear HO349; clear HO354; clear HB; have HO331 := n0_; have HO339 := n1_; have HO344 := n2_; have HO349 := n3_; have HO354 := n4_; have HB := n5_; clear n0_ n1_ n2_ n3_ n4_ n5_; (try clear hb); (try clear hb2); (try clear hk); (try clear hi)))
     (try simp only [Act.put, List.setIfInBounds_toArray, List.set_cons_zero, List.set_cons_succ])
     go_cut [155] (fun v155 wc => ∃ (kq : Nat) (x155_16 : Bool), v155 = .bool x155_16 ∧ Aside0 (laws_FnStamps.j1 kq t329 t332 t333 t340 t341 t347 t350 t351 x155_16 = some r) ∧ Aside0 (kq ≤ kj2) ∧ Aside0 (Kd.R (Kd.int .i64) 2 wc w.heap.size (fun k_ => some k_ ≠ (v343 : Value).ownBlock ∧ some k_ ≠ (v353 : Value).ownBlock) (.slice Ao20 t329.length co20) t329) ∧ Aside0 (Kd.R (Kd.int .i64) 2 wc w.heap.size (fun k_ => some k_ ≠ ((.slice Ao20 t329.length co20) : Value).ownBlock ∧ some k_ ≠ (v353 : Value).ownBlock) v343 t340) ∧ Aside0 (Kd.R (Kd.int .i64) 2 wc w.heap.size (fun k_ => some k_ ≠ ((.slice Ao20 t329.length co20) : Value).ownBlock ∧ some k_ ≠ (v343 : Value).ownBlock) v353 t350) ∧ Aside0 (Below w.heap.size w wc))
     case first =>
      as_aux_lemma =>
       have H := HC17.out
       clear HC17
       by_cases c28 : t334 = 0
       ·rw [if_pos c28] at H
        have c28b0 : (t334 == 0) = true := beq_iff_eq.mpr c28
        have c28b1 : (t334 != 0) = false := bne_eq_false_iff_eq.mpr c28
        clear c28
        (first | rw [c28b0] | (simp only [i64_w, i32_w]; rw [c28b0]) | skip)
        by_cases c29 : t337 = t342
        ·rw [if_pos c29] at H
         have c29b0 : (t337 == t342) = true := beq_iff_eq.mpr c29
         have c29b1 : (t337 != t342) = false := bne_eq_false_iff_eq.mpr c29
         clear c29
         replace H := Option.bind_eq_some_iff.mp H
         obtain ⟨t359, A300, H⟩ := H
         replace H : (if t359 = true then (if t336 = t341 then (if ((t337 == 0) != t333) = true then (laws_FnStamps.j1 kj2 t329 t332 t333 t340 t341 t347 t350 t351 true) else (if t347 = t352 then ((spec_SameNumbers.f kj2 t345 t350).bind fun t360 => (if t360 = true then (if t346 = t351 then (if t356 = t358 then (if t356 = 0 then (if t355 = t357 then (if ((decide (t357 > 0)) != t333) = true then (laws_FnStamps.j1 kj2 t329 t332 t333 t340 t341 t347 t350 t351 true) else ((impl_ValidValues.f kj2 t329).bind fun t361 => (laws_FnStamps.j1 kj2 t329 t332 t333 t340 t341 t347 t350 t351 (!t361)))) else (laws_FnStamps.j1 kj2 t329 t332 t333 t340 t341 t347 t350 t351 true)) else (laws_FnStamps.j1 kj2 t329 t332 t333 t340 t341 t347 t350 t351 true)) else (laws_FnStamps.j1 kj2 t329 t332 t333 t340 t341 t347 t350 t351 true)) else (laws_FnStamps.j1 kj2 t329 t332 t333 t340 t341 t347 t350 t351 true)) else (laws_FnStamps.j1 kj2 t329 t332 t333 t340 t341 t347 t350 t351 true))) else (laws_FnStamps.j1 kj2 t329 t332 t333 t340 t341 t347 t350 t351 true))) else (laws_FnStamps.j1 kj2 t329 t332 t333 t340 t341 t347 t350 t351 true)) else (laws_FnStamps.j1 kj2 t329 t332 t333 t340 t341 t347 t350 t351 true)) = some r := H
         have A30 := Aside0.mk A300
         clear A300
         by_cases c31 : t359 = true
         ·subst c31
          have H1 : (if t336 = t341 then (if ((t337 == 0) != t333) = true then (laws_FnStamps.j1 kj2 t329 t332 t333 t340 t341 t347 t350 t351 true) else (if t347 = t352 then ((spec_SameNumbers.f kj2 t345 t350).bind fun t360 => (if t360 = true then (if t346 = t351 then (if t356 = t358 then (if t356 = 0 then (if t355 = t357 then (if ((decide (t357 > 0)) != t333) = true then (laws_FnStamps.j1 kj2 t329 t332 t333 t340 t341 t347 t350 t351 true) else ((impl_ValidValues.f kj2 t329).bind fun t361 => (laws_FnStamps.j1 kj2 t329 t332 t333 t340 t341 t347 t350 t351 (!t361)))) else (laws_FnStamps.j1 kj2 t329 t332 t333 t340 t341 t347 t350 t351 true)) else (laws_FnStamps.j1 kj2 t329 t332 t333 t340 t341 t347 t350 t351 true)) else (laws_FnStamps.j1 kj2 t329 t332 t333 t340 t341 t347 t350 t351 true)) else (laws_FnStamps.j1 kj2 t329 t332 t333 t340 t341 t347 t350 t351 true)) else (laws_FnStamps.j1 kj2 t329 t332 t333 t340 t341 t347 t350 t351 true))) else (laws_FnStamps.j1 kj2 t329 t332 t333 t340 t341 t347 t350 t351 true))) else (laws_FnStamps.j1 kj2 t329 t332 t333 t340 t341 t347 t350 t351 true)) = some r := by rw [if_pos rfl] at H; exact H
          clear H
          have H := H1
          clear H1
          by_cases c32 : t336 = t341
          ·rw [if_pos c32] at H
           have c32b0 : (t336 == t341) = true := beq_iff_eq.mpr c32
           have c32b1 : (t336 != t341) = false := bne_eq_false_iff_eq.mpr c32
           clear c32
           by_cases c33 : ((t337 == 0) != t333) = true
           ·rw [if_pos c33] at H
            have c33b0 : ((t337 == 0) != t333) = true := c33
            (try (have c33b1 : decide ((t337 == 0) = t333) = false := by simpa using c33))
            (try (have c33b2 : ((t337 == 0) == t333) = false := by simpa using c33))
            (try (have c33b3 : ¬ ((t337 == 0) = t333) := by simpa using c33))
            clear c33
            exact (laws_FnStamps.j1_no _ _ _ _ _ _ _ _ _  (hR.out ▸ H)).elim
           ·rw [if_neg c33] at H
            have c33b0 : ((t337 == 0) != t333) = false := by simpa using c33
            (try (have c33b1 : decide ((t337 == 0) = t333) = true := by simpa using c33))
            (try (have c33b2 : ((t337 == 0) == t333) = true := by simpa using c33))
            clear c33
            by_cases c36 : t347 = t352
            ·rw [if_pos c36] at H
             have c36b0 : (t347 == t352) = true := beq_iff_eq.mpr c36
             have c36b1 : (t347 != t352) = false := bne_eq_false_iff_eq.mpr c36
             clear c36
             replace H := Option.bind_eq_some_iff.mp H
             obtain ⟨t360, A370, H⟩ := H
             replace H : (if t360 = true then (if t346 = t351 then (if t356 = t358 then (if t356 = 0 then (if t355 = t357 then (if ((decide (t357 > 0)) != t333) = true then (laws_FnStamps.j1 kj2 t329 t332 t333 t340 t341 t347 t350 t351 true) else ((impl_ValidValues.f kj2 t329).bind fun t361 => (laws_FnStamps.j1 kj2 t329 t332 t333 t340 t341 t347 t350 t351 (!t361)))) else (laws_FnStamps.j1 kj2 t329 t332 t333 t340 t341 t347 t350 t351 true)) else (laws_FnStamps.j1 kj2 t329 t332 t333 t340 t341 t347 t350 t351 true)) else (laws_FnStamps.j1 kj2 t329 t332 t333 t340 t341 t347 t350 t351 true)) else (laws_FnStamps.j1 kj2 t329 t332 t333 t340 t341 t347 t350 t351 true)) else (laws_FnStamps.j1 kj2 t329 t332 t333 t340 t341 t347 t350 t351 true)) = some r := H
             have A37 := Aside0.mk A370
             clear A370
             by_cases c38 : t360 = true
             ·subst c38
              have H1 : (if t346 = t351 then (if t356 = t358 then (if t356 = 0 then (if t355 = t357 then (if ((decide (t357 > 0)) != t333) = true then (laws_FnStamps.j1 kj2 t329 t332 t333 t340 t341 t347 t350 t351 true) else ((impl_ValidValues.f kj2 t329).bind fun t361 => (laws_FnStamps.j1 kj2 t329 t332 t333 t340 t341 t347 t350 t351 (!t361)))) else (laws_FnStamps.j1 kj2 t329 t332 t333 t340 t341 t347 t350 t351 true)) else (laws_FnStamps.j1 kj2 t329 t332 t333 t340 t341 t347 t350 t351 true)) else (laws_FnStamps.j1 kj2 t329 t332 t333 t340 t341 t347 t350 t351 true)) else (laws_FnStamps.j1 kj2 t329 t332 t333 t340 t341 t347 t350 t351 true)) = some r := by rw [if_pos rfl] at H; exact H
              clear H
              have H := H1
              clear H1
              by_cases c39 : t346 = t351
              ·rw [if_pos c39] at H
               have c39b0 : (t346 == t351) = true := beq_iff_eq.mpr c39
               have c39b1 : (t346 != t351) = false := bne_eq_false_iff_eq.mpr c39
               clear c39
               by_cases c40 : t356 = t358
               ·rw [if_pos c40] at H
                have c40b0 : (t356 == t358) = true := beq_iff_eq.mpr c40
                have c40b1 : (t356 != t358) = false := bne_eq_false_iff_eq.mpr c40
                clear c40
                by_cases c41 : t356 = 0
                ·rw [if_pos c41] at H
                 have c41b0 : (t356 == 0) = true := beq_iff_eq.mpr c41
                 have c41b1 : (t356 != 0) = false := bne_eq_false_iff_eq.mpr c41
                 clear c41
                 by_cases c42 : t355 = t357
                 ·rw [if_pos c42] at H
                  have c42b0 : (t355 == t357) = true := beq_iff_eq.mpr c42
                  have c42b1 : (t355 != t357) = false := bne_eq_false_iff_eq.mpr c42
                  clear c42
                  by_cases c43 : ((decide (t357 > 0)) != t333) = true
                  ·rw [if_pos c43] at H
                   have c43b0 : ((decide (t357 > 0)) != t333) = true := c43
                   (try (have c43b1 : decide ((decide (t357 > 0)) = t333) = false := by simpa using c43))
                   (try (have c43b2 : ((decide (t357 > 0)) == t333) = false := by simpa using c43))
                   (try (have c43b3 : ¬ ((decide (t357 > 0)) = t333) := by simpa using c43))
                   clear c43
                   exact (laws_FnStamps.j1_no _ _ _ _ _ _ _ _ _  (hR.out ▸ H)).elim
                  ·rw [if_neg c43] at H
                   have c43b0 : ((decide (t357 > 0)) != t333) = false := by simpa using c43
                   (try (have c43b1 : decide ((decide (t357 > 0)) = t333) = true := by simpa using c43))
                   (try (have c43b2 : ((decide (t357 > 0)) == t333) = true := by simpa using c43))
                   clear c43
                   replace H := Option.bind_eq_some_iff.mp H
                   obtain ⟨t361, A480, H⟩ := H
                   replace H : (laws_FnStamps.j1 kj2 t329 t332 t333 t340 t341 t347 t350 t351 (!t361)) = some r := H
                   have A48 := Aside0.mk A480
                   clear A480
                   have H' := Aside0.mk H
                   clear H
                   obtain ⟨Ao49, co49, eo49⟩ := Kd.R_slice HO339.out
                   subst eo49
                   obtain ⟨Ao50, co50, eo50⟩ := Kd.R_slice HO344.out
                   subst eo50
                   as_aux_lemma =>
                    go_wp2_with (first | (go_at_call 13; (with_reducible refine (spec_SameNumbers.calls kj2 _ _ t335 _ _ t340 true _ ?side1 ?side2 ?side3 ?side4 A30.out).mono ?_); (case side1 => repeat (first | exact (Kd.R_reads' HO339.out).2.2 | (with_reducible refine Kd.C_alloc ?_ _) | (with_reducible refine Kd.C_drewN ?_ _) | (with_reducible refine Kd.C_drew ?_))); (case side2 => exact (Kd.R_reads' HO339.out).2.1); (case side3 => repeat (first | exact (Kd.R_reads' HO344.out).2.2 | (with_reducible refine Kd.C_alloc ?_ _) | (with_reducible refine Kd.C_drewN ?_ _) | (with_reducible refine Kd.C_drew ?_))); (case side4 => exact (Kd.R_reads' HO344.out).2.1); rintro e w' ⟨rfl, ⟨nd, rfl⟩⟩; obtain ⟨Ao51, co51, eo51⟩ := Kd.R_slice HO349.out; subst eo51; obtain ⟨Ao52, co52, eo52⟩ := Kd.R_slice HO354.out; subst eo52) | (go_at_call 13; (with_reducible refine (spec_SameNumbers.calls kj2 _ _ t345 _ _ t350 true _ ?side1 ?side2 ?side3 ?side4 A37.out).mono ?_); (case side1 => repeat (first | exact (Kd.R_reads' HO349.out).2.2 | (with_reducible refine Kd.C_alloc ?_ _) | (with_reducible refine Kd.C_drewN ?_ _) | (with_reducible refine Kd.C_drew ?_))); (case side2 => exact (Kd.R_reads' HO349.out).2.1); (case side3 => repeat (first | exact (Kd.R_reads' HO354.out).2.2 | (with_reducible refine Kd.C_alloc ?_ _) | (with_reducible refine Kd.C_drewN ?_ _) | (with_reducible refine Kd.C_drew ?_))); (case side4 => exact (Kd.R_reads' HO354.out).2.1); rintro e w' ⟨rfl, ⟨nd, rfl⟩⟩) | (go_at_call 28; (with_reducible refine (impl_ValidValues.calls kj2 _ _ t329 t361 _ ?side1 ?side2 A48.out).mono ?_); (case side1 => repeat (first | exact (Kd.R_reads' HO331.out).2.2 | (with_reducible refine Kd.C_alloc ?_ _) | (with_reducible refine Kd.C_drewN ?_ _) | (with_reducible refine Kd.C_drew ?_))); (case side2 => exact (Kd.R_reads' HO331.out).2.1); rintro e w53 ⟨rfl, hb⟩; have n0_ := Aside0.mk (Kd.R_below (by (with_reducible repeat (first | apply Kd.R_alloc | apply Kd.R_drewN | apply Kd.R_drew)); exact HO331.out) hb); have n1_ := Aside0.mk (Kd.R_below (by (with_reducible repeat (first | apply Kd.R_alloc | apply Kd.R_drewN | apply Kd.R_drew)); exact HO339.out) hb); have n2_ := Aside0.mk (Kd.R_below (by (with_reducible repeat (first | apply Kd.R_alloc | apply Kd.R_drewN | apply Kd.R_drew)); exact HO344.out) hb); have n3_ := Aside0.mk (Kd.R_below (by (with_reducible repeat (first | apply Kd.R_alloc | apply Kd.R_drewN | apply Kd.R_drew)); exact HO349.out) hb); have n4_ := Aside0.mk (Kd.R_below (by (with_reducible repeat (first | apply Kd.R_alloc | apply Kd.R_drewN | apply Kd.R_drew)); exact HO354.out) hb); have n5_ := Aside0.mk (below_step (by repeat (first | (with_reducible first | exact HB.out | apply below_alloc | apply pw_below_drewN | apply below_drew1) | exact HB.out)) hb); clear HO331; clear HO339; clear HO344; clear HO349; clear HO354; clear HB; have HO331 := n0_; have HO339 := n1_; have HO344 := n2_; have HO349 := n3_; have HO354 := n4_; have HB := n5_; clear n0_ n1_ n2_ n3_ n4_ n5_; (try clear hb); (try clear hb2); (try clear hk); (try clear hi)))
                    go_meet
                    case rel => exact ⟨_, (!t361), (by first | rfl | (simp; done) | (simp [*]; done)), H', ⟨by have := HJ2.out; first | omega | exact Nat.le_refl _⟩, ⟨by (with_reducible repeat (first | apply Kd.R_alloc | apply Kd.R_drewN | apply Kd.R_drew)); exact Kd.R_mono HO331.out (fun _ hk => ⟨hk.1.1.2, hk.2⟩)⟩, ⟨by (with_reducible repeat (first | apply Kd.R_alloc | apply Kd.R_drewN | apply Kd.R_drew)); exact Kd.R_mono HO344.out (fun _ hk => ⟨hk.1.1.1.2, hk.2⟩)⟩, ⟨by (with_reducible repeat (first | apply Kd.R_alloc | apply Kd.R_drewN | apply Kd.R_drew)); exact Kd.R_mono HO354.out (fun _ hk => ⟨hk.1.1.1.2, hk.1.2⟩)⟩, ⟨by repeat (first | (with_reducible first | exact HB.out | apply below_alloc | apply pw_below_drewN | apply below_drew1) | exact HB.out)⟩⟩
                 ·rw [if_neg c42] at H
                  have c42b0 : (t355 == t357) = false := beq_eq_false_iff_ne.mpr c42
                  have c42b1 : (t355 != t357) = true := bne_iff_ne.mpr c42
                  exact (laws_FnStamps.j1_no _ _ _ _ _ _ _ _ _  (hR.out ▸ H)).elim
                ·rw [if_neg c41] at H
                 have c41b0 : (t356 == 0) = false := beq_eq_false_iff_ne.mpr c41
                 have c41b1 : (t356 != 0) = true := bne_iff_ne.mpr c41
                 exact (laws_FnStamps.j1_no _ _ _ _ _ _ _ _ _  (hR.out ▸ H)).elim
               ·rw [if_neg c40] at H
                have c40b0 : (t356 == t358) = false := beq_eq_false_iff_ne.mpr c40
                have c40b1 : (t356 != t358) = true := bne_iff_ne.mpr c40
                exact (laws_FnStamps.j1_no _ _ _ _ _ _ _ _ _  (hR.out ▸ H)).elim
              ·rw [if_neg c39] at H
               have c39b0 : (t346 == t351) = false := beq_eq_false_iff_ne.mpr c39
               have c39b1 : (t346 != t351) = true := bne_iff_ne.mpr c39
               exact (laws_FnStamps.j1_no _ _ _ _ _ _ _ _ _  (hR.out ▸ H)).elim
             ·replace c38 := Bool.eq_false_iff.mpr c38
              subst c38
              have H1 : (laws_FnStamps.j1 kj2 t329 t332 t333 t340 t341 t347 t350 t351 true) = some r := by rw [if_neg (show ¬ (false = true) by decide)] at H; exact H
              clear H
              have H := H1
              clear H1
              exact (laws_FnStamps.j1_no _ _ _ _ _ _ _ _ _  (hR.out ▸ H)).elim
            ·rw [if_neg c36] at H
             have c36b0 : (t347 == t352) = false := beq_eq_false_iff_ne.mpr c36
             have c36b1 : (t347 != t352) = true := bne_iff_ne.mpr c36
             exact (laws_FnStamps.j1_no _ _ _ _ _ _ _ _ _  (hR.out ▸ H)).elim
          ·rw [if_neg c32] at H
           have c32b0 : (t336 == t341) = false := beq_eq_false_iff_ne.mpr c32
           have c32b1 : (t336 != t341) = true := bne_iff_ne.mpr c32
           exact (laws_FnStamps.j1_no _ _ _ _ _ _ _ _ _  (hR.out ▸ H)).elim
         ·replace c31 := Bool.eq_false_iff.mpr c31
          subst c31
          have H1 : (laws_FnStamps.j1 kj2 t329 t332 t333 t340 t341 t347 t350 t351 true) = some r := by rw [if_neg (show ¬ (false = true) by decide)] at H; exact H
          clear H
          have H := H1
          clear H1
          exact (laws_FnStamps.j1_no _ _ _ _ _ _ _ _ _  (hR.out ▸ H)).elim
        ·rw [if_neg c29] at H
         have c29b0 : (t337 == t342) = false := beq_eq_false_iff_ne.mpr c29
         have c29b1 : (t337 != t342) = true := bne_iff_ne.mpr c29
         exact (laws_FnStamps.j1_no _ _ _ _ _ _ _ _ _  (hR.out ▸ H)).elim
       ·rw [if_neg c28] at H
        have c28b0 : (t334 == 0) = false := beq_eq_false_iff_ne.mpr c28
        have c28b1 : (t334 != 0) = true := bne_iff_ne.mpr c28
        (first | rw [c28b0] | (simp only [i64_w, i32_w]; rw [c28b0]) | skip)
        exact (laws_FnStamps.j1_no _ _ _ _ _ _ _ _ _  (hR.out ▸ H)).elim
     case rest =>
      as_aux_lemma =>
       clear HC17
       try clear c1
       try clear c2
       try clear p2
       try clear c3
       try clear c4
       try clear c5
       try clear c6
       try clear c7
       try clear c8
       try clear c14
       try clear c20
       try clear c23
       try clear c24
       try clear c25
       try clear c26
       try clear c27
       try clear c28
       try clear c28b0
       try clear c28b1
       try clear c29
       try clear c29b0
       try clear c29b1
       try clear c31
       try clear c32
       try clear c32b0
       try clear c32b1
       try clear c33
       try clear c33b0
       try clear c33b1
       try clear c33b2
       try clear c36
       try clear c36b0
       try clear c36b1
       try clear c38
       try clear c39
       try clear c39b0
       try clear c39b1
       try clear c40
       try clear c40b0
       try clear c40b1
       try clear c41
       try clear c41b0
       try clear c41b1
       try clear c42
       try clear c42b0
       try clear c42b1
       try clear c43
       try clear c43b0
       try clear c43b1
       try clear c43b2
       try clear p2
       obtain ⟨kq, x155_16, rfl, HA, HJ16, HO_5, HO_12, HO_18, HB⟩ := hcut
       cases kq with
       | zero => exact absurd HA.out (by simp [laws_FnStamps.j1])
       | succ kj16 =>
        have H := HA.out
        clear HA
        simp only [laws_FnStamps.j1] at H
        by_cases c80 : x155_16 = true
        ·subst c80
         have H1 : (some false) = some r := by rw [if_pos rfl] at H; exact H
         clear H
         have H := H1
         clear H1
         obtain rfl := Option.some.inj H
         go_wp2
         go_ret
         exact ⟨by first | rfl | (simp [errW_none, errW_some] <;> rfl) | (simp [*, errW_none, errW_some] <;> rfl), by repeat (first | (with_reducible first | exact HB.out | apply below_alloc | apply pw_below_drewN | apply below_drew1) | exact HB.out)⟩
        ·replace c80 := Bool.eq_false_iff.mpr c80
         subst c80
         have H1 : (if t333 = true then ((spec_PaidBy.f kj16 t329 t340).bind fun t362 => (if t362 = t332 then ((spec_SumOf.f kj16 t340).bind fun t363 => (if t363 = t341 then (laws_FnStamps.j2 kj16 t329 t332 t333 t341 t347 t350 t351 ((t340.length : Int) != (t329.length : Int))) else (laws_FnStamps.j2 kj16 t329 t332 t333 t341 t347 t350 t351 true))) else (laws_FnStamps.j2 kj16 t329 t332 t333 t341 t347 t350 t351 true))) else (laws_FnStamps.j2 kj16 t329 t332 t333 t341 t347 t350 t351 false)) = some r := by rw [if_neg (show ¬ (false = true) by decide)] at H; exact H
         clear H
         have H := H1
         clear H1
         have HC81 := Aside0.mk H
         clear H
         go_upto_region 14 with (fail)
         go_cut [176] (fun v176 wc => ∃ (kq : Nat) (x176_80 : Bool), v176 = .bool x176_80 ∧ Aside0 (laws_FnStamps.j2 kq t329 t332 t333 t341 t347 t350 t351 x176_80 = some r) ∧ Aside0 (kq ≤ kj16) ∧ Aside0 (Kd.R (Kd.int .i64) 2 wc w.heap.size (fun k_ => some k_ ≠ (v353 : Value).ownBlock) (.slice Ao20 t329.length co20) t329) ∧ Aside0 (Kd.R (Kd.int .i64) 2 wc w.heap.size (fun k_ => some k_ ≠ ((.slice Ao20 t329.length co20) : Value).ownBlock) v353 t350) ∧ Aside0 (Below w.heap.size w wc))
         case first =>
          as_aux_lemma =>
           have H := HC81.out
           clear HC81
           by_cases c82 : t333 = true
           ·subst c82
            have H1 : ((spec_PaidBy.f kj16 t329 t340).bind fun t362 => (if t362 = t332 then ((spec_SumOf.f kj16 t340).bind fun t363 => (if t363 = t341 then (laws_FnStamps.j2 kj16 t329 t332 true t341 t347 t350 t351 ((t340.length : Int) != (t329.length : Int))) else (laws_FnStamps.j2 kj16 t329 t332 true t341 t347 t350 t351 true))) else (laws_FnStamps.j2 kj16 t329 t332 true t341 t347 t350 t351 true))) = some r := by rw [if_pos rfl] at H; exact H
            clear H
            have H := H1
            clear H1
            replace H := Option.bind_eq_some_iff.mp H
            obtain ⟨t362, A830, H⟩ := H
            replace H : (if t362 = t332 then ((spec_SumOf.f kj16 t340).bind fun t363 => (if t363 = t341 then (laws_FnStamps.j2 kj16 t329 t332 true t341 t347 t350 t351 ((t340.length : Int) != (t329.length : Int))) else (laws_FnStamps.j2 kj16 t329 t332 true t341 t347 t350 t351 true))) else (laws_FnStamps.j2 kj16 t329 t332 true t341 t347 t350 t351 true)) = some r := H
            have A83 := Aside0.mk A830
            clear A830
            by_cases c84 : t362 = t332
            ·rw [if_pos c84] at H
             have c84b0 : (t362 == t332) = true := beq_iff_eq.mpr c84
             have c84b1 : (t362 != t332) = false := bne_eq_false_iff_eq.mpr c84
             clear c84
             (first | rw [c84b0] | (simp only [i64_w, i32_w]; rw [c84b0]) | skip)
             replace H := Option.bind_eq_some_iff.mp H
             obtain ⟨t363, A850, H⟩ := H
             replace H : (if t363 = t341 then (laws_FnStamps.j2 kj16 t329 t332 true t341 t347 t350 t351 ((t340.length : Int) != (t329.length : Int))) else (laws_FnStamps.j2 kj16 t329 t332 true t341 t347 t350 t351 true)) = some r := H
             have A85 := Aside0.mk A850
             clear A850
             by_cases c86 : t363 = t341
             ·rw [if_pos c86] at H
              have c86b0 : (t363 == t341) = true := beq_iff_eq.mpr c86
              have c86b1 : (t363 != t341) = false := bne_eq_false_iff_eq.mpr c86
              clear c86
              have H' := Aside0.mk H
              clear H
              obtain ⟨Ao87, co87, eo87⟩ := Kd.R_slice HO_12.out
              subst eo87
              as_aux_lemma =>
               go_wp2_with (first | (go_at_call 29; (with_reducible refine (spec_PaidBy.calls kj16 _ _ t329 _ _ t340 t362 _ ?side1 ?side2 ?side3 ?side4 A83.out).mono ?_); (case side1 => repeat (first | exact (Kd.R_reads' HO_5.out).2.2 | (with_reducible refine Kd.C_alloc ?_ _) | (with_reducible refine Kd.C_drewN ?_ _) | (with_reducible refine Kd.C_drew ?_))); (case side2 => exact (Kd.R_reads' HO_5.out).2.1); (case side3 => repeat (first | exact (Kd.R_reads' HO_12.out).2.2 | (with_reducible refine Kd.C_alloc ?_ _) | (with_reducible refine Kd.C_drewN ?_ _) | (with_reducible refine Kd.C_drew ?_))); (case side4 => exact (Kd.R_reads' HO_12.out).2.1); rintro e w' ⟨rfl, ⟨nd, rfl⟩⟩) | (go_at_call 30; (with_reducible refine (spec_SumOf.calls kj16 _ _ t340 t363 _ ?side1 ?side2 A85.out).mono ?_); (case side1 => repeat (first | exact (Kd.R_reads' HO_12.out).2.2 | (with_reducible refine Kd.C_alloc ?_ _) | (with_reducible refine Kd.C_drewN ?_ _) | (with_reducible refine Kd.C_drew ?_))); (case side2 => exact (Kd.R_reads' HO_12.out).2.1); rintro e w' ⟨rfl, ⟨nd, rfl⟩⟩))
               go_meet
               case rel => exact ⟨_, (((t340.length : Int) != (t329.length : Int))), (by first | rfl | (simp; done) | (simp [*]; done)), H', ⟨by have := HJ2.out; have := HJ16.out; first | omega | exact Nat.le_refl _⟩, ⟨by (with_reducible repeat (first | apply Kd.R_alloc | apply Kd.R_drewN | apply Kd.R_drew)); exact Kd.R_mono HO_5.out (fun _ hk => hk.2)⟩, ⟨by (with_reducible repeat (first | apply Kd.R_alloc | apply Kd.R_drewN | apply Kd.R_drew)); exact Kd.R_mono HO_18.out (fun _ hk => hk.1)⟩, ⟨by repeat (first | (with_reducible first | exact HB.out | apply below_alloc | apply pw_below_drewN | apply below_drew1) | exact HB.out)⟩⟩
             ·rw [if_neg c86] at H
              have c86b0 : (t363 == t341) = false := beq_eq_false_iff_ne.mpr c86
              have c86b1 : (t363 != t341) = true := bne_iff_ne.mpr c86
              exact (laws_FnStamps.j2_no _ _ _ _ _ _ _ _  (hR.out ▸ H)).elim
            ·rw [if_neg c84] at H
             have c84b0 : (t362 == t332) = false := beq_eq_false_iff_ne.mpr c84
             have c84b1 : (t362 != t332) = true := bne_iff_ne.mpr c84
             (first | rw [c84b0] | (simp only [i64_w, i32_w]; rw [c84b0]) | skip)
             exact (laws_FnStamps.j2_no _ _ _ _ _ _ _ _  (hR.out ▸ H)).elim
           ·replace c82 := Bool.eq_false_iff.mpr c82
            subst c82
            have H1 : (laws_FnStamps.j2 kj16 t329 t332 false t341 t347 t350 t351 false) = some r := by rw [if_neg (show ¬ (false = true) by decide)] at H; exact H
            clear H
            have H := H1
            clear H1
            have H' := Aside0.mk H
            clear H
            as_aux_lemma =>
             go_wp2
             go_meet
             case rel => exact ⟨_, (false), (by first | rfl | (simp; done) | (simp [*]; done)), H', ⟨by have := HJ2.out; have := HJ16.out; first | omega | exact Nat.le_refl _⟩, ⟨by (with_reducible repeat (first | apply Kd.R_alloc | apply Kd.R_drewN | apply Kd.R_drew)); exact Kd.R_mono HO_5.out (fun _ hk => hk.2)⟩, ⟨by (with_reducible repeat (first | apply Kd.R_alloc | apply Kd.R_drewN | apply Kd.R_drew)); exact Kd.R_mono HO_18.out (fun _ hk => hk.1)⟩, ⟨by repeat (first | (with_reducible first | exact HB.out | apply below_alloc | apply pw_below_drewN | apply below_drew1) | exact HB.out)⟩⟩
         case rest =>
          as_aux_lemma =>
           clear HC81
           try clear c1
           try clear c2
           try clear p2
           try clear c3
           try clear c4
           try clear c5
           try clear c6
           try clear c7
           try clear c8
           try clear c14
           try clear c20
           try clear c23
           try clear c24
           try clear c25
           try clear c26
           try clear c27
           try clear c28
           try clear c28b0
           try clear c28b1
           try clear c29
           try clear c29b0
           try clear c29b1
           try clear c31
           try clear c32
           try clear c32b0
           try clear c32b1
           try clear c33
           try clear c33b0
           try clear c33b1
           try clear c33b2
           try clear c36
           try clear c36b0
           try clear c36b1
           try clear c38
           try clear c39
           try clear c39b0
           try clear c39b1
           try clear c40
           try clear c40b0
           try clear c40b1
           try clear c41
           try clear c41b0
           try clear c41b1
           try clear c42
           try clear c42b0
           try clear c42b1
           try clear c43
           try clear c43b0
           try clear c43b1
           try clear c43b2
           try clear c80
           try clear c82
           try clear c84
           try clear c84b0
           try clear c84b1
           try clear c86
           try clear c86b0
           try clear c86b1
           try clear p2
           obtain ⟨kq, x176_80, rfl, HA, HJ80, HO_5, HO_18, HB⟩ := hcut
           cases kq with
           | zero => exact absurd HA.out (by simp [laws_FnStamps.j2])
           | succ kj80 =>
            have H := HA.out
            clear HA
            simp only [laws_FnStamps.j2] at H
            by_cases c90 : x176_80 = true
            ·subst c90
             have H1 : (some false) = some r := by rw [if_pos rfl] at H; exact H
             clear H
             have H := H1
             clear H1
             obtain rfl := Option.some.inj H
             go_wp2
             go_ret
             exact ⟨by first | rfl | (simp [errW_none, errW_some] <;> rfl) | (simp [*, errW_none, errW_some] <;> rfl), by repeat (first | (with_reducible first | exact HB.out | apply below_alloc | apply pw_below_drewN | apply below_drew1) | exact HB.out)⟩
            ·replace c90 := Bool.eq_false_iff.mpr c90
             subst c90
             have H1 : (if t347 = 0 then (if t333 = true then ((spec_PaidBy.f kj80 t329 t350).bind fun t364 => (if t364 = t332 then ((spec_SumOf.f kj80 t350).bind fun t365 => (if t365 = t351 then (laws_FnStamps.j3 kj80 t329 t332 t333 t341 t347 t351 (decide (t351 < t341))) else (laws_FnStamps.j3 kj80 t329 t332 t333 t341 t347 t351 true))) else (laws_FnStamps.j3 kj80 t329 t332 t333 t341 t347 t351 true))) else (laws_FnStamps.j3 kj80 t329 t332 t333 t341 t347 t351 true)) else (laws_FnStamps.j3 kj80 t329 t332 t333 t341 t347 t351 false)) = some r := by rw [if_neg (show ¬ (false = true) by decide)] at H; exact H
             clear H
             have H := H1
             clear H1
             have HC91 := Aside0.mk H
             clear H
             go_upto_region 16 with (fail)
             go_cut [200] (fun v200 wc => ∃ (kq : Nat) (x200_90 : Bool), v200 = .bool x200_90 ∧ Aside0 (laws_FnStamps.j3 kq t329 t332 t333 t341 t347 t351 x200_90 = some r) ∧ Aside0 (kq ≤ kj80) ∧ Aside0 (Kd.R (Kd.int .i64) 2 wc w.heap.size (fun _ => True) (.slice Ao20 t329.length co20) t329) ∧ Aside0 (Below w.heap.size w wc))
             case first =>
              as_aux_lemma =>
               have H := HC91.out
               clear HC91
               by_cases c92 : t347 = 0
               ·rw [if_pos c92] at H
                have c92b0 : (t347 == 0) = true := beq_iff_eq.mpr c92
                have c92b1 : (t347 != 0) = false := bne_eq_false_iff_eq.mpr c92
                clear c92
                (first | rw [c92b0] | (simp only [i64_w, i32_w]; rw [c92b0]) | skip)
                by_cases c93 : t333 = true
                ·subst c93
                 have H1 : ((spec_PaidBy.f kj80 t329 t350).bind fun t364 => (if t364 = t332 then ((spec_SumOf.f kj80 t350).bind fun t365 => (if t365 = t351 then (laws_FnStamps.j3 kj80 t329 t332 true t341 t347 t351 (decide (t351 < t341))) else (laws_FnStamps.j3 kj80 t329 t332 true t341 t347 t351 true))) else (laws_FnStamps.j3 kj80 t329 t332 true t341 t347 t351 true))) = some r := by rw [if_pos rfl] at H; exact H
                 clear H
                 have H := H1
                 clear H1
                 replace H := Option.bind_eq_some_iff.mp H
                 obtain ⟨t364, A940, H⟩ := H
                 replace H : (if t364 = t332 then ((spec_SumOf.f kj80 t350).bind fun t365 => (if t365 = t351 then (laws_FnStamps.j3 kj80 t329 t332 true t341 t347 t351 (decide (t351 < t341))) else (laws_FnStamps.j3 kj80 t329 t332 true t341 t347 t351 true))) else (laws_FnStamps.j3 kj80 t329 t332 true t341 t347 t351 true)) = some r := H
                 have A94 := Aside0.mk A940
                 clear A940
                 by_cases c95 : t364 = t332
                 ·rw [if_pos c95] at H
                  have c95b0 : (t364 == t332) = true := beq_iff_eq.mpr c95
                  have c95b1 : (t364 != t332) = false := bne_eq_false_iff_eq.mpr c95
                  clear c95
                  replace H := Option.bind_eq_some_iff.mp H
                  obtain ⟨t365, A960, H⟩ := H
                  replace H : (if t365 = t351 then (laws_FnStamps.j3 kj80 t329 t332 true t341 t347 t351 (decide (t351 < t341))) else (laws_FnStamps.j3 kj80 t329 t332 true t341 t347 t351 true)) = some r := H
                  have A96 := Aside0.mk A960
                  clear A960
                  by_cases c97 : t365 = t351
                  ·rw [if_pos c97] at H
                   have c97b0 : (t365 == t351) = true := beq_iff_eq.mpr c97
                   have c97b1 : (t365 != t351) = false := bne_eq_false_iff_eq.mpr c97
                   clear c97
                   have H' := Aside0.mk H
                   clear H
                   obtain ⟨Ao98, co98, eo98⟩ := Kd.R_slice HO_18.out
                   subst eo98
                   as_aux_lemma =>
                    go_wp2_with (first | (go_at_call 29; (with_reducible refine (spec_PaidBy.calls kj80 _ _ t329 _ _ t350 t364 _ ?side1 ?side2 ?side3 ?side4 A94.out).mono ?_); (case side1 => repeat (first | exact (Kd.R_reads' HO_5.out).2.2 | (with_reducible refine Kd.C_alloc ?_ _) | (with_reducible refine Kd.C_drewN ?_ _) | (with_reducible refine Kd.C_drew ?_))); (case side2 => exact (Kd.R_reads' HO_5.out).2.1); (case side3 => repeat (first | exact (Kd.R_reads' HO_18.out).2.2 | (with_reducible refine Kd.C_alloc ?_ _) | (with_reducible refine Kd.C_drewN ?_ _) | (with_reducible refine Kd.C_drew ?_))); (case side4 => exact (Kd.R_reads' HO_18.out).2.1); rintro e w' ⟨rfl, ⟨nd, rfl⟩⟩) | (go_at_call 30; (with_reducible refine (spec_SumOf.calls kj80 _ _ t350 t365 _ ?side1 ?side2 A96.out).mono ?_); (case side1 => repeat (first | exact (Kd.R_reads' HO_18.out).2.2 | (with_reducible refine Kd.C_alloc ?_ _) | (with_reducible refine Kd.C_drewN ?_ _) | (with_reducible refine Kd.C_drew ?_))); (case side2 => exact (Kd.R_reads' HO_18.out).2.1); rintro e w' ⟨rfl, ⟨nd, rfl⟩⟩))
                    go_meet
                    case rel => exact ⟨_, (decide (t351 < t341)), (by first | rfl | (simp; done) | (simp [*]; done)), H', ⟨by have := HJ2.out; have := HJ16.out; have := HJ80.out; first | omega | exact Nat.le_refl _⟩, ⟨by (with_reducible repeat (first | apply Kd.R_alloc | apply Kd.R_drewN | apply Kd.R_drew)); exact Kd.R_mono HO_5.out (fun _ hk => trivial)⟩, ⟨by repeat (first | (with_reducible first | exact HB.out | apply below_alloc | apply pw_below_drewN | apply below_drew1) | exact HB.out)⟩⟩
                  ·rw [if_neg c97] at H
                   have c97b0 : (t365 == t351) = false := beq_eq_false_iff_ne.mpr c97
                   have c97b1 : (t365 != t351) = true := bne_iff_ne.mpr c97
                   exact (laws_FnStamps.j3_no _ _ _ _ _ _ _  (hR.out ▸ H)).elim
                 ·rw [if_neg c95] at H
                  have c95b0 : (t364 == t332) = false := beq_eq_false_iff_ne.mpr c95
                  have c95b1 : (t364 != t332) = true := bne_iff_ne.mpr c95
                  exact (laws_FnStamps.j3_no _ _ _ _ _ _ _  (hR.out ▸ H)).elim
                ·replace c93 := Bool.eq_false_iff.mpr c93
                 subst c93
                 have H1 : (laws_FnStamps.j3 kj80 t329 t332 false t341 t347 t351 true) = some r := by rw [if_neg (show ¬ (false = true) by decide)] at H; exact H
                 clear H
                 have H := H1
                 clear H1
                 exact (laws_FnStamps.j3_no _ _ _ _ _ _ _  (hR.out ▸ H)).elim
               ·rw [if_neg c92] at H
                have c92b0 : (t347 == 0) = false := beq_eq_false_iff_ne.mpr c92
                have c92b1 : (t347 != 0) = true := bne_iff_ne.mpr c92
                (first | rw [c92b0] | (simp only [i64_w, i32_w]; rw [c92b0]) | skip)
                have H' := Aside0.mk H
                clear H
                as_aux_lemma =>
                 go_wp2
                 go_meet
                 case rel => exact ⟨_, (false), (by first | rfl | (simp; done) | (simp [*]; done)), H', ⟨by have := HJ2.out; have := HJ16.out; have := HJ80.out; first | omega | exact Nat.le_refl _⟩, ⟨by (with_reducible repeat (first | apply Kd.R_alloc | apply Kd.R_drewN | apply Kd.R_drew)); exact Kd.R_mono HO_5.out (fun _ hk => trivial)⟩, ⟨by repeat (first | (with_reducible first | exact HB.out | apply below_alloc | apply pw_below_drewN | apply below_drew1) | exact HB.out)⟩⟩
             case rest =>
              as_aux_lemma =>
               clear HC91
               try clear c1
               try clear c2
               try clear p2
               try clear c3
               try clear c4
               try clear c5
               try clear c6
               try clear c7
               try clear c8
               try clear c9
               try clear c14
               try clear c20
               try clear c23
               try clear c24
               try clear c25
               try clear c26
               try clear c27
               try clear c28
               try clear c28b0
               try clear c28b1
               try clear c29
               try clear c29b0
               try clear c29b1
               try clear c31
               try clear c32
               try clear c32b0
               try clear c32b1
               try clear c33
               try clear c33b0
               try clear c33b1
               try clear c33b2
               try clear c36
               try clear c36b0
               try clear c36b1
               try clear c38
               try clear c39
               try clear c39b0
               try clear c39b1
               try clear c40
               try clear c40b0
               try clear c40b1
               try clear c41
               try clear c41b0
               try clear c41b1
               try clear c42
               try clear c42b0
               try clear c42b1
               try clear c43
               try clear c43b0
               try clear c43b1
               try clear c43b2
               try clear c80
               try clear c82
               try clear c84
               try clear c84b0
               try clear c84b1
               try clear c86
               try clear c86b0
               try clear c86b1
               try clear c90
               try clear c92
               try clear c92b0
               try clear c92b1
               try clear c93
               try clear c95
               try clear c95b0
               try clear c95b1
               try clear c97
               try clear c97b0
               try clear c97b1
               try clear p2
               obtain ⟨kq, x200_90, rfl, HA, HJ90, HO_5, HB⟩ := hcut
               cases kq with
               | zero => exact absurd HA.out (by simp [laws_FnStamps.j3])
               | succ kj90 =>
                have H := HA.out
                clear HA
                simp only [laws_FnStamps.j3] at H
                by_cases c101 : x200_90 = true
                ·subst c101
                 have H1 : (some false) = some r := by rw [if_pos rfl] at H; exact H
                 clear H
                 have H := H1
                 clear H1
                 obtain rfl := Option.some.inj H
                 go_wp2
                 go_ret
                 exact ⟨by first | rfl | (simp [errW_none, errW_some] <;> rfl) | (simp [*, errW_none, errW_some] <;> rfl), by repeat (first | (with_reducible first | exact HB.out | apply below_alloc | apply pw_below_drewN | apply below_drew1) | exact HB.out)⟩
                ·replace c101 := Bool.eq_false_iff.mpr c101
                 subst c101
                 have H1 : ((impl_FirstWrongGreedy.f kj90 t329).bind fun bt366 => ((spec_FirstWrongGreedy.f kj90 t329).bind fun bt368 => (if bt366.2 = bt368.2 then (if bt366.1 = bt368.1 then (if bt366.2 = 0 then (laws_FnStamps.j4 kj90 t329 t332 t333 t341 t347 t351 bt366.2 bt368.1 false) else (laws_FnStamps.j4 kj90 t329 t332 t333 t341 t347 t351 bt366.2 bt368.1 (bt366.2 != 6))) else (laws_FnStamps.j4 kj90 t329 t332 t333 t341 t347 t351 bt366.2 bt368.1 true)) else (laws_FnStamps.j4 kj90 t329 t332 t333 t341 t347 t351 bt366.2 bt368.1 true)))) = some r := by rw [if_neg (show ¬ (false = true) by decide)] at H; exact H
                 clear H
                 have H := H1
                 clear H1
                 replace H := Option.bind_eq_some_iff.mp H
                 obtain ⟨⟨t366, t367⟩, A1020, H⟩ := H
                 replace H : ((spec_FirstWrongGreedy.f kj90 t329).bind fun bt368 => (if t367 = bt368.2 then (if t366 = bt368.1 then (if t367 = 0 then (laws_FnStamps.j4 kj90 t329 t332 t333 t341 t347 t351 t367 bt368.1 false) else (laws_FnStamps.j4 kj90 t329 t332 t333 t341 t347 t351 t367 bt368.1 (t367 != 6))) else (laws_FnStamps.j4 kj90 t329 t332 t333 t341 t347 t351 t367 bt368.1 true)) else (laws_FnStamps.j4 kj90 t329 t332 t333 t341 t347 t351 t367 bt368.1 true))) = some r := H
                 have A102 := Aside0.mk A1020
                 clear A1020
                 replace H := Option.bind_eq_some_iff.mp H
                 obtain ⟨⟨t368, t369⟩, A1030, H⟩ := H
                 replace H : (if t367 = t369 then (if t366 = t368 then (if t367 = 0 then (laws_FnStamps.j4 kj90 t329 t332 t333 t341 t347 t351 t367 t368 false) else (laws_FnStamps.j4 kj90 t329 t332 t333 t341 t347 t351 t367 t368 (t367 != 6))) else (laws_FnStamps.j4 kj90 t329 t332 t333 t341 t347 t351 t367 t368 true)) else (laws_FnStamps.j4 kj90 t329 t332 t333 t341 t347 t351 t367 t368 true)) = some r := H
                 have A103 := Aside0.mk A1030
                 clear A1030
                 have HC104 := Aside0.mk H
                 clear H
                 go_upto_region 20 with (first | ((with_reducible refine gate_callee (f := 31) rfl ?_); refine goesL_ (some 203) rfl rfl Try.func31 (by kernel_rfl) rfl #[.slice Ao20 t329.length co20] rfl (by (try simp only [List.map_toArray, List.map_cons, List.map_nil]); first | done | rfl | (simp only [List.length_drop, List.length_take]; rfl)) ?_; (with_reducible refine (impl_FirstWrongGreedy.calls kj90 _ _ t329 t366 t367 _ ?side1 ?side2 A102.out).mono ?_); (case side1 => repeat (first | exact (Kd.R_reads' HO_5.out).2.2 | (with_reducible refine Kd.C_alloc ?_ _) | (with_reducible refine Kd.C_drewN ?_ _) | (with_reducible refine Kd.C_drew ?_))); (case side2 => exact (Kd.R_reads' HO_5.out).2.1); rintro e w105 ⟨rfl, hb⟩; refine ⟨_, rfl, ?_⟩; have n0_ := Aside0.mk (Kd.R_below (by (with_reducible repeat (first | apply Kd.R_alloc | apply Kd.R_drewN | apply Kd.R_drew)); exact HO_5.out) hb); have n1_ := Aside0.mk (below_step (by repeat (first | (with_reducible first | exact HB.out | apply below_alloc | apply pw_below_drewN | apply below_drew1) | exact HB.out)) hb); clear HO_5; clear HB; have HO_5 := n0_; have HB := n1_; clear n0_ n1_; (try clear hb); (try clear hb2); (try clear hk); (try clear hi)) | ((with_reducible refine gate_callee (f := 32) rfl ?_); refine goesL_ (some 208) rfl rfl Try.func32 (by kernel_rfl) rfl #[.slice Ao20 t329.length co20] rfl (by (try simp only [List.map_toArray, List.map_cons, List.map_nil]); first | done | rfl | (simp only [List.length_drop, List.length_take]; rfl)) ?_; (with_reducible refine (spec_FirstWrongGreedy.calls kj90 _ _ t329 t368 t369 _ ?side1 ?side2 A103.out).mono ?_); (case side1 => repeat (first | exact (Kd.R_reads' HO_5.out).2.2 | (with_reducible refine Kd.C_alloc ?_ _) | (with_reducible refine Kd.C_drewN ?_ _) | (with_reducible refine Kd.C_drew ?_))); (case side2 => exact (Kd.R_reads' HO_5.out).2.1); rintro e w106 ⟨rfl, hb⟩; refine ⟨_, rfl, ?_⟩; have n0_ := Aside0.mk (Kd.R_below (by (with_reducible repeat (first | apply Kd.R_alloc | apply Kd.R_drewN | apply Kd.R_drew)); exact HO_5.out) hb); have n1_ := Aside0.mk (below_step (by repeat (first | (with_reducible first | exact HB.out | apply below_alloc | apply pw_below_drewN | apply below_drew1) | exact HB.out)) hb); clear HO_5; clear HB; have HO_5 := n0_; have HB := n1_; clear n0_ n1_; (try clear hb); (try clear hb2); (try clear hk); (try clear hi)))
                 (try simp only [Act.put, List.setIfInBounds_toArray, List.set_cons_zero, List.set_cons_succ])
                 go_cut [226] (fun v226 wc => ∃ (kq : Nat) (x226_103 : Bool), v226 = .bool x226_103 ∧ Aside0 (laws_FnStamps.j4 kq t329 t332 t333 t341 t347 t351 t367 t368 x226_103 = some r) ∧ Aside0 (kq ≤ kj90) ∧ Aside0 (Kd.R (Kd.int .i64) 2 wc w.heap.size (fun _ => True) (.slice Ao20 t329.length co20) t329) ∧ Aside0 (Below w.heap.size w wc))
                 case first =>
                  as_aux_lemma =>
                   have H := HC104.out
                   clear HC104
                   by_cases c107 : t367 = t369
                   ·rw [if_pos c107] at H
                    have c107b0 : (t367 == t369) = true := beq_iff_eq.mpr c107
                    have c107b1 : (t367 != t369) = false := bne_eq_false_iff_eq.mpr c107
                    clear c107
                    (first | rw [c107b0] | (simp only [i64_w, i32_w]; rw [c107b0]) | skip)
                    by_cases c108 : t366 = t368
                    ·rw [if_pos c108] at H
                     have c108b0 : (t366 == t368) = true := beq_iff_eq.mpr c108
                     have c108b1 : (t366 != t368) = false := bne_eq_false_iff_eq.mpr c108
                     clear c108
                     by_cases c109 : t367 = 0
                     ·rw [if_pos c109] at H
                      have c109b0 : (t367 == 0) = true := beq_iff_eq.mpr c109
                      have c109b1 : (t367 != 0) = false := bne_eq_false_iff_eq.mpr c109
                      clear c109
                      have H' := Aside0.mk H
                      clear H
                      as_aux_lemma =>
                       go_wp2
                       go_meet
                       case rel => exact ⟨_, (false), (by first | rfl | (simp; done) | (simp [*]; done)), H', ⟨by have := HJ2.out; have := HJ16.out; have := HJ80.out; have := HJ90.out; first | omega | exact Nat.le_refl _⟩, ⟨by (with_reducible repeat (first | apply Kd.R_alloc | apply Kd.R_drewN | apply Kd.R_drew)); exact HO_5.out⟩, ⟨by repeat (first | (with_reducible first | exact HB.out | apply below_alloc | apply pw_below_drewN | apply below_drew1) | exact HB.out)⟩⟩
                     ·rw [if_neg c109] at H
                      have c109b0 : (t367 == 0) = false := beq_eq_false_iff_ne.mpr c109
                      have c109b1 : (t367 != 0) = true := bne_iff_ne.mpr c109
                      have H' := Aside0.mk H
                      clear H
                      as_aux_lemma =>
                       go_wp2
                       go_meet
                       case rel => exact ⟨_, ((t367 != 6)), (by first | rfl | (simp; done) | (simp [*]; done)), H', ⟨by have := HJ2.out; have := HJ16.out; have := HJ80.out; have := HJ90.out; first | omega | exact Nat.le_refl _⟩, ⟨by (with_reducible repeat (first | apply Kd.R_alloc | apply Kd.R_drewN | apply Kd.R_drew)); exact HO_5.out⟩, ⟨by repeat (first | (with_reducible first | exact HB.out | apply below_alloc | apply pw_below_drewN | apply below_drew1) | exact HB.out)⟩⟩
                    ·rw [if_neg c108] at H
                     have c108b0 : (t366 == t368) = false := beq_eq_false_iff_ne.mpr c108
                     have c108b1 : (t366 != t368) = true := bne_iff_ne.mpr c108
                     exact (laws_FnStamps.j4_no _ _ _ _ _ _ _ _ _  (hR.out ▸ H)).elim
                   ·rw [if_neg c107] at H
                    have c107b0 : (t367 == t369) = false := beq_eq_false_iff_ne.mpr c107
                    have c107b1 : (t367 != t369) = true := bne_iff_ne.mpr c107
                    (first | rw [c107b0] | (simp only [i64_w, i32_w]; rw [c107b0]) | skip)
                    exact (laws_FnStamps.j4_no _ _ _ _ _ _ _ _ _  (hR.out ▸ H)).elim
                 case rest =>
                  as_aux_lemma =>
                   clear HC104
                   try clear c1
                   try clear c2
                   try clear p2
                   try clear c3
                   try clear c4
                   try clear c5
                   try clear c6
                   try clear c7
                   try clear c8
                   try clear c9
                   try clear c10
                   try clear c14
                   try clear c20
                   try clear c23
                   try clear c24
                   try clear c25
                   try clear c26
                   try clear c27
                   try clear c28
                   try clear c28b0
                   try clear c28b1
                   try clear c29
                   try clear c29b0
                   try clear c29b1
                   try clear c31
                   try clear c32
                   try clear c32b0
                   try clear c32b1
                   try clear c33
                   try clear c33b0
                   try clear c33b1
                   try clear c33b2
                   try clear c36
                   try clear c36b0
                   try clear c36b1
                   try clear c38
                   try clear c39
                   try clear c39b0
                   try clear c39b1
                   try clear c40
                   try clear c40b0
                   try clear c40b1
                   try clear c41
                   try clear c41b0
                   try clear c41b1
                   try clear c42
                   try clear c42b0
                   try clear c42b1
                   try clear c43
                   try clear c43b0
                   try clear c43b1
                   try clear c43b2
                   try clear c80
                   try clear c82
                   try clear c84
                   try clear c84b0
                   try clear c84b1
                   try clear c86
                   try clear c86b0
                   try clear c86b1
                   try clear c90
                   try clear c92
                   try clear c92b0
                   try clear c92b1
                   try clear c93
                   try clear c95
                   try clear c95b0
                   try clear c95b1
                   try clear c97
                   try clear c97b0
                   try clear c97b1
                   try clear c101
                   try clear c107
                   try clear c107b0
                   try clear c107b1
                   try clear c108
                   try clear c108b0
                   try clear c108b1
                   try clear c109
                   try clear c109b0
                   try clear c109b1
                   try clear p2
                   obtain ⟨kq, x226_103, rfl, HA, HJ103, HO_5, HB⟩ := hcut
                   cases kq with
                   | zero => exact absurd HA.out (by simp [laws_FnStamps.j4])
                   | succ kj103 =>
                    have H := HA.out
                    clear HA
                    simp only [laws_FnStamps.j4] at H
                    by_cases c110 : x226_103 = true
                    ·subst c110
                     have H1 : (some false) = some r := by rw [if_pos rfl] at H; exact H
                     clear H
                     have H := H1
                     clear H1
                     obtain rfl := Option.some.inj H
                     go_wp2
                     go_ret
                     exact ⟨by first | rfl | (simp [errW_none, errW_some] <;> rfl) | (simp [*, errW_none, errW_some] <;> rfl), by repeat (first | (with_reducible first | exact HB.out | apply below_alloc | apply pw_below_drewN | apply below_drew1) | exact HB.out)⟩
                    ·replace c110 := Bool.eq_false_iff.mpr c110
                     subst c110
                     have H1 : (if t333 = true then (if t332 > 0 then (if t347 = 0 then (if t367 = 0 then (if t332 = t368 then (laws_FnStamps.j5 kj103 t329 t332 t333 t341 ((decide (t351 > t341)) != true)) else (if t332 > t368 then (laws_FnStamps.j5 kj103 t329 t332 t333 t341 ((decide (t351 > t341)) != (decide (t351 > t341)))) else (laws_FnStamps.j5 kj103 t329 t332 t333 t341 ((decide (t351 > t341)) != false)))) else (laws_FnStamps.j5 kj103 t329 t332 t333 t341 ((decide (t351 > t341)) != false))) else (if t367 = 0 then (if t332 = t368 then (laws_FnStamps.j5 kj103 t329 t332 t333 t341 (true != true)) else (if t332 > t368 then (laws_FnStamps.j5 kj103 t329 t332 t333 t341 (true != true)) else (laws_FnStamps.j5 kj103 t329 t332 t333 t341 (true != false)))) else (laws_FnStamps.j5 kj103 t329 t332 t333 t341 (true != false)))) else (laws_FnStamps.j5 kj103 t329 t332 t333 t341 false)) else (laws_FnStamps.j5 kj103 t329 t332 t333 t341 false)) = some r := by rw [if_neg (show ¬ (false = true) by decide)] at H; exact H
                     clear H
                     have H := H1
                     clear H1
                     have HC111 := Aside0.mk H
                     clear H
                     go_upto_region 22 with (fail)
                     go_cut [266] (fun v266 wc => ∃ (kq : Nat) (x266_110 : Bool), v266 = .bool x266_110 ∧ Aside0 (laws_FnStamps.j5 kq t329 t332 t333 t341 x266_110 = some r) ∧ Aside0 (kq ≤ kj103) ∧ Aside0 (Kd.R (Kd.int .i64) 2 wc w.heap.size (fun _ => True) (.slice Ao20 t329.length co20) t329) ∧ Aside0 (Below w.heap.size w wc))
                     case first =>
                      as_aux_lemma =>
                       have H := HC111.out
                       clear HC111
                       by_cases c112 : t333 = true
                       ·subst c112
                        have H1 : (if t332 > 0 then (if t347 = 0 then (if t367 = 0 then (if t332 = t368 then (laws_FnStamps.j5 kj103 t329 t332 true t341 ((decide (t351 > t341)) != true)) else (if t332 > t368 then (laws_FnStamps.j5 kj103 t329 t332 true t341 ((decide (t351 > t341)) != (decide (t351 > t341)))) else (laws_FnStamps.j5 kj103 t329 t332 true t341 ((decide (t351 > t341)) != false)))) else (laws_FnStamps.j5 kj103 t329 t332 true t341 ((decide (t351 > t341)) != false))) else (if t367 = 0 then (if t332 = t368 then (laws_FnStamps.j5 kj103 t329 t332 true t341 (true != true)) else (if t332 > t368 then (laws_FnStamps.j5 kj103 t329 t332 true t341 (true != true)) else (laws_FnStamps.j5 kj103 t329 t332 true t341 (true != false)))) else (laws_FnStamps.j5 kj103 t329 t332 true t341 (true != false)))) else (laws_FnStamps.j5 kj103 t329 t332 true t341 false)) = some r := by rw [if_pos rfl] at H; exact H
                        clear H
                        have H := H1
                        clear H1
                        by_cases c113 : t332 > 0
                        ·rw [if_pos c113] at H
                         have c113b0 : decide (0 < t332) = true := decide_eq_true c113
                         clear c113
                         (first | rw [c113b0] | (simp only [i64_w, i32_w]; rw [c113b0]) | skip)
                         by_cases c114 : t347 = 0
                         ·rw [if_pos c114] at H
                          have c114b0 : (t347 == 0) = true := beq_iff_eq.mpr c114
                          have c114b1 : (t347 != 0) = false := bne_eq_false_iff_eq.mpr c114
                          clear c114
                          by_cases c115 : t367 = 0
                          ·rw [if_pos c115] at H
                           have c115b0 : (t367 == 0) = true := beq_iff_eq.mpr c115
                           have c115b1 : (t367 != 0) = false := bne_eq_false_iff_eq.mpr c115
                           clear c115
                           by_cases c116 : t332 = t368
                           ·rw [if_pos c116] at H
                            have c116b0 : (t332 == t368) = true := beq_iff_eq.mpr c116
                            have c116b1 : (t332 != t368) = false := bne_eq_false_iff_eq.mpr c116
                            clear c116
                            have H' := Aside0.mk H
                            clear H
                            as_aux_lemma =>
                             go_wp2
                             go_meet
                             case rel => exact ⟨_, (((decide (t351 > t341)) != true)), (by first | rfl | (simp; done) | (simp [*]; done)), H', ⟨by have := HJ2.out; have := HJ16.out; have := HJ80.out; have := HJ90.out; have := HJ103.out; first | omega | exact Nat.le_refl _⟩, ⟨by (with_reducible repeat (first | apply Kd.R_alloc | apply Kd.R_drewN | apply Kd.R_drew)); exact HO_5.out⟩, ⟨by repeat (first | (with_reducible first | exact HB.out | apply below_alloc | apply pw_below_drewN | apply below_drew1) | exact HB.out)⟩⟩
                           ·rw [if_neg c116] at H
                            have c116b0 : (t332 == t368) = false := beq_eq_false_iff_ne.mpr c116
                            have c116b1 : (t332 != t368) = true := bne_iff_ne.mpr c116
                            by_cases c117 : t332 > t368
                            ·rw [if_pos c117] at H
                             have c117b0 : decide (t368 < t332) = true := decide_eq_true c117
                             clear c117
                             have H' := Aside0.mk H
                             clear H
                             as_aux_lemma =>
                              go_wp2
                              go_meet
                              case rel => exact ⟨_, (((decide (t351 > t341)) != (decide (t351 > t341)))), (by first | rfl | (simp; done) | (simp [*]; done)), H', ⟨by have := HJ2.out; have := HJ16.out; have := HJ80.out; have := HJ90.out; have := HJ103.out; first | omega | exact Nat.le_refl _⟩, ⟨by (with_reducible repeat (first | apply Kd.R_alloc | apply Kd.R_drewN | apply Kd.R_drew)); exact HO_5.out⟩, ⟨by repeat (first | (with_reducible first | exact HB.out | apply below_alloc | apply pw_below_drewN | apply below_drew1) | exact HB.out)⟩⟩
                            ·rw [if_neg c117] at H
                             have c117b0 : decide (t368 < t332) = false := decide_eq_false c117
                             clear c117
                             have H' := Aside0.mk H
                             clear H
                             as_aux_lemma =>
                              go_wp2
                              go_meet
                              case rel => exact ⟨_, (((decide (t351 > t341)) != false)), (by first | rfl | (simp; done) | (simp [*]; done)), H', ⟨by have := HJ2.out; have := HJ16.out; have := HJ80.out; have := HJ90.out; have := HJ103.out; first | omega | exact Nat.le_refl _⟩, ⟨by (with_reducible repeat (first | apply Kd.R_alloc | apply Kd.R_drewN | apply Kd.R_drew)); exact HO_5.out⟩, ⟨by repeat (first | (with_reducible first | exact HB.out | apply below_alloc | apply pw_below_drewN | apply below_drew1) | exact HB.out)⟩⟩
                          ·rw [if_neg c115] at H
                           have c115b0 : (t367 == 0) = false := beq_eq_false_iff_ne.mpr c115
                           have c115b1 : (t367 != 0) = true := bne_iff_ne.mpr c115
                           have H' := Aside0.mk H
                           clear H
                           as_aux_lemma =>
                            go_wp2
                            go_meet
                            case rel => exact ⟨_, (((decide (t351 > t341)) != false)), (by first | rfl | (simp; done) | (simp [*]; done)), H', ⟨by have := HJ2.out; have := HJ16.out; have := HJ80.out; have := HJ90.out; have := HJ103.out; first | omega | exact Nat.le_refl _⟩, ⟨by (with_reducible repeat (first | apply Kd.R_alloc | apply Kd.R_drewN | apply Kd.R_drew)); exact HO_5.out⟩, ⟨by repeat (first | (with_reducible first | exact HB.out | apply below_alloc | apply pw_below_drewN | apply below_drew1) | exact HB.out)⟩⟩
                         ·rw [if_neg c114] at H
                          have c114b0 : (t347 == 0) = false := beq_eq_false_iff_ne.mpr c114
                          have c114b1 : (t347 != 0) = true := bne_iff_ne.mpr c114
                          by_cases c118 : t367 = 0
                          ·rw [if_pos c118] at H
                           have c118b0 : (t367 == 0) = true := beq_iff_eq.mpr c118
                           have c118b1 : (t367 != 0) = false := bne_eq_false_iff_eq.mpr c118
                           clear c118
                           by_cases c119 : t332 = t368
                           ·rw [if_pos c119] at H
                            have c119b0 : (t332 == t368) = true := beq_iff_eq.mpr c119
                            have c119b1 : (t332 != t368) = false := bne_eq_false_iff_eq.mpr c119
                            clear c119
                            have H' := Aside0.mk H
                            clear H
                            as_aux_lemma =>
                             go_wp2
                             go_meet
                             case rel => exact ⟨_, ((true != true)), (by first | rfl | (simp; done) | (simp [*]; done)), H', ⟨by have := HJ2.out; have := HJ16.out; have := HJ80.out; have := HJ90.out; have := HJ103.out; first | omega | exact Nat.le_refl _⟩, ⟨by (with_reducible repeat (first | apply Kd.R_alloc | apply Kd.R_drewN | apply Kd.R_drew)); exact HO_5.out⟩, ⟨by repeat (first | (with_reducible first | exact HB.out | apply below_alloc | apply pw_below_drewN | apply below_drew1) | exact HB.out)⟩⟩
                           ·rw [if_neg c119] at H
                            have c119b0 : (t332 == t368) = false := beq_eq_false_iff_ne.mpr c119
                            have c119b1 : (t332 != t368) = true := bne_iff_ne.mpr c119
                            by_cases c120 : t332 > t368
                            ·rw [if_pos c120] at H
                             have c120b0 : decide (t368 < t332) = true := decide_eq_true c120
                             clear c120
                             have H' := Aside0.mk H
                             clear H
                             as_aux_lemma =>
                              go_wp2
                              go_meet
                              case rel => exact ⟨_, ((true != true)), (by first | rfl | (simp; done) | (simp [*]; done)), H', ⟨by have := HJ2.out; have := HJ16.out; have := HJ80.out; have := HJ90.out; have := HJ103.out; first | omega | exact Nat.le_refl _⟩, ⟨by (with_reducible repeat (first | apply Kd.R_alloc | apply Kd.R_drewN | apply Kd.R_drew)); exact HO_5.out⟩, ⟨by repeat (first | (with_reducible first | exact HB.out | apply below_alloc | apply pw_below_drewN | apply below_drew1) | exact HB.out)⟩⟩
                            ·rw [if_neg c120] at H
                             have c120b0 : decide (t368 < t332) = false := decide_eq_false c120
                             clear c120
                             exact (laws_FnStamps.j5_no _ _ _ _ _  (hR.out ▸ H)).elim
                          ·rw [if_neg c118] at H
                           have c118b0 : (t367 == 0) = false := beq_eq_false_iff_ne.mpr c118
                           have c118b1 : (t367 != 0) = true := bne_iff_ne.mpr c118
                           exact (laws_FnStamps.j5_no _ _ _ _ _  (hR.out ▸ H)).elim
                        ·rw [if_neg c113] at H
                         have c113b0 : decide (0 < t332) = false := decide_eq_false c113
                         clear c113
                         (first | rw [c113b0] | (simp only [i64_w, i32_w]; rw [c113b0]) | skip)
                         have H' := Aside0.mk H
                         clear H
                         as_aux_lemma =>
                          go_wp2
                          go_meet
                          case rel => exact ⟨_, (false), (by first | rfl | (simp; done) | (simp [*]; done)), H', ⟨by have := HJ2.out; have := HJ16.out; have := HJ80.out; have := HJ90.out; have := HJ103.out; first | omega | exact Nat.le_refl _⟩, ⟨by (with_reducible repeat (first | apply Kd.R_alloc | apply Kd.R_drewN | apply Kd.R_drew)); exact HO_5.out⟩, ⟨by repeat (first | (with_reducible first | exact HB.out | apply below_alloc | apply pw_below_drewN | apply below_drew1) | exact HB.out)⟩⟩
                       ·replace c112 := Bool.eq_false_iff.mpr c112
                        subst c112
                        have H1 : (laws_FnStamps.j5 kj103 t329 t332 false t341 false) = some r := by rw [if_neg (show ¬ (false = true) by decide)] at H; exact H
                        clear H
                        have H := H1
                        clear H1
                        have H' := Aside0.mk H
                        clear H
                        as_aux_lemma =>
                         go_wp2
                         go_meet
                         case rel => exact ⟨_, (false), (by first | rfl | (simp; done) | (simp [*]; done)), H', ⟨by have := HJ2.out; have := HJ16.out; have := HJ80.out; have := HJ90.out; have := HJ103.out; first | omega | exact Nat.le_refl _⟩, ⟨by (with_reducible repeat (first | apply Kd.R_alloc | apply Kd.R_drewN | apply Kd.R_drew)); exact HO_5.out⟩, ⟨by repeat (first | (with_reducible first | exact HB.out | apply below_alloc | apply pw_below_drewN | apply below_drew1) | exact HB.out)⟩⟩
                     case rest =>
                      as_aux_lemma =>
                       clear HC111
                       try clear c1
                       try clear c2
                       try clear p2
                       try clear c3
                       try clear c4
                       try clear c5
                       try clear c6
                       try clear c7
                       try clear c8
                       try clear c9
                       try clear c10
                       try clear c11
                       try clear c12
                       try clear c14
                       try clear c20
                       try clear c23
                       try clear c24
                       try clear c25
                       try clear c26
                       try clear c27
                       try clear c28
                       try clear c28b0
                       try clear c28b1
                       try clear c29
                       try clear c29b0
                       try clear c29b1
                       try clear c31
                       try clear c32
                       try clear c32b0
                       try clear c32b1
                       try clear c33
                       try clear c33b0
                       try clear c33b1
                       try clear c33b2
                       try clear c36
                       try clear c36b0
                       try clear c36b1
                       try clear c38
                       try clear c39
                       try clear c39b0
                       try clear c39b1
                       try clear c40
                       try clear c40b0
                       try clear c40b1
                       try clear c41
                       try clear c41b0
                       try clear c41b1
                       try clear c42
                       try clear c42b0
                       try clear c42b1
                       try clear c43
                       try clear c43b0
                       try clear c43b1
                       try clear c43b2
                       try clear c80
                       try clear c82
                       try clear c84
                       try clear c84b0
                       try clear c84b1
                       try clear c86
                       try clear c86b0
                       try clear c86b1
                       try clear c90
                       try clear c92
                       try clear c92b0
                       try clear c92b1
                       try clear c93
                       try clear c95
                       try clear c95b0
                       try clear c95b1
                       try clear c97
                       try clear c97b0
                       try clear c97b1
                       try clear c101
                       try clear c107
                       try clear c107b0
                       try clear c107b1
                       try clear c108
                       try clear c108b0
                       try clear c108b1
                       try clear c109
                       try clear c109b0
                       try clear c109b1
                       try clear c110
                       try clear c112
                       try clear c113
                       try clear c113b0
                       try clear c114
                       try clear c114b0
                       try clear c114b1
                       try clear c115
                       try clear c115b0
                       try clear c115b1
                       try clear c116
                       try clear c116b0
                       try clear c116b1
                       try clear c117
                       try clear c117b0
                       try clear c118
                       try clear c118b0
                       try clear c118b1
                       try clear c119
                       try clear c119b0
                       try clear c119b1
                       try clear c120
                       try clear c120b0
                       try clear p2
                       obtain ⟨kq, x266_110, rfl, HA, HJ110, HO_5, HB⟩ := hcut
                       cases kq with
                       | zero => exact absurd HA.out (by simp [laws_FnStamps.j5])
                       | succ kj110 =>
                        have H := HA.out
                        clear HA
                        simp only [laws_FnStamps.j5] at H
                        by_cases c121 : x266_110 = true
                        ·subst c121
                         have H1 : (some false) = some r := by rw [if_pos rfl] at H; exact H
                         clear H
                         have H := H1
                         clear H1
                         obtain rfl := Option.some.inj H
                         go_wp2
                         go_ret
                         exact ⟨by first | rfl | (simp [errW_none, errW_some] <;> rfl) | (simp [*, errW_none, errW_some] <;> rfl), by repeat (first | (with_reducible first | exact HB.out | apply below_alloc | apply pw_below_drewN | apply below_drew1) | exact HB.out)⟩
                        ·replace c121 := Bool.eq_false_iff.mpr c121
                         subst c121
                         have H1 : (laws_FnStamps.l0 kj110 t329 t332 t333 t341 0) = some r := by rw [if_neg (show ¬ (false = true) by decide)] at H; exact H
                         clear H
                         have H := H1
                         clear H1
                         have H' := Aside0.mk H
                         clear H
                         go_wp2
                         go_loopg [29] kj110 (fun kq v29 w' => ∃ (x29_7 : Int), v29 = .int .i64 x29_7 ∧ Aside0 (laws_FnStamps.l0 kq t329 t332 t333 t341 x29_7 = some r) ∧ Aside0 (kq ≤ kj110) ∧ Aside0 (Kd.R (Kd.int .i64) 2 w' w.heap.size (fun _ => True) (.slice Ao20 t329.length co20) t329) ∧ Aside0 (Below w.heap.size w w'))
                         case atStart => exact ⟨(0), (by first | rfl | (simp; done) | (simp [*]; done)), H', ⟨Nat.le_refl _⟩, ⟨by (with_reducible repeat (first | apply Kd.R_alloc | apply Kd.R_drewN | apply Kd.R_drew)); exact HO_5.out⟩, ⟨by repeat (first | (with_reducible first | exact HB.out | apply below_alloc | apply pw_below_drewN | apply below_drew1) | exact HB.out)⟩⟩
                         case round =>
                          as_aux_lemma =>
                           clear H'
                           try clear c1
                           try clear c2
                           try clear p2
                           try clear c3
                           try clear c4
                           try clear c5
                           try clear c6
                           try clear c7
                           try clear c8
                           try clear c9
                           try clear c10
                           try clear c11
                           try clear c12
                           try clear c14
                           try clear c20
                           try clear c23
                           try clear c24
                           try clear c25
                           try clear c26
                           try clear c27
                           try clear c28
                           try clear c28b0
                           try clear c28b1
                           try clear c29
                           try clear c29b0
                           try clear c29b1
                           try clear c31
                           try clear c32
                           try clear c32b0
                           try clear c32b1
                           try clear c33
                           try clear c33b0
                           try clear c33b1
                           try clear c33b2
                           try clear c36
                           try clear c36b0
                           try clear c36b1
                           try clear c38
                           try clear c39
                           try clear c39b0
                           try clear c39b1
                           try clear c40
                           try clear c40b0
                           try clear c40b1
                           try clear c41
                           try clear c41b0
                           try clear c41b1
                           try clear c42
                           try clear c42b0
                           try clear c42b1
                           try clear c43
                           try clear c43b0
                           try clear c43b1
                           try clear c43b2
                           try clear c80
                           try clear c82
                           try clear c84
                           try clear c84b0
                           try clear c84b1
                           try clear c86
                           try clear c86b0
                           try clear c86b1
                           try clear c90
                           try clear c92
                           try clear c92b0
                           try clear c92b1
                           try clear c93
                           try clear c95
                           try clear c95b0
                           try clear c95b1
                           try clear c97
                           try clear c97b0
                           try clear c97b1
                           try clear c101
                           try clear c107
                           try clear c107b0
                           try clear c107b1
                           try clear c108
                           try clear c108b0
                           try clear c108b1
                           try clear c109
                           try clear c109b0
                           try clear c109b1
                           try clear c110
                           try clear c112
                           try clear c113
                           try clear c113b0
                           try clear c114
                           try clear c114b0
                           try clear c114b1
                           try clear c115
                           try clear c115b0
                           try clear c115b1
                           try clear c116
                           try clear c116b0
                           try clear c116b1
                           try clear c117
                           try clear c117b0
                           try clear c118
                           try clear c118b0
                           try clear c118b1
                           try clear c119
                           try clear c119b0
                           try clear c119b1
                           try clear c120
                           try clear c120b0
                           try clear c121
                           try clear p2
                           obtain ⟨x29_7, rfl, HA, HK7, HO_5, HB⟩ := hrel
                           cases gk with
                           | zero => exact absurd HA.out (by simp [laws_FnStamps.l0])
                           | succ k7 =>
                            have H := HA.out
                            clear HA
                            simp only [laws_FnStamps.l0] at H
                            by_cases c122 : x29_7 < (t329.length : Int)
                            ·rw [if_pos c122] at H
                             have c122b0 : decide (x29_7 < (t329.length : Int)) = true := decide_eq_true c122
                             clear c122
                             by_cases c123 : 0 ≤ x29_7
                             ·rw [if_pos c123] at H
                              have c123b0 : decide (0 ≤ x29_7) = true := decide_eq_true c123
                              clear c123
                              replace H := Option.bind_eq_some_iff.mp H
                              obtain ⟨⟨t371, t372⟩, A1240, H⟩ := H
                              replace H : ((impl_FewestStamps.f t329 (wrap64 (t332 + (rd t329 x29_7)))).bind fun bt374 => (if t333 = true then (if t372 = 0 then (if t371 = true then (if bt374.2.2 = 0 then (if bt374.2.1 > (wrap64 (t341 + 1)) then (some false) else (laws_FnStamps.l0 k7 t329 t332 t333 t341 (wrap64 (x29_7 + 1)))) else (some false)) else (some false)) else (some false)) else (laws_FnStamps.l0 k7 t329 t332 t333 t341 (wrap64 (x29_7 + 1))))) = some r := H
                              have A124 := Aside0.mk A1240
                              clear A1240
                              replace H := Option.bind_eq_some_iff.mp H
                              obtain ⟨⟨t374, t375, t376⟩, A1250, H⟩ := H
                              replace H : (if t333 = true then (if t372 = 0 then (if t371 = true then (if t376 = 0 then (if t375 > (wrap64 (t341 + 1)) then (some false) else (laws_FnStamps.l0 k7 t329 t332 t333 t341 (wrap64 (x29_7 + 1)))) else (some false)) else (some false)) else (some false)) else (laws_FnStamps.l0 k7 t329 t332 t333 t341 (wrap64 (x29_7 + 1)))) = some r := H
                              have A125 := Aside0.mk A1250
                              clear A1250
                              by_cases c126 : t333 = true
                              ·subst c126
                               have H1 : (if t372 = 0 then (if t371 = true then (if t376 = 0 then (if t375 > (wrap64 (t341 + 1)) then (some false) else (laws_FnStamps.l0 k7 t329 t332 true t341 (wrap64 (x29_7 + 1)))) else (some false)) else (some false)) else (some false)) = some r := by rw [if_pos rfl] at H; exact H
                               clear H
                               have H := H1
                               clear H1
                               by_cases c127 : t372 = 0
                               ·rw [if_pos c127] at H
                                have c127b0 : (t372 == 0) = true := beq_iff_eq.mpr c127
                                have c127b1 : (t372 != 0) = false := bne_eq_false_iff_eq.mpr c127
                                clear c127
                                by_cases c128 : t371 = true
                                ·subst c128
                                 have H1 : (if t376 = 0 then (if t375 > (wrap64 (t341 + 1)) then (some false) else (laws_FnStamps.l0 k7 t329 t332 true t341 (wrap64 (x29_7 + 1)))) else (some false)) = some r := by rw [if_pos rfl] at H; exact H
                                 clear H
                                 have H := H1
                                 clear H1
                                 by_cases c129 : t376 = 0
                                 ·rw [if_pos c129] at H
                                  have c129b0 : (t376 == 0) = true := beq_iff_eq.mpr c129
                                  have c129b1 : (t376 != 0) = false := bne_eq_false_iff_eq.mpr c129
                                  clear c129
                                  by_cases c130 : t375 > (wrap64 (t341 + 1))
                                  ·rw [if_pos c130] at H
                                   have c130b0 : decide ((wrap64 (t341 + 1)) < t375) = true := decide_eq_true c130
                                   clear c130
                                   obtain rfl := Option.some.inj H
                                   have p370 : 0 ≤ (x29_7 : Int) := of_decide_eq_true (by first | (with_reducible assumption) | assumption)
                                   have q370 : x29_7 < (t329.length : Int) := of_decide_eq_true (by first | (with_reducible assumption) | assumption)
                                   obtain ⟨ad370, e370, hx370_0⟩ := Kd.at_int (Kd.R_reads' HO_5.out).2.2 x29_7 p370 q370
                                   cases e370
                                   replace p370 := eq_true p370
                                   replace q370 := eq_true q370
                                   go_wp2_with (first | ((with_reducible refine gate_callee (f := 14) rfl ?_); refine goesL_ (some 281) rfl rfl Try.func14 (by kernel_rfl) rfl #[.slice (some ad370) t329.length co20, .int .i64 (wrap64 (t332 + (rd t329 x29_7)))] rfl (by (try simp only [List.map_toArray, List.map_cons, List.map_nil]); first | done | rfl | (simp only [List.length_drop, List.length_take]; rfl)) ?_; (with_reducible refine (impl_CanPay.calls k7 _ _ t329 (wrap64 (t332 + (rd t329 x29_7))) true t372 _ ?side1 ?side2 A124.out).mono ?_); (case side1 => repeat (first | exact (Kd.R_reads' HO_5.out).2.2 | (with_reducible refine Kd.C_alloc ?_ _) | (with_reducible refine Kd.C_drewN ?_ _) | (with_reducible refine Kd.C_drew ?_))); (case side2 => exact (Kd.R_reads' HO_5.out).2.1); rintro e w131 ⟨rfl, hb⟩; refine ⟨_, rfl, ?_⟩; have n0_ := Aside0.mk (Kd.R_below (by (with_reducible repeat (first | apply Kd.R_alloc | apply Kd.R_drewN | apply Kd.R_drew)); exact HO_5.out) hb); have n1_ := Aside0.mk (below_step (by repeat (first | (with_reducible first | exact HB.out | apply below_alloc | apply pw_below_drewN | apply below_drew1) | exact HB.out)) hb); clear HO_5; clear HB; have HO_5 := n0_; have HB := n1_; clear n0_ n1_; (try clear hb); (try clear hb2); (try clear hk); (try clear hi); have p373 : 0 ≤ (x29_7 : Int) := of_decide_eq_true (by first | (with_reducible assumption) | assumption); have q373 : x29_7 < (t329.length : Int) := of_decide_eq_true (by first | (with_reducible assumption) | assumption); obtain ⟨ad373, e373, hx373_0⟩ := Kd.at_int (Kd.R_reads' HO_5.out).2.2 x29_7 p373 q373; obtain rfl : ad370 = ad373 := (by injection e373); replace p373 := eq_true p373; replace q373 := eq_true q373) | ((with_reducible refine gate_callee (f := 20) rfl ?_); refine goesL_ (some 292) rfl rfl Try.func20 (by kernel_rfl) rfl #[.slice (some ad370) t329.length co20, .int .i64 (wrap64 (t332 + (rd t329 x29_7)))] rfl (by (try simp only [List.map_toArray, List.map_cons, List.map_nil]); first | done | rfl | (simp only [List.length_drop, List.length_take]; rfl)) ?_; (with_reducible refine (impl_FewestStamps.calls _ _ t329 (wrap64 (t332 + (rd t329 x29_7))) t374 t375 t376 _ ?side1 ?side2 A125.out).mono ?_); (case side1 => repeat (first | exact (Kd.R_reads' HO_5.out).2.2 | (with_reducible refine Kd.C_alloc ?_ _) | (with_reducible refine Kd.C_drewN ?_ _) | (with_reducible refine Kd.C_drew ?_))); (case side2 => exact (Kd.R_reads' HO_5.out).2.1); rintro e w132 ⟨v377, rfl, ho0, hb⟩; refine ⟨_, rfl, ?_⟩; have n0_ := Aside0.mk (Kd.R_elder' (by (with_reducible repeat (first | apply Kd.R_alloc | apply Kd.R_drewN | apply Kd.R_drew)); exact HO_5.out) (Kd.R_base ho0) hb); have n1_ := Aside0.mk (Kd.R_lower (Kd.R_new' ho0 (Kd.R_lt (by (with_reducible repeat (first | apply Kd.R_alloc | apply Kd.R_drewN | apply Kd.R_drew)); exact HO_5.out))) (below_size (by repeat (first | (with_reducible first | exact HB.out | apply below_alloc | apply pw_below_drewN | apply below_drew1) | exact HB.out)))); have n2_ := Aside0.mk (below_step (by repeat (first | (with_reducible first | exact HB.out | apply below_alloc | apply pw_below_drewN | apply below_drew1) | exact HB.out)) hb); clear HO_5; clear HB; have HO_5 := n0_; have HO378 := n1_; have HB := n2_; clear n0_ n1_ n2_; (try clear hb); (try clear hb2); (try clear hk); (try clear hi); (try clear ho0)))
                                   go_ret
                                   exact ⟨by first | rfl | (simp [errW_none, errW_some] <;> rfl) | (simp [*, errW_none, errW_some] <;> rfl), by repeat (first | (with_reducible first | exact HB.out | apply below_alloc | apply pw_below_drewN | apply below_drew1) | exact HB.out)⟩
                                  ·rw [if_neg c130] at H
                                   have c130b0 : decide ((wrap64 (t341 + 1)) < t375) = false := decide_eq_false c130
                                   clear c130
                                   have H' := Aside0.mk H
                                   clear H
                                   have p370 : 0 ≤ (x29_7 : Int) := of_decide_eq_true (by first | (with_reducible assumption) | assumption)
                                   have q370 : x29_7 < (t329.length : Int) := of_decide_eq_true (by first | (with_reducible assumption) | assumption)
                                   obtain ⟨ad370, e370, hx370_0⟩ := Kd.at_int (Kd.R_reads' HO_5.out).2.2 x29_7 p370 q370
                                   cases e370
                                   replace p370 := eq_true p370
                                   replace q370 := eq_true q370
                                   go_wp2_with (first | ((with_reducible refine gate_callee (f := 14) rfl ?_); refine goesL_ (some 281) rfl rfl Try.func14 (by kernel_rfl) rfl #[.slice (some ad370) t329.length co20, .int .i64 (wrap64 (t332 + (rd t329 x29_7)))] rfl (by (try simp only [List.map_toArray, List.map_cons, List.map_nil]); first | done | rfl | (simp only [List.length_drop, List.length_take]; rfl)) ?_; (with_reducible refine (impl_CanPay.calls k7 _ _ t329 (wrap64 (t332 + (rd t329 x29_7))) true t372 _ ?side1 ?side2 A124.out).mono ?_); (case side1 => repeat (first | exact (Kd.R_reads' HO_5.out).2.2 | (with_reducible refine Kd.C_alloc ?_ _) | (with_reducible refine Kd.C_drewN ?_ _) | (with_reducible refine Kd.C_drew ?_))); (case side2 => exact (Kd.R_reads' HO_5.out).2.1); rintro e w133 ⟨rfl, hb⟩; refine ⟨_, rfl, ?_⟩; have n0_ := Aside0.mk (Kd.R_below (by (with_reducible repeat (first | apply Kd.R_alloc | apply Kd.R_drewN | apply Kd.R_drew)); exact HO_5.out) hb); have n1_ := Aside0.mk (below_step (by repeat (first | (with_reducible first | exact HB.out | apply below_alloc | apply pw_below_drewN | apply below_drew1) | exact HB.out)) hb); clear HO_5; clear HB; have HO_5 := n0_; have HB := n1_; clear n0_ n1_; (try clear hb); (try clear hb2); (try clear hk); (try clear hi); have p373 : 0 ≤ (x29_7 : Int) := of_decide_eq_true (by first | (with_reducible assumption) | assumption); have q373 : x29_7 < (t329.length : Int) := of_decide_eq_true (by first | (with_reducible assumption) | assumption); obtain ⟨ad373, e373, hx373_0⟩ := Kd.at_int (Kd.R_reads' HO_5.out).2.2 x29_7 p373 q373; obtain rfl : ad370 = ad373 := (by injection e373); replace p373 := eq_true p373; replace q373 := eq_true q373) | ((with_reducible refine gate_callee (f := 20) rfl ?_); refine goesL_ (some 292) rfl rfl Try.func20 (by kernel_rfl) rfl #[.slice (some ad370) t329.length co20, .int .i64 (wrap64 (t332 + (rd t329 x29_7)))] rfl (by (try simp only [List.map_toArray, List.map_cons, List.map_nil]); first | done | rfl | (simp only [List.length_drop, List.length_take]; rfl)) ?_; (with_reducible refine (impl_FewestStamps.calls _ _ t329 (wrap64 (t332 + (rd t329 x29_7))) t374 t375 t376 _ ?side1 ?side2 A125.out).mono ?_); (case side1 => repeat (first | exact (Kd.R_reads' HO_5.out).2.2 | (with_reducible refine Kd.C_alloc ?_ _) | (with_reducible refine Kd.C_drewN ?_ _) | (with_reducible refine Kd.C_drew ?_))); (case side2 => exact (Kd.R_reads' HO_5.out).2.1); rintro e w134 ⟨v377, rfl, ho0, hb⟩; refine ⟨_, rfl, ?_⟩; have n0_ := Aside0.mk (Kd.R_elder' (by (with_reducible repeat (first | apply Kd.R_alloc | apply Kd.R_drewN | apply Kd.R_drew)); exact HO_5.out) (Kd.R_base ho0) hb); have n1_ := Aside0.mk (Kd.R_lower (Kd.R_new' ho0 (Kd.R_lt (by (with_reducible repeat (first | apply Kd.R_alloc | apply Kd.R_drewN | apply Kd.R_drew)); exact HO_5.out))) (below_size (by repeat (first | (with_reducible first | exact HB.out | apply below_alloc | apply pw_below_drewN | apply below_drew1) | exact HB.out)))); have n2_ := Aside0.mk (below_step (by repeat (first | (with_reducible first | exact HB.out | apply below_alloc | apply pw_below_drewN | apply below_drew1) | exact HB.out)) hb); clear HO_5; clear HB; have HO_5 := n0_; have HO378 := n1_; have HB := n2_; clear n0_ n1_ n2_; (try clear hb); (try clear hb2); (try clear hk); (try clear hi); (try clear ho0)))
                                   go_roundg k7
                                   case measure => have := HJ2.out; have := HJ16.out; have := HJ80.out; have := HJ90.out; have := HJ103.out; have := HJ110.out; have := HK7.out; omega
                                   case rel => exact ⟨(wrap64 (x29_7 + 1)), (by first | rfl | (simp; done) | (simp [*]; done)), H', ⟨by have := HJ2.out; have := HJ16.out; have := HJ80.out; have := HJ90.out; have := HJ103.out; have := HJ110.out; have := HK7.out; omega⟩, ⟨by (with_reducible repeat (first | apply Kd.R_alloc | apply Kd.R_drewN | apply Kd.R_drew)); exact Kd.R_mono HO_5.out (fun _ hk => trivial)⟩, ⟨by repeat (first | (with_reducible first | exact HB.out | apply below_alloc | apply pw_below_drewN | apply below_drew1) | exact HB.out)⟩⟩
                                 ·rw [if_neg c129] at H
                                  have c129b0 : (t376 == 0) = false := beq_eq_false_iff_ne.mpr c129
                                  have c129b1 : (t376 != 0) = true := bne_iff_ne.mpr c129
                                  obtain rfl := Option.some.inj H
                                  have p370 : 0 ≤ (x29_7 : Int) := of_decide_eq_true (by first | (with_reducible assumption) | assumption)
                                  have q370 : x29_7 < (t329.length : Int) := of_decide_eq_true (by first | (with_reducible assumption) | assumption)
                                  obtain ⟨ad370, e370, hx370_0⟩ := Kd.at_int (Kd.R_reads' HO_5.out).2.2 x29_7 p370 q370
                                  cases e370
                                  replace p370 := eq_true p370
                                  replace q370 := eq_true q370
                                  go_wp2_with (first | ((with_reducible refine gate_callee (f := 14) rfl ?_); refine goesL_ (some 281) rfl rfl Try.func14 (by kernel_rfl) rfl #[.slice (some ad370) t329.length co20, .int .i64 (wrap64 (t332 + (rd t329 x29_7)))] rfl (by (try simp only [List.map_toArray, List.map_cons, List.map_nil]); first | done | rfl | (simp only [List.length_drop, List.length_take]; rfl)) ?_; (with_reducible refine (impl_CanPay.calls k7 _ _ t329 (wrap64 (t332 + (rd t329 x29_7))) true t372 _ ?side1 ?side2 A124.out).mono ?_); (case side1 => repeat (first | exact (Kd.R_reads' HO_5.out).2.2 | (with_reducible refine Kd.C_alloc ?_ _) | (with_reducible refine Kd.C_drewN ?_ _) | (with_reducible refine Kd.C_drew ?_))); (case side2 => exact (Kd.R_reads' HO_5.out).2.1); rintro e w135 ⟨rfl, hb⟩; refine ⟨_, rfl, ?_⟩; have n0_ := Aside0.mk (Kd.R_below (by (with_reducible repeat (first | apply Kd.R_alloc | apply Kd.R_drewN | apply Kd.R_drew)); exact HO_5.out) hb); have n1_ := Aside0.mk (below_step (by repeat (first | (with_reducible first | exact HB.out | apply below_alloc | apply pw_below_drewN | apply below_drew1) | exact HB.out)) hb); clear HO_5; clear HB; have HO_5 := n0_; have HB := n1_; clear n0_ n1_; (try clear hb); (try clear hb2); (try clear hk); (try clear hi); have p373 : 0 ≤ (x29_7 : Int) := of_decide_eq_true (by first | (with_reducible assumption) | assumption); have q373 : x29_7 < (t329.length : Int) := of_decide_eq_true (by first | (with_reducible assumption) | assumption); obtain ⟨ad373, e373, hx373_0⟩ := Kd.at_int (Kd.R_reads' HO_5.out).2.2 x29_7 p373 q373; obtain rfl : ad370 = ad373 := (by injection e373); replace p373 := eq_true p373; replace q373 := eq_true q373) | ((with_reducible refine gate_callee (f := 20) rfl ?_); refine goesL_ (some 292) rfl rfl Try.func20 (by kernel_rfl) rfl #[.slice (some ad370) t329.length co20, .int .i64 (wrap64 (t332 + (rd t329 x29_7)))] rfl (by (try simp only [List.map_toArray, List.map_cons, List.map_nil]); first | done | rfl | (simp only [List.length_drop, List.length_take]; rfl)) ?_; (with_reducible refine (impl_FewestStamps.calls _ _ t329 (wrap64 (t332 + (rd t329 x29_7))) t374 t375 t376 _ ?side1 ?side2 A125.out).mono ?_); (case side1 => repeat (first | exact (Kd.R_reads' HO_5.out).2.2 | (with_reducible refine Kd.C_alloc ?_ _) | (with_reducible refine Kd.C_drewN ?_ _) | (with_reducible refine Kd.C_drew ?_))); (case side2 => exact (Kd.R_reads' HO_5.out).2.1); rintro e w136 ⟨v377, rfl, ho0, hb⟩; refine ⟨_, rfl, ?_⟩; have n0_ := Aside0.mk (Kd.R_elder' (by (with_reducible repeat (first | apply Kd.R_alloc | apply Kd.R_drewN | apply Kd.R_drew)); exact HO_5.out) (Kd.R_base ho0) hb); have n1_ := Aside0.mk (Kd.R_lower (Kd.R_new' ho0 (Kd.R_lt (by (with_reducible repeat (first | apply Kd.R_alloc | apply Kd.R_drewN | apply Kd.R_drew)); exact HO_5.out))) (below_size (by repeat (first | (with_reducible first | exact HB.out | apply below_alloc | apply pw_below_drewN | apply below_drew1) | exact HB.out)))); have n2_ := Aside0.mk (below_step (by repeat (first | (with_reducible first | exact HB.out | apply below_alloc | apply pw_below_drewN | apply below_drew1) | exact HB.out)) hb); clear HO_5; clear HB; have HO_5 := n0_; have HO378 := n1_; have HB := n2_; clear n0_ n1_ n2_; (try clear hb); (try clear hb2); (try clear hk); (try clear hi); (try clear ho0)))
                                  go_ret
                                  exact ⟨by first | rfl | (simp [errW_none, errW_some] <;> rfl) | (simp [*, errW_none, errW_some] <;> rfl), by repeat (first | (with_reducible first | exact HB.out | apply below_alloc | apply pw_below_drewN | apply below_drew1) | exact HB.out)⟩
                                ·replace c128 := Bool.eq_false_iff.mpr c128
                                 subst c128
                                 have H1 : (some false) = some r := by rw [if_neg (show ¬ (false = true) by decide)] at H; exact H
                                 clear H
                                 have H := H1
                                 clear H1
                                 obtain rfl := Option.some.inj H
                                 have p370 : 0 ≤ (x29_7 : Int) := of_decide_eq_true (by first | (with_reducible assumption) | assumption)
                                 have q370 : x29_7 < (t329.length : Int) := of_decide_eq_true (by first | (with_reducible assumption) | assumption)
                                 obtain ⟨ad370, e370, hx370_0⟩ := Kd.at_int (Kd.R_reads' HO_5.out).2.2 x29_7 p370 q370
                                 cases e370
                                 replace p370 := eq_true p370
                                 replace q370 := eq_true q370
                                 go_wp2_with (first | ((with_reducible refine gate_callee (f := 14) rfl ?_); refine goesL_ (some 281) rfl rfl Try.func14 (by kernel_rfl) rfl #[.slice (some ad370) t329.length co20, .int .i64 (wrap64 (t332 + (rd t329 x29_7)))] rfl (by (try simp only [List.map_toArray, List.map_cons, List.map_nil]); first | done | rfl | (simp only [List.length_drop, List.length_take]; rfl)) ?_; (with_reducible refine (impl_CanPay.calls k7 _ _ t329 (wrap64 (t332 + (rd t329 x29_7))) false t372 _ ?side1 ?side2 A124.out).mono ?_); (case side1 => repeat (first | exact (Kd.R_reads' HO_5.out).2.2 | (with_reducible refine Kd.C_alloc ?_ _) | (with_reducible refine Kd.C_drewN ?_ _) | (with_reducible refine Kd.C_drew ?_))); (case side2 => exact (Kd.R_reads' HO_5.out).2.1); rintro e w137 ⟨rfl, hb⟩; refine ⟨_, rfl, ?_⟩; have n0_ := Aside0.mk (Kd.R_below (by (with_reducible repeat (first | apply Kd.R_alloc | apply Kd.R_drewN | apply Kd.R_drew)); exact HO_5.out) hb); have n1_ := Aside0.mk (below_step (by repeat (first | (with_reducible first | exact HB.out | apply below_alloc | apply pw_below_drewN | apply below_drew1) | exact HB.out)) hb); clear HO_5; clear HB; have HO_5 := n0_; have HB := n1_; clear n0_ n1_; (try clear hb); (try clear hb2); (try clear hk); (try clear hi); have p373 : 0 ≤ (x29_7 : Int) := of_decide_eq_true (by first | (with_reducible assumption) | assumption); have q373 : x29_7 < (t329.length : Int) := of_decide_eq_true (by first | (with_reducible assumption) | assumption); obtain ⟨ad373, e373, hx373_0⟩ := Kd.at_int (Kd.R_reads' HO_5.out).2.2 x29_7 p373 q373; obtain rfl : ad370 = ad373 := (by injection e373); replace p373 := eq_true p373; replace q373 := eq_true q373) | ((with_reducible refine gate_callee (f := 20) rfl ?_); refine goesL_ (some 292) rfl rfl Try.func20 (by kernel_rfl) rfl #[.slice (some ad370) t329.length co20, .int .i64 (wrap64 (t332 + (rd t329 x29_7)))] rfl (by (try simp only [List.map_toArray, List.map_cons, List.map_nil]); first | done | rfl | (simp only [List.length_drop, List.length_take]; rfl)) ?_; (with_reducible refine (impl_FewestStamps.calls _ _ t329 (wrap64 (t332 + (rd t329 x29_7))) t374 t375 t376 _ ?side1 ?side2 A125.out).mono ?_); (case side1 => repeat (first | exact (Kd.R_reads' HO_5.out).2.2 | (with_reducible refine Kd.C_alloc ?_ _) | (with_reducible refine Kd.C_drewN ?_ _) | (with_reducible refine Kd.C_drew ?_))); (case side2 => exact (Kd.R_reads' HO_5.out).2.1); rintro e w138 ⟨v377, rfl, ho0, hb⟩; refine ⟨_, rfl, ?_⟩; have n0_ := Aside0.mk (Kd.R_elder' (by (with_reducible repeat (first | apply Kd.R_alloc | apply Kd.R_drewN | apply Kd.R_drew)); exact HO_5.out) (Kd.R_base ho0) hb); have n1_ := Aside0.mk (Kd.R_lower (Kd.R_new' ho0 (Kd.R_lt (by (with_reducible repeat (first | apply Kd.R_alloc | apply Kd.R_drewN | apply Kd.R_drew)); exact HO_5.out))) (below_size (by repeat (first | (with_reducible first | exact HB.out | apply below_alloc | apply pw_below_drewN | apply below_drew1) | exact HB.out)))); have n2_ := Aside0.mk (below_step (by repeat (first | (with_reducible first | exact HB.out | apply below_alloc | apply pw_below_drewN | apply below_drew1) | exact HB.out)) hb); clear HO_5; clear HB; have HO_5 := n0_; have HO378 := n1_; have HB := n2_; clear n0_ n1_ n2_; (try clear hb); (try clear hb2); (try clear hk); (try clear hi); (try clear ho0)))
                                 go_ret
                                 exact ⟨by first | rfl | (simp [errW_none, errW_some] <;> rfl) | (simp [*, errW_none, errW_some] <;> rfl), by repeat (first | (with_reducible first | exact HB.out | apply below_alloc | apply pw_below_drewN | apply below_drew1) | exact HB.out)⟩
                               ·rw [if_neg c127] at H
                                have c127b0 : (t372 == 0) = false := beq_eq_false_iff_ne.mpr c127
                                have c127b1 : (t372 != 0) = true := bne_iff_ne.mpr c127
                                obtain rfl := Option.some.inj H
                                have p370 : 0 ≤ (x29_7 : Int) := of_decide_eq_true (by first | (with_reducible assumption) | assumption)
                                have q370 : x29_7 < (t329.length : Int) := of_decide_eq_true (by first | (with_reducible assumption) | assumption)
                                obtain ⟨ad370, e370, hx370_0⟩ := Kd.at_int (Kd.R_reads' HO_5.out).2.2 x29_7 p370 q370
                                cases e370
                                replace p370 := eq_true p370
                                replace q370 := eq_true q370
                                go_wp2_with (first | ((with_reducible refine gate_callee (f := 14) rfl ?_); refine goesL_ (some 281) rfl rfl Try.func14 (by kernel_rfl) rfl #[.slice (some ad370) t329.length co20, .int .i64 (wrap64 (t332 + (rd t329 x29_7)))] rfl (by (try simp only [List.map_toArray, List.map_cons, List.map_nil]); first | done | rfl | (simp only [List.length_drop, List.length_take]; rfl)) ?_; (with_reducible refine (impl_CanPay.calls k7 _ _ t329 (wrap64 (t332 + (rd t329 x29_7))) t371 t372 _ ?side1 ?side2 A124.out).mono ?_); (case side1 => repeat (first | exact (Kd.R_reads' HO_5.out).2.2 | (with_reducible refine Kd.C_alloc ?_ _) | (with_reducible refine Kd.C_drewN ?_ _) | (with_reducible refine Kd.C_drew ?_))); (case side2 => exact (Kd.R_reads' HO_5.out).2.1); rintro e w139 ⟨rfl, hb⟩; refine ⟨_, rfl, ?_⟩; have n0_ := Aside0.mk (Kd.R_below (by (with_reducible repeat (first | apply Kd.R_alloc | apply Kd.R_drewN | apply Kd.R_drew)); exact HO_5.out) hb); have n1_ := Aside0.mk (below_step (by repeat (first | (with_reducible first | exact HB.out | apply below_alloc | apply pw_below_drewN | apply below_drew1) | exact HB.out)) hb); clear HO_5; clear HB; have HO_5 := n0_; have HB := n1_; clear n0_ n1_; (try clear hb); (try clear hb2); (try clear hk); (try clear hi); have p373 : 0 ≤ (x29_7 : Int) := of_decide_eq_true (by first | (with_reducible assumption) | assumption); have q373 : x29_7 < (t329.length : Int) := of_decide_eq_true (by first | (with_reducible assumption) | assumption); obtain ⟨ad373, e373, hx373_0⟩ := Kd.at_int (Kd.R_reads' HO_5.out).2.2 x29_7 p373 q373; obtain rfl : ad370 = ad373 := (by injection e373); replace p373 := eq_true p373; replace q373 := eq_true q373) | ((with_reducible refine gate_callee (f := 20) rfl ?_); refine goesL_ (some 292) rfl rfl Try.func20 (by kernel_rfl) rfl #[.slice (some ad370) t329.length co20, .int .i64 (wrap64 (t332 + (rd t329 x29_7)))] rfl (by (try simp only [List.map_toArray, List.map_cons, List.map_nil]); first | done | rfl | (simp only [List.length_drop, List.length_take]; rfl)) ?_; (with_reducible refine (impl_FewestStamps.calls _ _ t329 (wrap64 (t332 + (rd t329 x29_7))) t374 t375 t376 _ ?side1 ?side2 A125.out).mono ?_); (case side1 => repeat (first | exact (Kd.R_reads' HO_5.out).2.2 | (with_reducible refine Kd.C_alloc ?_ _) | (with_reducible refine Kd.C_drewN ?_ _) | (with_reducible refine Kd.C_drew ?_))); (case side2 => exact (Kd.R_reads' HO_5.out).2.1); rintro e w140 ⟨v377, rfl, ho0, hb⟩; refine ⟨_, rfl, ?_⟩; have n0_ := Aside0.mk (Kd.R_elder' (by (with_reducible repeat (first | apply Kd.R_alloc | apply Kd.R_drewN | apply Kd.R_drew)); exact HO_5.out) (Kd.R_base ho0) hb); have n1_ := Aside0.mk (Kd.R_lower (Kd.R_new' ho0 (Kd.R_lt (by (with_reducible repeat (first | apply Kd.R_alloc | apply Kd.R_drewN | apply Kd.R_drew)); exact HO_5.out))) (below_size (by repeat (first | (with_reducible first | exact HB.out | apply below_alloc | apply pw_below_drewN | apply below_drew1) | exact HB.out)))); have n2_ := Aside0.mk (below_step (by repeat (first | (with_reducible first | exact HB.out | apply below_alloc | apply pw_below_drewN | apply below_drew1) | exact HB.out)) hb); clear HO_5; clear HB; have HO_5 := n0_; have HO378 := n1_; have HB := n2_; clear n0_ n1_ n2_; (try clear hb); (try clear hb2); (try clear hk); (try clear hi); (try clear ho0)))
                                go_ret
                                exact ⟨by first | rfl | (simp [errW_none, errW_some] <;> rfl) | (simp [*, errW_none, errW_some] <;> rfl), by repeat (first | (with_reducible first | exact HB.out | apply below_alloc | apply pw_below_drewN | apply below_drew1) | exact HB.out)⟩
                              ·replace c126 := Bool.eq_false_iff.mpr c126
                               subst c126
                               have H1 : (laws_FnStamps.l0 k7 t329 t332 false t341 (wrap64 (x29_7 + 1))) = some r := by rw [if_neg (show ¬ (false = true) by decide)] at H; exact H
                               clear H
                               have H := H1
                               clear H1
                               have H' := Aside0.mk H
                               clear H
                               have p370 : 0 ≤ (x29_7 : Int) := of_decide_eq_true (by first | (with_reducible assumption) | assumption)
                               have q370 : x29_7 < (t329.length : Int) := of_decide_eq_true (by first | (with_reducible assumption) | assumption)
                               obtain ⟨ad370, e370, hx370_0⟩ := Kd.at_int (Kd.R_reads' HO_5.out).2.2 x29_7 p370 q370
                               cases e370
                               replace p370 := eq_true p370
                               replace q370 := eq_true q370
                               go_wp2_with (first | ((with_reducible refine gate_callee (f := 14) rfl ?_); refine goesL_ (some 281) rfl rfl Try.func14 (by kernel_rfl) rfl #[.slice (some ad370) t329.length co20, .int .i64 (wrap64 (t332 + (rd t329 x29_7)))] rfl (by (try simp only [List.map_toArray, List.map_cons, List.map_nil]); first | done | rfl | (simp only [List.length_drop, List.length_take]; rfl)) ?_; (with_reducible refine (impl_CanPay.calls k7 _ _ t329 (wrap64 (t332 + (rd t329 x29_7))) t371 t372 _ ?side1 ?side2 A124.out).mono ?_); (case side1 => repeat (first | exact (Kd.R_reads' HO_5.out).2.2 | (with_reducible refine Kd.C_alloc ?_ _) | (with_reducible refine Kd.C_drewN ?_ _) | (with_reducible refine Kd.C_drew ?_))); (case side2 => exact (Kd.R_reads' HO_5.out).2.1); rintro e w141 ⟨rfl, hb⟩; refine ⟨_, rfl, ?_⟩; have n0_ := Aside0.mk (Kd.R_below (by (with_reducible repeat (first | apply Kd.R_alloc | apply Kd.R_drewN | apply Kd.R_drew)); exact HO_5.out) hb); have n1_ := Aside0.mk (below_step (by repeat (first | (with_reducible first | exact HB.out | apply below_alloc | apply pw_below_drewN | apply below_drew1) | exact HB.out)) hb); clear HO_5; clear HB; have HO_5 := n0_; have HB := n1_; clear n0_ n1_; (try clear hb); (try clear hb2); (try clear hk); (try clear hi); have p373 : 0 ≤ (x29_7 : Int) := of_decide_eq_true (by first | (with_reducible assumption) | assumption); have q373 : x29_7 < (t329.length : Int) := of_decide_eq_true (by first | (with_reducible assumption) | assumption); obtain ⟨ad373, e373, hx373_0⟩ := Kd.at_int (Kd.R_reads' HO_5.out).2.2 x29_7 p373 q373; obtain rfl : ad370 = ad373 := (by injection e373); replace p373 := eq_true p373; replace q373 := eq_true q373) | ((with_reducible refine gate_callee (f := 20) rfl ?_); refine goesL_ (some 292) rfl rfl Try.func20 (by kernel_rfl) rfl #[.slice (some ad370) t329.length co20, .int .i64 (wrap64 (t332 + (rd t329 x29_7)))] rfl (by (try simp only [List.map_toArray, List.map_cons, List.map_nil]); first | done | rfl | (simp only [List.length_drop, List.length_take]; rfl)) ?_; (with_reducible refine (impl_FewestStamps.calls _ _ t329 (wrap64 (t332 + (rd t329 x29_7))) t374 t375 t376 _ ?side1 ?side2 A125.out).mono ?_); (case side1 => repeat (first | exact (Kd.R_reads' HO_5.out).2.2 | (with_reducible refine Kd.C_alloc ?_ _) | (with_reducible refine Kd.C_drewN ?_ _) | (with_reducible refine Kd.C_drew ?_))); (case side2 => exact (Kd.R_reads' HO_5.out).2.1); rintro e w142 ⟨v377, rfl, ho0, hb⟩; refine ⟨_, rfl, ?_⟩; have n0_ := Aside0.mk (Kd.R_elder' (by (with_reducible repeat (first | apply Kd.R_alloc | apply Kd.R_drewN | apply Kd.R_drew)); exact HO_5.out) (Kd.R_base ho0) hb); have n1_ := Aside0.mk (Kd.R_lower (Kd.R_new' ho0 (Kd.R_lt (by (with_reducible repeat (first | apply Kd.R_alloc | apply Kd.R_drewN | apply Kd.R_drew)); exact HO_5.out))) (below_size (by repeat (first | (with_reducible first | exact HB.out | apply below_alloc | apply pw_below_drewN | apply below_drew1) | exact HB.out)))); have n2_ := Aside0.mk (below_step (by repeat (first | (with_reducible first | exact HB.out | apply below_alloc | apply pw_below_drewN | apply below_drew1) | exact HB.out)) hb); clear HO_5; clear HB; have HO_5 := n0_; have HO378 := n1_; have HB := n2_; clear n0_ n1_ n2_; (try clear hb); (try clear hb2); (try clear hk); (try clear hi); (try clear ho0)))
                               go_roundg k7
                               case measure => have := HJ2.out; have := HJ16.out; have := HJ80.out; have := HJ90.out; have := HJ103.out; have := HJ110.out; have := HK7.out; omega
                               case rel => exact ⟨(wrap64 (x29_7 + 1)), (by first | rfl | (simp; done) | (simp [*]; done)), H', ⟨by have := HJ2.out; have := HJ16.out; have := HJ80.out; have := HJ90.out; have := HJ103.out; have := HJ110.out; have := HK7.out; omega⟩, ⟨by (with_reducible repeat (first | apply Kd.R_alloc | apply Kd.R_drewN | apply Kd.R_drew)); exact Kd.R_mono HO_5.out (fun _ hk => trivial)⟩, ⟨by repeat (first | (with_reducible first | exact HB.out | apply below_alloc | apply pw_below_drewN | apply below_drew1) | exact HB.out)⟩⟩
                             ·rw [if_neg c123] at H
                              exact absurd H (by simp)
                            ·rw [if_neg c122] at H
                             have c122b0 : decide (x29_7 < (t329.length : Int)) = false := decide_eq_false c122
                             clear c122
                             obtain rfl := Option.some.inj H
                             go_wp2
                             go_ret
                             exact ⟨by first | rfl | (simp [errW_none, errW_some] <;> rfl) | (simp [*, errW_none, errW_some] <;> rfl), by repeat (first | (with_reducible first | exact HB.out | apply below_alloc | apply pw_below_drewN | apply below_drew1) | exact HB.out)⟩

/-- THE ONE PURE STATEMENT of laws_FnStamps: yours. -/
def laws_FnStamps.Pure : Prop := ∀ (l0 : List Int) (l1 : List Int), l0.length ≤ maxLen → l0.length * 1 ≤ 140737488351232 → (∀ x ∈ l0, (Lit.int .u8 x).wf = true) → l1.length ≤ maxLen → l1.length * 1 ≤ 140737488351232 → (∀ x ∈ l1, (Lit.int .u8 x).wf = true) → ∃ k, laws_FnStamps.f k l0 l1 = some true
theorem laws_FnStamps.walk (P : laws_FnStamps.Pure) (a0 : Option Addr) (len0 cap0 : Nat) (z0 : List Int) (a1 : Option Addr) (len1 cap1 : Nat) (z1 : List Int) (w : World) (w0 : (a0 = none ∧ len0 = 0 ∧ cap0 = 0 ∧ z0 = []) ∨ ∃ x, a0 = some x ∧ len0 ≤ cap0 ∧ cap0 ≤ maxLen ∧ z0.length = cap0 ∧ (∀ i, i < z0.length → w.cell? (x.add i) = some (.int .u8 (z0.getD i 0))) ∧ ∀ n ∈ z0, (Lit.int .u8 n).wf = true) (y0 : len0 * 1 ≤ 140737488351232) (w1 : (a1 = none ∧ len1 = 0 ∧ cap1 = 0 ∧ z1 = []) ∨ ∃ x, a1 = some x ∧ len1 ≤ cap1 ∧ cap1 ≤ maxLen ∧ z1.length = cap1 ∧ (∀ i, i < z1.length → w.cell? (x.add i) = some (.int .u8 (z1.getD i 0))) ∧ ∀ n ∈ z1, (Lit.int .u8 n).wf = true) (y1 : len1 * 1 ≤ 140737488351232) :
  Calls Try.prog 5 #[.slice a0 len0 cap0, .slice a1 len1 cap1] w fun e w' => e = .returned (.bool true) ∧ Below w.heap.size w w' := by
 obtain ⟨l0, rfl, hr0, hm0, hw0, hc0⟩ := ReadsInt.ofRowC w0
 obtain ⟨l1, rfl, hr1, hm1, hw1, hc1⟩ := ReadsInt.ofRowC w1
 obtain ⟨k, h⟩ := P l0 l1 hm0 y0 hw0 hm1 y1 hw1
 refine (laws_FnStamps.calls k _ _ l0 _ _ l1 true w (Kd.C_of_reads (d := (0 : Int)) (h1 := fun _ => rfl) hr0) hc0 (Kd.C_of_reads (d := (0 : Int)) (h1 := fun _ => rfl) hr1) hc1 h ⟨rfl⟩).mono ?_
 rintro e w' ⟨rfl, hd⟩
 exact ⟨rfl, hd⟩

end Go.Proofs.Ytlcnjpibfjhibaa.Q
