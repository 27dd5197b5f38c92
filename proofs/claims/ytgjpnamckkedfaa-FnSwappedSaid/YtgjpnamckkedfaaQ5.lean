-- By a program of this session (wip/pr.py) that turns the kit's printer.
import Derived.Test.YtgjpnamckkedfaaHSwaps
import Derived.Test.YtgjpnamckkedfaaQ0
import Derived.Test.YtgjpnamckkedfaaQ1
import Derived.Test.YtgjpnamckkedfaaQ2
import Derived.Test.YtgjpnamckkedfaaQ3
import Derived.Test.YtgjpnamckkedfaaQ4
import Derived.Test.YtgjpnamckkedfaaQD
namespace Go.Proofs.Ytgjpnamckkedfaa.Q
open Go.RowKit Go.Proofs.YtgjpnamckkedfaaW.PrintWords Go.Proofs.YtgjpnamckkedfaaW.PrintLast Go.Proofs.YtgjpnamckkedfaaW.PrintMore
attribute [local go_sem] max2_int min2_int max_two min_two max_three min_three max_four min_four   -- for this text's walks alone
set_option linter.unusedVariables false
set_option linter.unusedSimpArgs false

set_option maxHeartbeats 8000000 in
set_option maxRecDepth 100000 in
theorem laws_FnSwapped.calls (k : Nat) (A0 : Option Addr) (c0 : Nat) (l0 : List Int) (A1 : Option Addr) (c1 : Nat) (l1 : List Int) (r : Bool) (w : World) (hr0 : Kd.C (Kd.int .u8) w A0 l0.length l0) (hc0 : l0.length ≤ c0) (hr1 : Kd.C (Kd.int .u8) w A1 l1.length l1) (hc1 : l1.length ≤ c1) (h : laws_FnSwapped.f k l0 l1 = some r) :
  Calls Try.prog 3 #[.slice A0 l0.length c0, .slice A1 l1.length c1] w fun e w' => e = .returned (.bool r) ∧ Below w.heap.size w w' := by
 have HR0 := Aside0.mk hr0
 have HC0 := Aside0.mk hc0
 clear hr0 hc0
 have HR1 := Aside0.mk hr1
 have HC1 := Aside0.mk hc1
 clear hr1 hc1
 have HB := Aside0.mk (Below.refl w.heap.size w)
 have H : ((laws_a2Long.f l0 l1).bind fun t204 => (if t204 = true then (some true) else ((laws_a2At.f l0 0 9).bind fun t205 => ((spec_A2Order.f k l1 t205).bind fun t206 => (laws_FnSwapped.l0 k t205 t206 (([] : List Int)) (([] : List Int)) 0))))) = some r := h
 clear h
 replace H := Option.bind_eq_some_iff.mp H
 obtain ⟨t204, A30, H⟩ := H
 replace H : (if t204 = true then (some true) else ((laws_a2At.f l0 0 9).bind fun t205 => ((spec_A2Order.f k l1 t205).bind fun t206 => (laws_FnSwapped.l0 k t205 t206 (([] : List Int)) (([] : List Int)) 0)))) = some r := H
 have A3 := Aside0.mk A30
 clear A30
 by_cases c4 : t204 = true
 ·subst c4
  have H1 : (some true) = some r := by rw [if_pos rfl] at H; exact H
  clear H
  have H := H1
  clear H1
  obtain rfl := Option.some.inj H
  go_enter Try.func3, Try.ntmps3
  go_wp2_with (first | (go_at_call 4; (with_reducible refine (laws_a2Long.calls _ _ l0 _ _ l1 true _ ?side1 ?side2 ?side3 ?side4 A3.out).mono ?_); (case side1 => repeat (first | exact HR0.out | (with_reducible refine Kd.C_alloc ?_ _) | (with_reducible refine Kd.C_drewN ?_ _) | (with_reducible refine Kd.C_drew ?_))); (case side2 => exact HC0.out); (case side3 => repeat (first | exact HR1.out | (with_reducible refine Kd.C_alloc ?_ _) | (with_reducible refine Kd.C_drewN ?_ _) | (with_reducible refine Kd.C_drew ?_))); (case side4 => exact HC1.out); rintro e w' ⟨rfl, ⟨nd, rfl⟩⟩; (try first | exact ⟨rfl, _, World.drewN_drewN _ _ _⟩ | exact ⟨rfl, _, Eq.trans (World.drewN_drewN _ _ _) (congrArg (World.drewN _) (Nat.add_assoc _ _ _))⟩)))
  repeat (go_quiet (first | (go_at_call 4; (with_reducible refine (laws_a2Long.calls _ _ l0 _ _ l1 true _ ?side1 ?side2 ?side3 ?side4 A3.out).mono ?_); (case side1 => repeat (first | exact HR0.out | (with_reducible refine Kd.C_alloc ?_ _) | (with_reducible refine Kd.C_drewN ?_ _) | (with_reducible refine Kd.C_drew ?_))); (case side2 => exact HC0.out); (case side3 => repeat (first | exact HR1.out | (with_reducible refine Kd.C_alloc ?_ _) | (with_reducible refine Kd.C_drewN ?_ _) | (with_reducible refine Kd.C_drew ?_))); (case side4 => exact HC1.out); rintro e w' ⟨rfl, ⟨nd, rfl⟩⟩; (try first | exact ⟨rfl, _, World.drewN_drewN _ _ _⟩ | exact ⟨rfl, _, Eq.trans (World.drewN_drewN _ _ _) (congrArg (World.drewN _) (Nat.add_assoc _ _ _))⟩))); try go_wp2_with (first | (go_at_call 4; (with_reducible refine (laws_a2Long.calls _ _ l0 _ _ l1 true _ ?side1 ?side2 ?side3 ?side4 A3.out).mono ?_); (case side1 => repeat (first | exact HR0.out | (with_reducible refine Kd.C_alloc ?_ _) | (with_reducible refine Kd.C_drewN ?_ _) | (with_reducible refine Kd.C_drew ?_))); (case side2 => exact HC0.out); (case side3 => repeat (first | exact HR1.out | (with_reducible refine Kd.C_alloc ?_ _) | (with_reducible refine Kd.C_drewN ?_ _) | (with_reducible refine Kd.C_drew ?_))); (case side4 => exact HC1.out); rintro e w' ⟨rfl, ⟨nd, rfl⟩⟩; (try first | exact ⟨rfl, _, World.drewN_drewN _ _ _⟩ | exact ⟨rfl, _, Eq.trans (World.drewN_drewN _ _ _) (congrArg (World.drewN _) (Nat.add_assoc _ _ _))⟩))))
  go_ret
  exact ⟨by first | rfl | (simp [errW_none, errW_some] <;> rfl) | (simp [*, errW_none, errW_some] <;> rfl), by repeat (first | (with_reducible first | exact HB.out | apply below_alloc | apply pw_below_drewN | apply below_drew1) | exact HB.out)⟩
 ·replace c4 := Bool.eq_false_iff.mpr c4
  subst c4
  have H1 : ((laws_a2At.f l0 0 9).bind fun t205 => ((spec_A2Order.f k l1 t205).bind fun t206 => (laws_FnSwapped.l0 k t205 t206 (([] : List Int)) (([] : List Int)) 0))) = some r := by rw [if_neg (show ¬ (false = true) by decide)] at H; exact H
  clear H
  have H := H1
  clear H1
  replace H := Option.bind_eq_some_iff.mp H
  obtain ⟨t205, A50, H⟩ := H
  replace H : ((spec_A2Order.f k l1 t205).bind fun t206 => (laws_FnSwapped.l0 k t205 t206 (([] : List Int)) (([] : List Int)) 0)) = some r := H
  have A5 := Aside0.mk A50
  clear A50
  replace H := Option.bind_eq_some_iff.mp H
  obtain ⟨t206, A60, H⟩ := H
  replace H : (laws_FnSwapped.l0 k t205 t206 (([] : List Int)) (([] : List Int)) 0) = some r := H
  have A6 := Aside0.mk A60
  clear A60
  obtain ⟨y209, hy209⟩ : ∃ y_ : List Int, y_ = (([] : List Int)) := ⟨_, rfl⟩
  replace H : (laws_FnSwapped.l0 k t205 t206 y209 (([] : List Int)) 0) = some r := by first | (rw [hy209]; with_reducible exact H) | (have H2_ := (Option.bind_some _ _).symm.trans H; rw [hy209]; with_reducible exact H2_) | (have H2_ := (Option.bind_some _ _).symm.trans H; with_reducible exact H2_) | with_reducible exact H | (rw [hy209]; exact H) | exact H
  have Ny209 := Aside0.mk hy209
  clear hy209
  obtain ⟨y212, hy212⟩ : ∃ y_ : List Int, y_ = (([] : List Int)) := ⟨_, rfl⟩
  replace H : (laws_FnSwapped.l0 k t205 t206 y209 y212 0) = some r := by first | (rw [hy212]; with_reducible exact H) | (have H2_ := (Option.bind_some _ _).symm.trans H; rw [hy212]; with_reducible exact H2_) | (have H2_ := (Option.bind_some _ _).symm.trans H; with_reducible exact H2_) | with_reducible exact H | (rw [hy212]; exact H) | exact H
  have Ny212 := Aside0.mk hy212
  clear hy212
  have H' := Aside0.mk H
  clear H
  go_enter Try.func3, Try.ntmps3
  go_wp2_with (first | (go_at_call 4; (with_reducible refine (laws_a2Long.calls _ _ l0 _ _ l1 false _ ?side1 ?side2 ?side3 ?side4 A3.out).mono ?_); (case side1 => repeat (first | exact HR0.out | (with_reducible refine Kd.C_alloc ?_ _) | (with_reducible refine Kd.C_drewN ?_ _) | (with_reducible refine Kd.C_drew ?_))); (case side2 => exact HC0.out); (case side3 => repeat (first | exact HR1.out | (with_reducible refine Kd.C_alloc ?_ _) | (with_reducible refine Kd.C_drewN ?_ _) | (with_reducible refine Kd.C_drew ?_))); (case side4 => exact HC1.out); rintro e w' ⟨rfl, ⟨nd, rfl⟩⟩; (try first | exact ⟨rfl, _, World.drewN_drewN _ _ _⟩ | exact ⟨rfl, _, Eq.trans (World.drewN_drewN _ _ _) (congrArg (World.drewN _) (Nat.add_assoc _ _ _))⟩)) | (go_at_call 5; (with_reducible refine (laws_a2At.calls _ _ l0 0 9 t205 _ ?side1 ?side2 A5.out).mono ?_); (case side1 => repeat (first | exact HR0.out | (with_reducible refine Kd.C_alloc ?_ _) | (with_reducible refine Kd.C_drewN ?_ _) | (with_reducible refine Kd.C_drew ?_))); (case side2 => exact HC0.out); rintro e w' ⟨rfl, ⟨nd, rfl⟩⟩; (try first | exact ⟨rfl, _, World.drewN_drewN _ _ _⟩ | exact ⟨rfl, _, Eq.trans (World.drewN_drewN _ _ _) (congrArg (World.drewN _) (Nat.add_assoc _ _ _))⟩)) | (go_at_call 6; (with_reducible refine (spec_A2Order.calls k _ _ l1 t205 t206 _ ?side1 ?side2 A6.out).mono ?_); (case side1 => repeat (first | exact HR1.out | (with_reducible refine Kd.C_alloc ?_ _) | (with_reducible refine Kd.C_drewN ?_ _) | (with_reducible refine Kd.C_drew ?_))); (case side2 => exact HC1.out); rintro e w7 ⟨v207, rfl, ho0, hb⟩; have n0_ := Aside0.mk (Kd.R_lower ho0 (below_size (by repeat (first | (with_reducible first | exact HB.out | apply below_alloc | apply pw_below_drewN | apply below_drew1) | exact HB.out)))); have n1_ := Aside0.mk (below_step (by repeat (first | (with_reducible first | exact HB.out | apply below_alloc | apply pw_below_drewN | apply below_drew1) | exact HB.out)) hb); clear HB; have HO208 := n0_; have HB := n1_; clear n0_ n1_; (try clear hb); (try clear hb2); (try clear hk); (try clear hi); (try clear ho0)) | ((with_reducible refine gate_dst (N := 35) rfl ?_); (try (refine gate_guard (by rfl) ?_; dsimp only)); refine Kd.R_lit (Kd.int .i64) _ 2 ?hg (N := 35) ?hd (xs := ([] : List Int)) (inner := []) (ok := fun _ => True) (okp := fun _ => True) ?hr ?hp (fun _ hk => hk) trivial (Below.refl _ _) (Nat.le_refl _) (by simp) ?_; (case hd => rfl); (case hg => rfl); (case hr => first | (go_simp; done) | (go_simp; rfl)); (case hp => exact (Reps.none _ _)); intro v210 w8 ho9 hb hg_ hnew_; clear hg_ hnew_; (first | rw [← Ny209.out] at ho9 | (simp only [Int.reduceToNat] at ho9; rw [← Ny209.out] at ho9)); have n0_ := Aside0.mk (Kd.R_elder' (by (with_reducible repeat (first | apply Kd.R_alloc | apply Kd.R_drewN | apply Kd.R_drew)); exact HO208.out) (Kd.R_base ho9) hb); have n1_ := Aside0.mk (Kd.R_lower (Kd.R_new' ho9 (Kd.R_lt (by (with_reducible repeat (first | apply Kd.R_alloc | apply Kd.R_drewN | apply Kd.R_drew)); exact HO208.out))) (below_size (by repeat (first | (with_reducible first | exact HB.out | apply below_alloc | apply pw_below_drewN | apply below_drew1) | exact HB.out)))); have n2_ := Aside0.mk (below_step (by repeat (first | (with_reducible first | exact HB.out | apply below_alloc | apply pw_below_drewN | apply below_drew1) | exact HB.out)) hb); clear HO208; clear HB; have HO208 := n0_; have HO211 := n1_; have HB := n2_; clear n0_ n1_ n2_; clear hb ho9) | ((with_reducible refine gate_dst (N := 36) rfl ?_); (try (refine gate_guard (by rfl) ?_; dsimp only)); refine Kd.R_lit (Kd.int .i64) _ 2 ?hg (N := 36) ?hd (xs := ([] : List Int)) (inner := []) (ok := fun _ => True) (okp := fun _ => True) ?hr ?hp (fun _ hk => hk) trivial (Below.refl _ _) (Nat.le_refl _) (by simp) ?_; (case hd => rfl); (case hg => rfl); (case hr => first | (go_simp; done) | (go_simp; rfl)); (case hp => exact (Reps.none _ _)); intro v213 w10 ho11 hb hg_ hnew_; clear hg_ hnew_; (first | rw [← Ny212.out] at ho11 | (simp only [Int.reduceToNat] at ho11; rw [← Ny212.out] at ho11)); have n0_ := Aside0.mk (Kd.R_elder' (by (with_reducible repeat (first | apply Kd.R_alloc | apply Kd.R_drewN | apply Kd.R_drew)); exact HO208.out) (Kd.R_base ho11) hb); have n1_ := Aside0.mk (Kd.R_elder' (by (with_reducible repeat (first | apply Kd.R_alloc | apply Kd.R_drewN | apply Kd.R_drew)); exact HO211.out) (Kd.R_base ho11) hb); have n2_ := Aside0.mk (Kd.R_lower (Kd.R_new' (Kd.R_new' ho11 (Kd.R_lt (by (with_reducible repeat (first | apply Kd.R_alloc | apply Kd.R_drewN | apply Kd.R_drew)); exact HO208.out))) (Kd.R_lt (by (with_reducible repeat (first | apply Kd.R_alloc | apply Kd.R_drewN | apply Kd.R_drew)); exact HO211.out))) (below_size (by repeat (first | (with_reducible first | exact HB.out | apply below_alloc | apply pw_below_drewN | apply below_drew1) | exact HB.out)))); have n3_ := Aside0.mk (below_step (by repeat (first | (with_reducible first | exact HB.out | apply below_alloc | apply pw_below_drewN | apply below_drew1) | exact HB.out)) hb); clear HO208; clear HO211; clear HB; have HO208 := n0_; have HO211 := n1_; have HO214 := n2_; have HB := n3_; clear n0_ n1_ n2_ n3_; clear hb ho11))
  repeat (go_quiet (first | (go_at_call 4; (with_reducible refine (laws_a2Long.calls _ _ l0 _ _ l1 false _ ?side1 ?side2 ?side3 ?side4 A3.out).mono ?_); (case side1 => repeat (first | exact HR0.out | (with_reducible refine Kd.C_alloc ?_ _) | (with_reducible refine Kd.C_drewN ?_ _) | (with_reducible refine Kd.C_drew ?_))); (case side2 => exact HC0.out); (case side3 => repeat (first | exact HR1.out | (with_reducible refine Kd.C_alloc ?_ _) | (with_reducible refine Kd.C_drewN ?_ _) | (with_reducible refine Kd.C_drew ?_))); (case side4 => exact HC1.out); rintro e w' ⟨rfl, ⟨nd, rfl⟩⟩; (try first | exact ⟨rfl, _, World.drewN_drewN _ _ _⟩ | exact ⟨rfl, _, Eq.trans (World.drewN_drewN _ _ _) (congrArg (World.drewN _) (Nat.add_assoc _ _ _))⟩)) | (go_at_call 5; (with_reducible refine (laws_a2At.calls _ _ l0 0 9 t205 _ ?side1 ?side2 A5.out).mono ?_); (case side1 => repeat (first | exact HR0.out | (with_reducible refine Kd.C_alloc ?_ _) | (with_reducible refine Kd.C_drewN ?_ _) | (with_reducible refine Kd.C_drew ?_))); (case side2 => exact HC0.out); rintro e w' ⟨rfl, ⟨nd, rfl⟩⟩; (try first | exact ⟨rfl, _, World.drewN_drewN _ _ _⟩ | exact ⟨rfl, _, Eq.trans (World.drewN_drewN _ _ _) (congrArg (World.drewN _) (Nat.add_assoc _ _ _))⟩)) | (go_at_call 6; (with_reducible refine (spec_A2Order.calls k _ _ l1 t205 t206 _ ?side1 ?side2 A6.out).mono ?_); (case side1 => repeat (first | exact HR1.out | (with_reducible refine Kd.C_alloc ?_ _) | (with_reducible refine Kd.C_drewN ?_ _) | (with_reducible refine Kd.C_drew ?_))); (case side2 => exact HC1.out); rintro e w7 ⟨v207, rfl, ho0, hb⟩; have n0_ := Aside0.mk (Kd.R_lower ho0 (below_size (by repeat (first | (with_reducible first | exact HB.out | apply below_alloc | apply pw_below_drewN | apply below_drew1) | exact HB.out)))); have n1_ := Aside0.mk (below_step (by repeat (first | (with_reducible first | exact HB.out | apply below_alloc | apply pw_below_drewN | apply below_drew1) | exact HB.out)) hb); clear HB; have HO208 := n0_; have HB := n1_; clear n0_ n1_; (try clear hb); (try clear hb2); (try clear hk); (try clear hi); (try clear ho0)) | ((with_reducible refine gate_dst (N := 35) rfl ?_); (try (refine gate_guard (by rfl) ?_; dsimp only)); refine Kd.R_lit (Kd.int .i64) _ 2 ?hg (N := 35) ?hd (xs := ([] : List Int)) (inner := []) (ok := fun _ => True) (okp := fun _ => True) ?hr ?hp (fun _ hk => hk) trivial (Below.refl _ _) (Nat.le_refl _) (by simp) ?_; (case hd => rfl); (case hg => rfl); (case hr => first | (go_simp; done) | (go_simp; rfl)); (case hp => exact (Reps.none _ _)); intro v210 w8 ho9 hb hg_ hnew_; clear hg_ hnew_; (first | rw [← Ny209.out] at ho9 | (simp only [Int.reduceToNat] at ho9; rw [← Ny209.out] at ho9)); have n0_ := Aside0.mk (Kd.R_elder' (by (with_reducible repeat (first | apply Kd.R_alloc | apply Kd.R_drewN | apply Kd.R_drew)); exact HO208.out) (Kd.R_base ho9) hb); have n1_ := Aside0.mk (Kd.R_lower (Kd.R_new' ho9 (Kd.R_lt (by (with_reducible repeat (first | apply Kd.R_alloc | apply Kd.R_drewN | apply Kd.R_drew)); exact HO208.out))) (below_size (by repeat (first | (with_reducible first | exact HB.out | apply below_alloc | apply pw_below_drewN | apply below_drew1) | exact HB.out)))); have n2_ := Aside0.mk (below_step (by repeat (first | (with_reducible first | exact HB.out | apply below_alloc | apply pw_below_drewN | apply below_drew1) | exact HB.out)) hb); clear HO208; clear HB; have HO208 := n0_; have HO211 := n1_; have HB := n2_; clear n0_ n1_ n2_; clear hb ho9) | ((with_reducible refine gate_dst (N := 36) rfl ?_); (try (refine gate_guard (by rfl) ?_; dsimp only)); refine Kd.R_lit (Kd.int .i64) _ 2 ?hg (N := 36) ?hd (xs := ([] : List Int)) (inner := []) (ok := fun _ => True) (okp := fun _ => True) ?hr ?hp (fun _ hk => hk) trivial (Below.refl _ _) (Nat.le_refl _) (by simp) ?_; (case hd => rfl); (case hg => rfl); (case hr => first | (go_simp; done) | (go_simp; rfl)); (case hp => exact (Reps.none _ _)); intro v213 w10 ho11 hb hg_ hnew_; clear hg_ hnew_; (first | rw [← Ny212.out] at ho11 | (simp only [Int.reduceToNat] at ho11; rw [← Ny212.out] at ho11)); have n0_ := Aside0.mk (Kd.R_elder' (by (with_reducible repeat (first | apply Kd.R_alloc | apply Kd.R_drewN | apply Kd.R_drew)); exact HO208.out) (Kd.R_base ho11) hb); have n1_ := Aside0.mk (Kd.R_elder' (by (with_reducible repeat (first | apply Kd.R_alloc | apply Kd.R_drewN | apply Kd.R_drew)); exact HO211.out) (Kd.R_base ho11) hb); have n2_ := Aside0.mk (Kd.R_lower (Kd.R_new' (Kd.R_new' ho11 (Kd.R_lt (by (with_reducible repeat (first | apply Kd.R_alloc | apply Kd.R_drewN | apply Kd.R_drew)); exact HO208.out))) (Kd.R_lt (by (with_reducible repeat (first | apply Kd.R_alloc | apply Kd.R_drewN | apply Kd.R_drew)); exact HO211.out))) (below_size (by repeat (first | (with_reducible first | exact HB.out | apply below_alloc | apply pw_below_drewN | apply below_drew1) | exact HB.out)))); have n3_ := Aside0.mk (below_step (by repeat (first | (with_reducible first | exact HB.out | apply below_alloc | apply pw_below_drewN | apply below_drew1) | exact HB.out)) hb); clear HO208; clear HO211; clear HB; have HO208 := n0_; have HO211 := n1_; have HO214 := n2_; have HB := n3_; clear n0_ n1_ n2_ n3_; clear hb ho11)); try go_wp2_with (first | (go_at_call 4; (with_reducible refine (laws_a2Long.calls _ _ l0 _ _ l1 false _ ?side1 ?side2 ?side3 ?side4 A3.out).mono ?_); (case side1 => repeat (first | exact HR0.out | (with_reducible refine Kd.C_alloc ?_ _) | (with_reducible refine Kd.C_drewN ?_ _) | (with_reducible refine Kd.C_drew ?_))); (case side2 => exact HC0.out); (case side3 => repeat (first | exact HR1.out | (with_reducible refine Kd.C_alloc ?_ _) | (with_reducible refine Kd.C_drewN ?_ _) | (with_reducible refine Kd.C_drew ?_))); (case side4 => exact HC1.out); rintro e w' ⟨rfl, ⟨nd, rfl⟩⟩; (try first | exact ⟨rfl, _, World.drewN_drewN _ _ _⟩ | exact ⟨rfl, _, Eq.trans (World.drewN_drewN _ _ _) (congrArg (World.drewN _) (Nat.add_assoc _ _ _))⟩)) | (go_at_call 5; (with_reducible refine (laws_a2At.calls _ _ l0 0 9 t205 _ ?side1 ?side2 A5.out).mono ?_); (case side1 => repeat (first | exact HR0.out | (with_reducible refine Kd.C_alloc ?_ _) | (with_reducible refine Kd.C_drewN ?_ _) | (with_reducible refine Kd.C_drew ?_))); (case side2 => exact HC0.out); rintro e w' ⟨rfl, ⟨nd, rfl⟩⟩; (try first | exact ⟨rfl, _, World.drewN_drewN _ _ _⟩ | exact ⟨rfl, _, Eq.trans (World.drewN_drewN _ _ _) (congrArg (World.drewN _) (Nat.add_assoc _ _ _))⟩)) | (go_at_call 6; (with_reducible refine (spec_A2Order.calls k _ _ l1 t205 t206 _ ?side1 ?side2 A6.out).mono ?_); (case side1 => repeat (first | exact HR1.out | (with_reducible refine Kd.C_alloc ?_ _) | (with_reducible refine Kd.C_drewN ?_ _) | (with_reducible refine Kd.C_drew ?_))); (case side2 => exact HC1.out); rintro e w7 ⟨v207, rfl, ho0, hb⟩; have n0_ := Aside0.mk (Kd.R_lower ho0 (below_size (by repeat (first | (with_reducible first | exact HB.out | apply below_alloc | apply pw_below_drewN | apply below_drew1) | exact HB.out)))); have n1_ := Aside0.mk (below_step (by repeat (first | (with_reducible first | exact HB.out | apply below_alloc | apply pw_below_drewN | apply below_drew1) | exact HB.out)) hb); clear HB; have HO208 := n0_; have HB := n1_; clear n0_ n1_; (try clear hb); (try clear hb2); (try clear hk); (try clear hi); (try clear ho0)) | ((with_reducible refine gate_dst (N := 35) rfl ?_); (try (refine gate_guard (by rfl) ?_; dsimp only)); refine Kd.R_lit (Kd.int .i64) _ 2 ?hg (N := 35) ?hd (xs := ([] : List Int)) (inner := []) (ok := fun _ => True) (okp := fun _ => True) ?hr ?hp (fun _ hk => hk) trivial (Below.refl _ _) (Nat.le_refl _) (by simp) ?_; (case hd => rfl); (case hg => rfl); (case hr => first | (go_simp; done) | (go_simp; rfl)); (case hp => exact (Reps.none _ _)); intro v210 w8 ho9 hb hg_ hnew_; clear hg_ hnew_; (first | rw [← Ny209.out] at ho9 | (simp only [Int.reduceToNat] at ho9; rw [← Ny209.out] at ho9)); have n0_ := Aside0.mk (Kd.R_elder' (by (with_reducible repeat (first | apply Kd.R_alloc | apply Kd.R_drewN | apply Kd.R_drew)); exact HO208.out) (Kd.R_base ho9) hb); have n1_ := Aside0.mk (Kd.R_lower (Kd.R_new' ho9 (Kd.R_lt (by (with_reducible repeat (first | apply Kd.R_alloc | apply Kd.R_drewN | apply Kd.R_drew)); exact HO208.out))) (below_size (by repeat (first | (with_reducible first | exact HB.out | apply below_alloc | apply pw_below_drewN | apply below_drew1) | exact HB.out)))); have n2_ := Aside0.mk (below_step (by repeat (first | (with_reducible first | exact HB.out | apply below_alloc | apply pw_below_drewN | apply below_drew1) | exact HB.out)) hb); clear HO208; clear HB; have HO208 := n0_; have HO211 := n1_; have HB := n2_; clear n0_ n1_ n2_; clear hb ho9) | ((with_reducible refine gate_dst (N := 36) rfl ?_); (try (refine gate_guard (by rfl) ?_; dsimp only)); refine Kd.R_lit (Kd.int .i64) _ 2 ?hg (N := 36) ?hd (xs := ([] : List Int)) (inner := []) (ok := fun _ => True) (okp := fun _ => True) ?hr ?hp (fun _ hk => hk) trivial (Below.refl _ _) (Nat.le_refl _) (by simp) ?_; (case hd => rfl); (case hg => rfl); (case hr => first | (go_simp; done) | (go_simp; rfl)); (case hp => exact (Reps.none _ _)); intro v213 w10 ho11 hb hg_ hnew_; clear hg_ hnew_; (first | rw [← Ny212.out] at ho11 | (simp only [Int.reduceToNat] at ho11; rw [← Ny212.out] at ho11)); have n0_ := Aside0.mk (Kd.R_elder' (by (with_reducible repeat (first | apply Kd.R_alloc | apply Kd.R_drewN | apply Kd.R_drew)); exact HO208.out) (Kd.R_base ho11) hb); have n1_ := Aside0.mk (Kd.R_elder' (by (with_reducible repeat (first | apply Kd.R_alloc | apply Kd.R_drewN | apply Kd.R_drew)); exact HO211.out) (Kd.R_base ho11) hb); have n2_ := Aside0.mk (Kd.R_lower (Kd.R_new' (Kd.R_new' ho11 (Kd.R_lt (by (with_reducible repeat (first | apply Kd.R_alloc | apply Kd.R_drewN | apply Kd.R_drew)); exact HO208.out))) (Kd.R_lt (by (with_reducible repeat (first | apply Kd.R_alloc | apply Kd.R_drewN | apply Kd.R_drew)); exact HO211.out))) (below_size (by repeat (first | (with_reducible first | exact HB.out | apply below_alloc | apply pw_below_drewN | apply below_drew1) | exact HB.out)))); have n3_ := Aside0.mk (below_step (by repeat (first | (with_reducible first | exact HB.out | apply below_alloc | apply pw_below_drewN | apply below_drew1) | exact HB.out)) hb); clear HO208; clear HO211; clear HB; have HO208 := n0_; have HO211 := n1_; have HO214 := n2_; have HB := n3_; clear n0_ n1_ n2_ n3_; clear hb ho11)))
  go_loopg [7, 8, 9] k (fun kq v7 v8 v9 w' => ∃ (x7_1 : List Int) (x8_1 : List Int) (x9_1 : Int), v9 = .int .i64 x9_1 ∧ Aside0 (laws_FnSwapped.l0 kq t205 t206 x7_1 x8_1 x9_1 = some r) ∧ Aside0 (kq ≤ k) ∧ Aside0 (Kd.R (Kd.int .i64) 2 w' w.heap.size (fun k_ => some k_ ≠ (v7 : Value).ownBlock ∧ some k_ ≠ (v8 : Value).ownBlock) v207 t206) ∧ Aside0 (Kd.R (Kd.int .i64) 2 w' w.heap.size (fun k_ => some k_ ≠ (v207 : Value).ownBlock ∧ some k_ ≠ (v8 : Value).ownBlock) v7 x7_1) ∧ Aside0 (Kd.R (Kd.int .i64) 2 w' w.heap.size (fun k_ => some k_ ≠ (v207 : Value).ownBlock ∧ some k_ ≠ (v7 : Value).ownBlock) v8 x8_1) ∧ Aside0 (Below w.heap.size w w'))
  case atStart => exact ⟨(y209), (y212), (0), (by first | rfl | (simp; done) | (simp [*]; done)), H', ⟨Nat.le_refl _⟩, ⟨by (with_reducible repeat (first | apply Kd.R_alloc | apply Kd.R_drewN | apply Kd.R_drew)); exact Kd.R_mono HO208.out (fun _ hk => ⟨hk.1.2, hk.2⟩)⟩, ⟨by (with_reducible repeat (first | apply Kd.R_alloc | apply Kd.R_drewN | apply Kd.R_drew)); exact Kd.R_mono HO211.out (fun _ hk => ⟨hk.1.2, hk.2⟩)⟩, ⟨by (with_reducible repeat (first | apply Kd.R_alloc | apply Kd.R_drewN | apply Kd.R_drew)); exact Kd.R_mono HO214.out (fun _ hk => ⟨hk.1.2, hk.2⟩)⟩, ⟨by repeat (first | (with_reducible first | exact HB.out | apply below_alloc | apply pw_below_drewN | apply below_drew1) | exact HB.out)⟩⟩
  case round =>
   as_aux_lemma =>
    clear H'
    try clear c1
    try clear p2
    try clear c3
    try clear c4
    obtain ⟨x7_1, x8_1, x9_1, rfl, HA, HK1, HO_6, HO_7, HO_8, HB⟩ := hrel
    cases gk with
    | zero => exact absurd HA.out (by simp [laws_FnSwapped.l0])
    | succ k1 =>
     have H := HA.out
     clear HA
     simp only [laws_FnSwapped.l0] at H
     by_cases c12 : x9_1 < t205
     ·rw [if_pos c12] at H
      have c12b0 : decide (x9_1 < t205) = true := decide_eq_true c12
      clear c12
      by_cases c13 : x7_1.length < 17592186044416
      ·rw [if_pos c13] at H
       have LMc13 := Aside0.mk c13
       clear c13
       obtain ⟨y215, hy215⟩ : ∃ y_ : List Int, y_ = (x7_1 ++ [wrap64 ((wrap64 (7 * x9_1)) + 3)]) := ⟨_, rfl⟩
       replace H : (if 0 ≤ x9_1 then (if x9_1 < (t206.length : Int) then (if x8_1.length < 17592186044416 then (laws_FnSwapped.l0 k1 t205 t206 y215 (x8_1 ++ [wrap64 ((wrap64 (7 * (rd t206 x9_1))) + 3)]) (wrap64 (x9_1 + 1))) else (none)) else (none)) else (none)) = some r := by first | (rw [hy215]; with_reducible exact H) | (have H2_ := (Option.bind_some _ _).symm.trans H; rw [hy215]; with_reducible exact H2_) | (have H2_ := (Option.bind_some _ _).symm.trans H; with_reducible exact H2_) | with_reducible exact H | (rw [hy215]; exact H) | exact H
       have Ny215 := Aside0.mk hy215
       clear hy215
       by_cases c14 : 0 ≤ x9_1
       ·rw [if_pos c14] at H
        have c14b0 : decide (0 ≤ x9_1) = true := decide_eq_true c14
        clear c14
        by_cases c15 : x9_1 < (t206.length : Int)
        ·rw [if_pos c15] at H
         have c15b0 : decide (x9_1 < (t206.length : Int)) = true := decide_eq_true c15
         clear c15
         by_cases c16 : x8_1.length < 17592186044416
         ·rw [if_pos c16] at H
          have LMc16 := Aside0.mk c16
          clear c16
          obtain ⟨y219, hy219⟩ : ∃ y_ : List Int, y_ = (x8_1 ++ [wrap64 ((wrap64 (7 * (rd t206 x9_1))) + 3)]) := ⟨_, rfl⟩
          replace H : (laws_FnSwapped.l0 k1 t205 t206 y215 y219 (wrap64 (x9_1 + 1))) = some r := by first | (rw [hy219]; with_reducible exact H) | (have H2_ := (Option.bind_some _ _).symm.trans H; rw [hy219]; with_reducible exact H2_) | (have H2_ := (Option.bind_some _ _).symm.trans H; with_reducible exact H2_) | with_reducible exact H | (rw [hy219]; exact H) | exact H
          have Ny219 := Aside0.mk hy219
          clear hy219
          have H' := Aside0.mk H
          clear H
          go_wp2_with (first | ((with_reducible refine gate_builtin (b := .append) (xs := #[.tmp 42, .tmp 46]) rfl ?_); (try (refine gate_guard (by rfl) ?_; dsimp only)); at_builtin; refine Kd.R_append (Kd.int .i64) (w0 := w) w.heap.size rfl (.tmp 42) (.tmp 46) 25 2 (.int .i64 0) 8 rfl Try.underlying25 info2 rfl (by decide) (by omega) u7 x7_1 (wrap64 ((wrap64 (7 * x9_1)) + 3)) [.int .i64 (wrap64 ((wrap64 (7 * x9_1)) + 3))] (fun k_ => some k_ ≠ (v207 : Value).ownBlock ∧ some k_ ≠ (u8 : Value).ownBlock) (fun _ => False) rfl rfl ?aP (fun _ hk => hk.elim) ?aF ?aO ?aB ?aS ?aL ?_; (case aP => exact rfl); (case aB => exact (by repeat (first | (with_reducible first | exact HB.out | apply below_alloc | apply pw_below_drewN | apply below_drew1) | exact HB.out))); (case aF => exact (fun k_ hk => ⟨Kd.fresh' (Kd.R_lt (by (with_reducible repeat (first | apply Kd.R_alloc | apply Kd.R_drewN | apply Kd.R_drew)); exact HO_6.out)) k_ hk, Kd.fresh' (Kd.R_lt (by (with_reducible repeat (first | apply Kd.R_alloc | apply Kd.R_drewN | apply Kd.R_drew)); exact HO_8.out)) k_ hk⟩)); (case aO => exact (by (with_reducible repeat (first | apply Kd.R_alloc | apply Kd.R_drewN | apply Kd.R_drew)); exact HO_7.out)); (case aS => exact (below_size (by repeat (first | (with_reducible first | exact HB.out | apply below_alloc | apply pw_below_drewN | apply below_drew1) | exact HB.out)))); (case aL => have := LMc13.out; omega); intro v216 w17 ho hb hg hat; rw [← Ny215.out] at ho; have n0_ := Aside0.mk (Kd.R_after (ok := (fun k_ => some k_ ≠ (u8 : Value).ownBlock)) (by (with_reducible repeat (first | apply Kd.R_alloc | apply Kd.R_drewN | apply Kd.R_drew)); exact Kd.R_mono HO_6.out (fun _ hk => ⟨hk.2, hk.1⟩)) hg hat); have n1_ := Aside0.mk (Kd.R_after (ok := (fun k_ => some k_ ≠ (v207 : Value).ownBlock)) (by (with_reducible repeat (first | apply Kd.R_alloc | apply Kd.R_drewN | apply Kd.R_drew)); exact HO_8.out) hg hat); have n2_ := Aside0.mk (hb); have n3_ := Aside0.mk (ho); clear HO_6; clear HO_8; clear HB; clear HO_7; have HO_6 := n0_; have HO_8 := n1_; have HB := n2_; have HO217 := n3_; clear n0_ n1_ n2_ n3_; clear ho hb hg hat; obtain ⟨Ao18, co18, eo18⟩ := Kd.R_slice HO_6.out; subst eo18; have p218 : 0 ≤ (x9_1 : Int) := of_decide_eq_true (by first | (with_reducible assumption) | assumption); have q218 : x9_1 < (t206.length : Int) := of_decide_eq_true (by first | (with_reducible assumption) | assumption); obtain ⟨ad218, e218, hx218_0⟩ := Kd.at_int (Kd.R_reads' HO_6.out).2.2 x9_1 p218 q218; cases e218; replace p218 := eq_true p218; replace q218 := eq_true q218) | ((with_reducible refine gate_builtin (b := .append) (xs := #[.tmp 48, .tmp 55]) rfl ?_); (try (refine gate_guard (by rfl) ?_; dsimp only)); at_builtin; refine Kd.R_append (Kd.int .i64) (w0 := w) w.heap.size rfl (.tmp 48) (.tmp 55) 25 2 (.int .i64 0) 8 rfl Try.underlying25 info2 rfl (by decide) (by omega) u8 x8_1 (wrap64 ((wrap64 (7 * (rd t206 x9_1))) + 3)) [.int .i64 (wrap64 ((wrap64 (7 * (rd t206 x9_1))) + 3))] (fun k_ => some k_ ≠ (.slice (some ad218) t206.length co18 : Value).ownBlock ∧ some k_ ≠ (v216 : Value).ownBlock) (fun _ => False) rfl rfl ?aP (fun _ hk => hk.elim) ?aF ?aO ?aB ?aS ?aL ?_; (case aP => exact rfl); (case aB => exact (by repeat (first | (with_reducible first | exact HB.out | apply below_alloc | apply pw_below_drewN | apply below_drew1) | exact HB.out))); (case aF => exact (fun k_ hk => ⟨Kd.fresh' (Kd.R_lt (by (with_reducible repeat (first | apply Kd.R_alloc | apply Kd.R_drewN | apply Kd.R_drew)); exact HO_6.out)) k_ hk, Kd.fresh' (Kd.R_lt (by (with_reducible repeat (first | apply Kd.R_alloc | apply Kd.R_drewN | apply Kd.R_drew)); exact HO217.out)) k_ hk⟩)); (case aO => exact (by (with_reducible repeat (first | apply Kd.R_alloc | apply Kd.R_drewN | apply Kd.R_drew)); exact HO_8.out)); (case aS => exact (below_size (by repeat (first | (with_reducible first | exact HB.out | apply below_alloc | apply pw_below_drewN | apply below_drew1) | exact HB.out)))); (case aL => have := LMc16.out; omega); intro v220 w19 ho hb hg hat; rw [← Ny219.out] at ho; have n0_ := Aside0.mk (Kd.R_after (ok := (fun k_ => some k_ ≠ (v216 : Value).ownBlock)) (by (with_reducible repeat (first | apply Kd.R_alloc | apply Kd.R_drewN | apply Kd.R_drew)); exact Kd.R_mono HO_6.out (fun _ hk => ⟨hk.2, hk.1⟩)) hg hat); have n1_ := Aside0.mk (Kd.R_after (ok := (fun k_ => some k_ ≠ (.slice (some ad218) t206.length co18 : Value).ownBlock)) (by (with_reducible repeat (first | apply Kd.R_alloc | apply Kd.R_drewN | apply Kd.R_drew)); exact HO217.out) hg hat); have n2_ := Aside0.mk (hb); have n3_ := Aside0.mk (ho); clear HO_6; clear HO217; clear HB; clear HO_8; have HO_6 := n0_; have HO217 := n1_; have HB := n2_; have HO221 := n3_; clear n0_ n1_ n2_ n3_; clear ho hb hg hat))
          repeat (go_quiet (first | ((with_reducible refine gate_builtin (b := .append) (xs := #[.tmp 42, .tmp 46]) rfl ?_); (try (refine gate_guard (by rfl) ?_; dsimp only)); at_builtin; refine Kd.R_append (Kd.int .i64) (w0 := w) w.heap.size rfl (.tmp 42) (.tmp 46) 25 2 (.int .i64 0) 8 rfl Try.underlying25 info2 rfl (by decide) (by omega) u7 x7_1 (wrap64 ((wrap64 (7 * x9_1)) + 3)) [.int .i64 (wrap64 ((wrap64 (7 * x9_1)) + 3))] (fun k_ => some k_ ≠ (v207 : Value).ownBlock ∧ some k_ ≠ (u8 : Value).ownBlock) (fun _ => False) rfl rfl ?aP (fun _ hk => hk.elim) ?aF ?aO ?aB ?aS ?aL ?_; (case aP => exact rfl); (case aB => exact (by repeat (first | (with_reducible first | exact HB.out | apply below_alloc | apply pw_below_drewN | apply below_drew1) | exact HB.out))); (case aF => exact (fun k_ hk => ⟨Kd.fresh' (Kd.R_lt (by (with_reducible repeat (first | apply Kd.R_alloc | apply Kd.R_drewN | apply Kd.R_drew)); exact HO_6.out)) k_ hk, Kd.fresh' (Kd.R_lt (by (with_reducible repeat (first | apply Kd.R_alloc | apply Kd.R_drewN | apply Kd.R_drew)); exact HO_8.out)) k_ hk⟩)); (case aO => exact (by (with_reducible repeat (first | apply Kd.R_alloc | apply Kd.R_drewN | apply Kd.R_drew)); exact HO_7.out)); (case aS => exact (below_size (by repeat (first | (with_reducible first | exact HB.out | apply below_alloc | apply pw_below_drewN | apply below_drew1) | exact HB.out)))); (case aL => have := LMc13.out; omega); intro v216 w17 ho hb hg hat; rw [← Ny215.out] at ho; have n0_ := Aside0.mk (Kd.R_after (ok := (fun k_ => some k_ ≠ (u8 : Value).ownBlock)) (by (with_reducible repeat (first | apply Kd.R_alloc | apply Kd.R_drewN | apply Kd.R_drew)); exact Kd.R_mono HO_6.out (fun _ hk => ⟨hk.2, hk.1⟩)) hg hat); have n1_ := Aside0.mk (Kd.R_after (ok := (fun k_ => some k_ ≠ (v207 : Value).ownBlock)) (by (with_reducible repeat (first | apply Kd.R_alloc | apply Kd.R_drewN | apply Kd.R_drew)); exact HO_8.out) hg hat); have n2_ := Aside0.mk (hb); have n3_ := Aside0.mk (ho); clear HO_6; clear HO_8; clear HB; clear HO_7; have HO_6 := n0_; have HO_8 := n1_; have HB := n2_; have HO217 := n3_; clear n0_ n1_ n2_ n3_; clear ho hb hg hat; obtain ⟨Ao18, co18, eo18⟩ := Kd.R_slice HO_6.out; subst eo18; have p218 : 0 ≤ (x9_1 : Int) := of_decide_eq_true (by first | (with_reducible assumption) | assumption); have q218 : x9_1 < (t206.length : Int) := of_decide_eq_true (by first | (with_reducible assumption) | assumption); obtain ⟨ad218, e218, hx218_0⟩ := Kd.at_int (Kd.R_reads' HO_6.out).2.2 x9_1 p218 q218; cases e218; replace p218 := eq_true p218; replace q218 := eq_true q218) | ((with_reducible refine gate_builtin (b := .append) (xs := #[.tmp 48, .tmp 55]) rfl ?_); (try (refine gate_guard (by rfl) ?_; dsimp only)); at_builtin; refine Kd.R_append (Kd.int .i64) (w0 := w) w.heap.size rfl (.tmp 48) (.tmp 55) 25 2 (.int .i64 0) 8 rfl Try.underlying25 info2 rfl (by decide) (by omega) u8 x8_1 (wrap64 ((wrap64 (7 * (rd t206 x9_1))) + 3)) [.int .i64 (wrap64 ((wrap64 (7 * (rd t206 x9_1))) + 3))] (fun k_ => some k_ ≠ (.slice (some ad218) t206.length co18 : Value).ownBlock ∧ some k_ ≠ (v216 : Value).ownBlock) (fun _ => False) rfl rfl ?aP (fun _ hk => hk.elim) ?aF ?aO ?aB ?aS ?aL ?_; (case aP => exact rfl); (case aB => exact (by repeat (first | (with_reducible first | exact HB.out | apply below_alloc | apply pw_below_drewN | apply below_drew1) | exact HB.out))); (case aF => exact (fun k_ hk => ⟨Kd.fresh' (Kd.R_lt (by (with_reducible repeat (first | apply Kd.R_alloc | apply Kd.R_drewN | apply Kd.R_drew)); exact HO_6.out)) k_ hk, Kd.fresh' (Kd.R_lt (by (with_reducible repeat (first | apply Kd.R_alloc | apply Kd.R_drewN | apply Kd.R_drew)); exact HO217.out)) k_ hk⟩)); (case aO => exact (by (with_reducible repeat (first | apply Kd.R_alloc | apply Kd.R_drewN | apply Kd.R_drew)); exact HO_8.out)); (case aS => exact (below_size (by repeat (first | (with_reducible first | exact HB.out | apply below_alloc | apply pw_below_drewN | apply below_drew1) | exact HB.out)))); (case aL => have := LMc16.out; omega); intro v220 w19 ho hb hg hat; rw [← Ny219.out] at ho; have n0_ := Aside0.mk (Kd.R_after (ok := (fun k_ => some k_ ≠ (v216 : Value).ownBlock)) (by (with_reducible repeat (first | apply Kd.R_alloc | apply Kd.R_drewN | apply Kd.R_drew)); exact Kd.R_mono HO_6.out (fun _ hk => ⟨hk.2, hk.1⟩)) hg hat); have n1_ := Aside0.mk (Kd.R_after (ok := (fun k_ => some k_ ≠ (.slice (some ad218) t206.length co18 : Value).ownBlock)) (by (with_reducible repeat (first | apply Kd.R_alloc | apply Kd.R_drewN | apply Kd.R_drew)); exact HO217.out) hg hat); have n2_ := Aside0.mk (hb); have n3_ := Aside0.mk (ho); clear HO_6; clear HO217; clear HB; clear HO_8; have HO_6 := n0_; have HO217 := n1_; have HB := n2_; have HO221 := n3_; clear n0_ n1_ n2_ n3_; clear ho hb hg hat)); try go_wp2_with (first | ((with_reducible refine gate_builtin (b := .append) (xs := #[.tmp 42, .tmp 46]) rfl ?_); (try (refine gate_guard (by rfl) ?_; dsimp only)); at_builtin; refine Kd.R_append (Kd.int .i64) (w0 := w) w.heap.size rfl (.tmp 42) (.tmp 46) 25 2 (.int .i64 0) 8 rfl Try.underlying25 info2 rfl (by decide) (by omega) u7 x7_1 (wrap64 ((wrap64 (7 * x9_1)) + 3)) [.int .i64 (wrap64 ((wrap64 (7 * x9_1)) + 3))] (fun k_ => some k_ ≠ (v207 : Value).ownBlock ∧ some k_ ≠ (u8 : Value).ownBlock) (fun _ => False) rfl rfl ?aP (fun _ hk => hk.elim) ?aF ?aO ?aB ?aS ?aL ?_; (case aP => exact rfl); (case aB => exact (by repeat (first | (with_reducible first | exact HB.out | apply below_alloc | apply pw_below_drewN | apply below_drew1) | exact HB.out))); (case aF => exact (fun k_ hk => ⟨Kd.fresh' (Kd.R_lt (by (with_reducible repeat (first | apply Kd.R_alloc | apply Kd.R_drewN | apply Kd.R_drew)); exact HO_6.out)) k_ hk, Kd.fresh' (Kd.R_lt (by (with_reducible repeat (first | apply Kd.R_alloc | apply Kd.R_drewN | apply Kd.R_drew)); exact HO_8.out)) k_ hk⟩)); (case aO => exact (by (with_reducible repeat (first | apply Kd.R_alloc | apply Kd.R_drewN | apply Kd.R_drew)); exact HO_7.out)); (case aS => exact (below_size (by repeat (first | (with_reducible first | exact HB.out | apply below_alloc | apply pw_below_drewN | apply below_drew1) | exact HB.out)))); (case aL => have := LMc13.out; omega); intro v216 w17 ho hb hg hat; rw [← Ny215.out] at ho; have n0_ := Aside0.mk (Kd.R_after (ok := (fun k_ => some k_ ≠ (u8 : Value).ownBlock)) (by (with_reducible repeat (first | apply Kd.R_alloc | apply Kd.R_drewN | apply Kd.R_drew)); exact Kd.R_mono HO_6.out (fun _ hk => ⟨hk.2, hk.1⟩)) hg hat); have n1_ := Aside0.mk (Kd.R_after (ok := (fun k_ => some k_ ≠ (v207 : Value).ownBlock)) (by (with_reducible repeat (first | apply Kd.R_alloc | apply Kd.R_drewN | apply Kd.R_drew)); exact HO_8.out) hg hat); have n2_ := Aside0.mk (hb); have n3_ := Aside0.mk (ho); clear HO_6; clear HO_8; clear HB; clear HO_7; have HO_6 := n0_; have HO_8 := n1_; have HB := n2_; have HO217 := n3_; clear n0_ n1_ n2_ n3_; clear ho hb hg hat; obtain ⟨Ao18, co18, eo18⟩ := Kd.R_slice HO_6.out; subst eo18; have p218 : 0 ≤ (x9_1 : Int) := of_decide_eq_true (by first | (with_reducible assumption) | assumption); have q218 : x9_1 < (t206.length : Int) := of_decide_eq_true (by first | (with_reducible assumption) | assumption); obtain ⟨ad218, e218, hx218_0⟩ := Kd.at_int (Kd.R_reads' HO_6.out).2.2 x9_1 p218 q218; cases e218; replace p218 := eq_true p218; replace q218 := eq_true q218) | ((with_reducible refine gate_builtin (b := .append) (xs := #[.tmp 48, .tmp 55]) rfl ?_); (try (refine gate_guard (by rfl) ?_; dsimp only)); at_builtin; refine Kd.R_append (Kd.int .i64) (w0 := w) w.heap.size rfl (.tmp 48) (.tmp 55) 25 2 (.int .i64 0) 8 rfl Try.underlying25 info2 rfl (by decide) (by omega) u8 x8_1 (wrap64 ((wrap64 (7 * (rd t206 x9_1))) + 3)) [.int .i64 (wrap64 ((wrap64 (7 * (rd t206 x9_1))) + 3))] (fun k_ => some k_ ≠ (.slice (some ad218) t206.length co18 : Value).ownBlock ∧ some k_ ≠ (v216 : Value).ownBlock) (fun _ => False) rfl rfl ?aP (fun _ hk => hk.elim) ?aF ?aO ?aB ?aS ?aL ?_; (case aP => exact rfl); (case aB => exact (by repeat (first | (with_reducible first | exact HB.out | apply below_alloc | apply pw_below_drewN | apply below_drew1) | exact HB.out))); (case aF => exact (fun k_ hk => ⟨Kd.fresh' (Kd.R_lt (by (with_reducible repeat (first | apply Kd.R_alloc | apply Kd.R_drewN | apply Kd.R_drew)); exact HO_6.out)) k_ hk, Kd.fresh' (Kd.R_lt (by (with_reducible repeat (first | apply Kd.R_alloc | apply Kd.R_drewN | apply Kd.R_drew)); exact HO217.out)) k_ hk⟩)); (case aO => exact (by (with_reducible repeat (first | apply Kd.R_alloc | apply Kd.R_drewN | apply Kd.R_drew)); exact HO_8.out)); (case aS => exact (below_size (by repeat (first | (with_reducible first | exact HB.out | apply below_alloc | apply pw_below_drewN | apply below_drew1) | exact HB.out)))); (case aL => have := LMc16.out; omega); intro v220 w19 ho hb hg hat; rw [← Ny219.out] at ho; have n0_ := Aside0.mk (Kd.R_after (ok := (fun k_ => some k_ ≠ (v216 : Value).ownBlock)) (by (with_reducible repeat (first | apply Kd.R_alloc | apply Kd.R_drewN | apply Kd.R_drew)); exact Kd.R_mono HO_6.out (fun _ hk => ⟨hk.2, hk.1⟩)) hg hat); have n1_ := Aside0.mk (Kd.R_after (ok := (fun k_ => some k_ ≠ (.slice (some ad218) t206.length co18 : Value).ownBlock)) (by (with_reducible repeat (first | apply Kd.R_alloc | apply Kd.R_drewN | apply Kd.R_drew)); exact HO217.out) hg hat); have n2_ := Aside0.mk (hb); have n3_ := Aside0.mk (ho); clear HO_6; clear HO217; clear HB; clear HO_8; have HO_6 := n0_; have HO217 := n1_; have HB := n2_; have HO221 := n3_; clear n0_ n1_ n2_ n3_; clear ho hb hg hat)))
          go_roundg k1
          case measure => have := HK1.out; omega
          case rel => exact ⟨(y215), (y219), (wrap64 (x9_1 + 1)), (by first | rfl | (simp; done) | (simp [*]; done)), H', ⟨by have := HK1.out; omega⟩, ⟨by (with_reducible repeat (first | apply Kd.R_alloc | apply Kd.R_drewN | apply Kd.R_drew)); exact HO_6.out⟩, ⟨by (with_reducible repeat (first | apply Kd.R_alloc | apply Kd.R_drewN | apply Kd.R_drew)); exact HO217.out⟩, ⟨by (with_reducible repeat (first | apply Kd.R_alloc | apply Kd.R_drewN | apply Kd.R_drew)); exact HO221.out⟩, ⟨by repeat (first | (with_reducible first | exact HB.out | apply below_alloc | apply pw_below_drewN | apply below_drew1) | exact HB.out)⟩⟩
         ·rw [if_neg c16] at H
          exact absurd H (by simp)
        ·rw [if_neg c15] at H
         exact absurd H (by simp)
       ·rw [if_neg c14] at H
        exact absurd H (by simp)
      ·rw [if_neg c13] at H
       exact absurd H (by simp)
     ·rw [if_neg c12] at H
      have c12b0 : decide (x9_1 < t205) = false := decide_eq_false c12
      clear c12
      replace H := Option.bind_eq_some_iff.mp H
      obtain ⟨⟨t222, t223⟩, A200, H⟩ := H
      replace H : ((spec_SwapsFor.f k1 x7_1 x8_1).bind fun bt226 => ((impl_ExchangesFor.f k1 x7_1 x8_1).bind fun bt230 => ((spec_ExchangesFor.f k1 x7_1 x8_1).bind fun bt232 => (if t223 = bt226.2 then (if t223 = 0 then ((spec_A2SameLists.f k1 t222 bt226.1).bind fun t234 => (if t234 = true then (if bt230.2 = bt232.2 then (if bt230.2 = 0 then (laws_FnSwapped.j1 k1 t205 x7_1 x8_1 bt226.1 bt232.1 (bt230.1 != bt232.1)) else (laws_FnSwapped.j1 k1 t205 x7_1 x8_1 bt226.1 bt232.1 true)) else (laws_FnSwapped.j1 k1 t205 x7_1 x8_1 bt226.1 bt232.1 true)) else (laws_FnSwapped.j1 k1 t205 x7_1 x8_1 bt226.1 bt232.1 true))) else (laws_FnSwapped.j1 k1 t205 x7_1 x8_1 bt226.1 bt232.1 true)) else (laws_FnSwapped.j1 k1 t205 x7_1 x8_1 bt226.1 bt232.1 true))))) = some r := H
      have A20 := Aside0.mk A200
      clear A200
      replace H := Option.bind_eq_some_iff.mp H
      obtain ⟨⟨t226, t227⟩, A210, H⟩ := H
      replace H : ((impl_ExchangesFor.f k1 x7_1 x8_1).bind fun bt230 => ((spec_ExchangesFor.f k1 x7_1 x8_1).bind fun bt232 => (if t223 = t227 then (if t223 = 0 then ((spec_A2SameLists.f k1 t222 t226).bind fun t234 => (if t234 = true then (if bt230.2 = bt232.2 then (if bt230.2 = 0 then (laws_FnSwapped.j1 k1 t205 x7_1 x8_1 t226 bt232.1 (bt230.1 != bt232.1)) else (laws_FnSwapped.j1 k1 t205 x7_1 x8_1 t226 bt232.1 true)) else (laws_FnSwapped.j1 k1 t205 x7_1 x8_1 t226 bt232.1 true)) else (laws_FnSwapped.j1 k1 t205 x7_1 x8_1 t226 bt232.1 true))) else (laws_FnSwapped.j1 k1 t205 x7_1 x8_1 t226 bt232.1 true)) else (laws_FnSwapped.j1 k1 t205 x7_1 x8_1 t226 bt232.1 true)))) = some r := H
      have A21 := Aside0.mk A210
      clear A210
      replace H := Option.bind_eq_some_iff.mp H
      obtain ⟨⟨t230, t231⟩, A220, H⟩ := H
      replace H : ((spec_ExchangesFor.f k1 x7_1 x8_1).bind fun bt232 => (if t223 = t227 then (if t223 = 0 then ((spec_A2SameLists.f k1 t222 t226).bind fun t234 => (if t234 = true then (if t231 = bt232.2 then (if t231 = 0 then (laws_FnSwapped.j1 k1 t205 x7_1 x8_1 t226 bt232.1 (t230 != bt232.1)) else (laws_FnSwapped.j1 k1 t205 x7_1 x8_1 t226 bt232.1 true)) else (laws_FnSwapped.j1 k1 t205 x7_1 x8_1 t226 bt232.1 true)) else (laws_FnSwapped.j1 k1 t205 x7_1 x8_1 t226 bt232.1 true))) else (laws_FnSwapped.j1 k1 t205 x7_1 x8_1 t226 bt232.1 true)) else (laws_FnSwapped.j1 k1 t205 x7_1 x8_1 t226 bt232.1 true))) = some r := H
      have A22 := Aside0.mk A220
      clear A220
      replace H := Option.bind_eq_some_iff.mp H
      obtain ⟨⟨t232, t233⟩, A230, H⟩ := H
      replace H : (if t223 = t227 then (if t223 = 0 then ((spec_A2SameLists.f k1 t222 t226).bind fun t234 => (if t234 = true then (if t231 = t233 then (if t231 = 0 then (laws_FnSwapped.j1 k1 t205 x7_1 x8_1 t226 t232 (t230 != t232)) else (laws_FnSwapped.j1 k1 t205 x7_1 x8_1 t226 t232 true)) else (laws_FnSwapped.j1 k1 t205 x7_1 x8_1 t226 t232 true)) else (laws_FnSwapped.j1 k1 t205 x7_1 x8_1 t226 t232 true))) else (laws_FnSwapped.j1 k1 t205 x7_1 x8_1 t226 t232 true)) else (laws_FnSwapped.j1 k1 t205 x7_1 x8_1 t226 t232 true)) = some r := H
      have A23 := Aside0.mk A230
      clear A230
      have HC24 := Aside0.mk H
      clear H
      obtain ⟨Ao25, co25, eo25⟩ := Kd.R_slice HO_7.out
      subst eo25
      obtain ⟨Ao26, co26, eo26⟩ := Kd.R_slice HO_8.out
      subst eo26
      go_upto_region 16 with (first | (go_at_call 7; (with_reducible refine (impl_SwapsFor.calls _ _ x7_1 _ _ x8_1 t222 t223 _ ?side1 ?side2 ?side3 ?side4 A20.out).mono ?_); (case side1 => repeat (first | exact (Kd.R_reads' HO_7.out).2.2 | (with_reducible refine Kd.C_alloc ?_ _) | (with_reducible refine Kd.C_drewN ?_ _) | (with_reducible refine Kd.C_drew ?_))); (case side2 => exact (Kd.R_reads' HO_7.out).2.1); (case side3 => repeat (first | exact (Kd.R_reads' HO_8.out).2.2 | (with_reducible refine Kd.C_alloc ?_ _) | (with_reducible refine Kd.C_drewN ?_ _) | (with_reducible refine Kd.C_drew ?_))); (case side4 => exact (Kd.R_reads' HO_8.out).2.1); rintro e w27 ⟨v224, rfl, ho0, hb⟩; have n0_ := Aside0.mk (Kd.R_below (by (with_reducible repeat (first | apply Kd.R_alloc | apply Kd.R_drewN | apply Kd.R_drew)); exact HO_6.out) hb); have n1_ := Aside0.mk (Kd.R_below (by (with_reducible repeat (first | apply Kd.R_alloc | apply Kd.R_drewN | apply Kd.R_drew)); exact HO_7.out) hb); have n2_ := Aside0.mk (Kd.R_below (by (with_reducible repeat (first | apply Kd.R_alloc | apply Kd.R_drewN | apply Kd.R_drew)); exact HO_8.out) hb); have n3_ := Aside0.mk (Kd.S_lower (Kd.S_new' (Kd.S_new' (Kd.S_new' ho0 (Kd.R_lt (by (with_reducible repeat (first | apply Kd.R_alloc | apply Kd.R_drewN | apply Kd.R_drew)); exact HO_6.out))) (Kd.R_lt (by (with_reducible repeat (first | apply Kd.R_alloc | apply Kd.R_drewN | apply Kd.R_drew)); exact HO_7.out))) (Kd.R_lt (by (with_reducible repeat (first | apply Kd.R_alloc | apply Kd.R_drewN | apply Kd.R_drew)); exact HO_8.out))) (below_size (by repeat (first | (with_reducible first | exact HB.out | apply below_alloc | apply pw_below_drewN | apply below_drew1) | exact HB.out)))); have n4_ := Aside0.mk (below_step (by repeat (first | (with_reducible first | exact HB.out | apply below_alloc | apply pw_below_drewN | apply below_drew1) | exact HB.out)) hb); clear HO_6; clear HO_7; clear HO_8; clear HB; have HO_6 := n0_; have HO_7 := n1_; have HO_8 := n2_; have HO225 := n3_; have HB := n4_; clear n0_ n1_ n2_ n3_ n4_; (try clear hb); (try clear hb2); (try clear hk); (try clear hi); (try clear ho0)) | (go_at_call 8; (with_reducible refine (spec_SwapsFor.calls k1 _ _ x7_1 _ _ x8_1 t226 t227 _ ?side1 ?side2 ?side3 ?side4 A21.out).mono ?_); (case side1 => repeat (first | exact (Kd.R_reads' HO_7.out).2.2 | (with_reducible refine Kd.C_alloc ?_ _) | (with_reducible refine Kd.C_drewN ?_ _) | (with_reducible refine Kd.C_drew ?_))); (case side2 => exact (Kd.R_reads' HO_7.out).2.1); (case side3 => repeat (first | exact (Kd.R_reads' HO_8.out).2.2 | (with_reducible refine Kd.C_alloc ?_ _) | (with_reducible refine Kd.C_drewN ?_ _) | (with_reducible refine Kd.C_drew ?_))); (case side4 => exact (Kd.R_reads' HO_8.out).2.1); rintro e w28 ⟨v228, rfl, ho0, hb⟩; have n0_ := Aside0.mk (Kd.R_below (by (with_reducible repeat (first | apply Kd.R_alloc | apply Kd.R_drewN | apply Kd.R_drew)); exact HO_6.out) hb); have n1_ := Aside0.mk (Kd.R_below (by (with_reducible repeat (first | apply Kd.R_alloc | apply Kd.R_drewN | apply Kd.R_drew)); exact HO_7.out) hb); have n2_ := Aside0.mk (Kd.R_below (by (with_reducible repeat (first | apply Kd.R_alloc | apply Kd.R_drewN | apply Kd.R_drew)); exact HO_8.out) hb); have n3_ := Aside0.mk (Kd.S_elder' (by (with_reducible repeat (first | apply Kd.S_alloc | apply Kd.S_drewN | apply Kd.S_drew)); exact HO225.out) (Kd.S_base ho0) hb); have n4_ := Aside0.mk (Kd.S_lower (Kd.S_new' (Kd.S_new' (Kd.S_new' (Kd.S_new' ho0 (Kd.R_lt (by (with_reducible repeat (first | apply Kd.R_alloc | apply Kd.R_drewN | apply Kd.R_drew)); exact HO_6.out))) (Kd.R_lt (by (with_reducible repeat (first | apply Kd.R_alloc | apply Kd.R_drewN | apply Kd.R_drew)); exact HO_7.out))) (Kd.R_lt (by (with_reducible repeat (first | apply Kd.R_alloc | apply Kd.R_drewN | apply Kd.R_drew)); exact HO_8.out))) (Kd.S_lt (by (with_reducible repeat (first | apply Kd.S_alloc | apply Kd.S_drewN | apply Kd.S_drew)); exact HO225.out))) (below_size (by repeat (first | (with_reducible first | exact HB.out | apply below_alloc | apply pw_below_drewN | apply below_drew1) | exact HB.out)))); have n5_ := Aside0.mk (below_step (by repeat (first | (with_reducible first | exact HB.out | apply below_alloc | apply pw_below_drewN | apply below_drew1) | exact HB.out)) hb); clear HO_6; clear HO_7; clear HO_8; clear HO225; clear HB; have HO_6 := n0_; have HO_7 := n1_; have HO_8 := n2_; have HO225 := n3_; have HO229 := n4_; have HB := n5_; clear n0_ n1_ n2_ n3_ n4_ n5_; (try clear hb); (try clear hb2); (try clear hk); (try clear hi); (try clear ho0)) | (go_at_call 9; (with_reducible refine (impl_ExchangesFor.calls k1 _ _ x7_1 _ _ x8_1 t230 t231 _ ?side1 ?side2 ?side3 ?side4 A22.out).mono ?_); (case side1 => repeat (first | exact (Kd.R_reads' HO_7.out).2.2 | (with_reducible refine Kd.C_alloc ?_ _) | (with_reducible refine Kd.C_drewN ?_ _) | (with_reducible refine Kd.C_drew ?_))); (case side2 => exact (Kd.R_reads' HO_7.out).2.1); (case side3 => repeat (first | exact (Kd.R_reads' HO_8.out).2.2 | (with_reducible refine Kd.C_alloc ?_ _) | (with_reducible refine Kd.C_drewN ?_ _) | (with_reducible refine Kd.C_drew ?_))); (case side4 => exact (Kd.R_reads' HO_8.out).2.1); rintro e w29 ⟨rfl, hb⟩; have n0_ := Aside0.mk (Kd.R_below (by (with_reducible repeat (first | apply Kd.R_alloc | apply Kd.R_drewN | apply Kd.R_drew)); exact HO_6.out) hb); have n1_ := Aside0.mk (Kd.R_below (by (with_reducible repeat (first | apply Kd.R_alloc | apply Kd.R_drewN | apply Kd.R_drew)); exact HO_7.out) hb); have n2_ := Aside0.mk (Kd.R_below (by (with_reducible repeat (first | apply Kd.R_alloc | apply Kd.R_drewN | apply Kd.R_drew)); exact HO_8.out) hb); have n3_ := Aside0.mk (Kd.S_below (by (with_reducible repeat (first | apply Kd.S_alloc | apply Kd.S_drewN | apply Kd.S_drew)); exact HO225.out) hb); have n4_ := Aside0.mk (Kd.S_below (by (with_reducible repeat (first | apply Kd.S_alloc | apply Kd.S_drewN | apply Kd.S_drew)); exact HO229.out) hb); have n5_ := Aside0.mk (below_step (by repeat (first | (with_reducible first | exact HB.out | apply below_alloc | apply pw_below_drewN | apply below_drew1) | exact HB.out)) hb); clear HO_6; clear HO_7; clear HO_8; clear HO225; clear HO229; clear HB; have HO_6 := n0_; have HO_7 := n1_; have HO_8 := n2_; have HO225 := n3_; have HO229 := n4_; have HB := n5_; clear n0_ n1_ n2_ n3_ n4_ n5_; (try clear hb); (try clear hb2); (try clear hk); (try clear hi)) | (go_at_call 10; (with_reducible refine (spec_ExchangesFor.calls k1 _ _ x7_1 _ _ x8_1 t232 t233 _ ?side1 ?side2 ?side3 ?side4 A23.out).mono ?_); (case side1 => repeat (first | exact (Kd.R_reads' HO_7.out).2.2 | (with_reducible refine Kd.C_alloc ?_ _) | (with_reducible refine Kd.C_drewN ?_ _) | (with_reducible refine Kd.C_drew ?_))); (case side2 => exact (Kd.R_reads' HO_7.out).2.1); (case side3 => repeat (first | exact (Kd.R_reads' HO_8.out).2.2 | (with_reducible refine Kd.C_alloc ?_ _) | (with_reducible refine Kd.C_drewN ?_ _) | (with_reducible refine Kd.C_drew ?_))); (case side4 => exact (Kd.R_reads' HO_8.out).2.1); rintro e w30 ⟨rfl, hb⟩; have n0_ := Aside0.mk (Kd.R_below (by (with_reducible repeat (first | apply Kd.R_alloc | apply Kd.R_drewN | apply Kd.R_drew)); exact HO_6.out) hb); have n1_ := Aside0.mk (Kd.R_below (by (with_reducible repeat (first | apply Kd.R_alloc | apply Kd.R_drewN | apply Kd.R_drew)); exact HO_7.out) hb); have n2_ := Aside0.mk (Kd.R_below (by (with_reducible repeat (first | apply Kd.R_alloc | apply Kd.R_drewN | apply Kd.R_drew)); exact HO_8.out) hb); have n3_ := Aside0.mk (Kd.S_below (by (with_reducible repeat (first | apply Kd.S_alloc | apply Kd.S_drewN | apply Kd.S_drew)); exact HO225.out) hb); have n4_ := Aside0.mk (Kd.S_below (by (with_reducible repeat (first | apply Kd.S_alloc | apply Kd.S_drewN | apply Kd.S_drew)); exact HO229.out) hb); have n5_ := Aside0.mk (below_step (by repeat (first | (with_reducible first | exact HB.out | apply below_alloc | apply pw_below_drewN | apply below_drew1) | exact HB.out)) hb); clear HO_6; clear HO_7; clear HO_8; clear HO225; clear HO229; clear HB; have HO_6 := n0_; have HO_7 := n1_; have HO_8 := n2_; have HO225 := n3_; have HO229 := n4_; have HB := n5_; clear n0_ n1_ n2_ n3_ n4_ n5_; (try clear hb); (try clear hb2); (try clear hk); (try clear hi)))
      repeat (go_quiet (first | (go_at_call 7; (with_reducible refine (impl_SwapsFor.calls _ _ x7_1 _ _ x8_1 t222 t223 _ ?side1 ?side2 ?side3 ?side4 A20.out).mono ?_); (case side1 => repeat (first | exact (Kd.R_reads' HO_7.out).2.2 | (with_reducible refine Kd.C_alloc ?_ _) | (with_reducible refine Kd.C_drewN ?_ _) | (with_reducible refine Kd.C_drew ?_))); (case side2 => exact (Kd.R_reads' HO_7.out).2.1); (case side3 => repeat (first | exact (Kd.R_reads' HO_8.out).2.2 | (with_reducible refine Kd.C_alloc ?_ _) | (with_reducible refine Kd.C_drewN ?_ _) | (with_reducible refine Kd.C_drew ?_))); (case side4 => exact (Kd.R_reads' HO_8.out).2.1); rintro e w27 ⟨v224, rfl, ho0, hb⟩; have n0_ := Aside0.mk (Kd.R_below (by (with_reducible repeat (first | apply Kd.R_alloc | apply Kd.R_drewN | apply Kd.R_drew)); exact HO_6.out) hb); have n1_ := Aside0.mk (Kd.R_below (by (with_reducible repeat (first | apply Kd.R_alloc | apply Kd.R_drewN | apply Kd.R_drew)); exact HO_7.out) hb); have n2_ := Aside0.mk (Kd.R_below (by (with_reducible repeat (first | apply Kd.R_alloc | apply Kd.R_drewN | apply Kd.R_drew)); exact HO_8.out) hb); have n3_ := Aside0.mk (Kd.S_lower (Kd.S_new' (Kd.S_new' (Kd.S_new' ho0 (Kd.R_lt (by (with_reducible repeat (first | apply Kd.R_alloc | apply Kd.R_drewN | apply Kd.R_drew)); exact HO_6.out))) (Kd.R_lt (by (with_reducible repeat (first | apply Kd.R_alloc | apply Kd.R_drewN | apply Kd.R_drew)); exact HO_7.out))) (Kd.R_lt (by (with_reducible repeat (first | apply Kd.R_alloc | apply Kd.R_drewN | apply Kd.R_drew)); exact HO_8.out))) (below_size (by repeat (first | (with_reducible first | exact HB.out | apply below_alloc | apply pw_below_drewN | apply below_drew1) | exact HB.out)))); have n4_ := Aside0.mk (below_step (by repeat (first | (with_reducible first | exact HB.out | apply below_alloc | apply pw_below_drewN | apply below_drew1) | exact HB.out)) hb); clear HO_6; clear HO_7; clear HO_8; clear HB; have HO_6 := n0_; have HO_7 := n1_; have HO_8 := n2_; have HO225 := n3_; have HB := n4_; clear n0_ n1_ n2_ n3_ n4_; (try clear hb); (try clear hb2); (try clear hk); (try clear hi); (try clear ho0)) | (go_at_call 8; (with_reducible refine (spec_SwapsFor.calls k1 _ _ x7_1 _ _ x8_1 t226 t227 _ ?side1 ?side2 ?side3 ?side4 A21.out).mono ?_); (case side1 => repeat (first | exact (Kd.R_reads' HO_7.out).2.2 | (with_reducible refine Kd.C_alloc ?_ _) | (with_reducible refine Kd.C_drewN ?_ _) | (with_reducible refine Kd.C_drew ?_))); (case side2 => exact (Kd.R_reads' HO_7.out).2.1); (case side3 => repeat (first | exact (Kd.R_reads' HO_8.out).2.2 | (with_reducible refine Kd.C_alloc ?_ _) | (with_reducible refine Kd.C_drewN ?_ _) | (with_reducible refine Kd.C_drew ?_))); (case side4 => exact (Kd.R_reads' HO_8.out).2.1); rintro e w28 ⟨v228, rfl, ho0, hb⟩; have n0_ := Aside0.mk (Kd.R_below (by (with_reducible repeat (first | apply Kd.R_alloc | apply Kd.R_drewN | apply Kd.R_drew)); exact HO_6.out) hb); have n1_ := Aside0.mk (Kd.R_below (by (with_reducible repeat (first | apply Kd.R_alloc | apply Kd.R_drewN | apply Kd.R_drew)); exact HO_7.out) hb); have n2_ := Aside0.mk (Kd.R_below (by (with_reducible repeat (first | apply Kd.R_alloc | apply Kd.R_drewN | apply Kd.R_drew)); exact HO_8.out) hb); have n3_ := Aside0.mk (Kd.S_elder' (by (with_reducible repeat (first | apply Kd.S_alloc | apply Kd.S_drewN | apply Kd.S_drew)); exact HO225.out) (Kd.S_base ho0) hb); have n4_ := Aside0.mk (Kd.S_lower (Kd.S_new' (Kd.S_new' (Kd.S_new' (Kd.S_new' ho0 (Kd.R_lt (by (with_reducible repeat (first | apply Kd.R_alloc | apply Kd.R_drewN | apply Kd.R_drew)); exact HO_6.out))) (Kd.R_lt (by (with_reducible repeat (first | apply Kd.R_alloc | apply Kd.R_drewN | apply Kd.R_drew)); exact HO_7.out))) (Kd.R_lt (by (with_reducible repeat (first | apply Kd.R_alloc | apply Kd.R_drewN | apply Kd.R_drew)); exact HO_8.out))) (Kd.S_lt (by (with_reducible repeat (first | apply Kd.S_alloc | apply Kd.S_drewN | apply Kd.S_drew)); exact HO225.out))) (below_size (by repeat (first | (with_reducible first | exact HB.out | apply below_alloc | apply pw_below_drewN | apply below_drew1) | exact HB.out)))); have n5_ := Aside0.mk (below_step (by repeat (first | (with_reducible first | exact HB.out | apply below_alloc | apply pw_below_drewN | apply below_drew1) | exact HB.out)) hb); clear HO_6; clear HO_7; clear HO_8; clear HO225; clear HB; have HO_6 := n0_; have HO_7 := n1_; have HO_8 := n2_; have HO225 := n3_; have HO229 := n4_; have HB := n5_; clear n0_ n1_ n2_ n3_ n4_ n5_; (try clear hb); (try clear hb2); (try clear hk); (try clear hi); (try clear ho0)) | (go_at_call 9; (with_reducible refine (impl_ExchangesFor.calls k1 _ _ x7_1 _ _ x8_1 t230 t231 _ ?side1 ?side2 ?side3 ?side4 A22.out).mono ?_); (case side1 => repeat (first | exact (Kd.R_reads' HO_7.out).2.2 | (with_reducible refine Kd.C_alloc ?_ _) | (with_reducible refine Kd.C_drewN ?_ _) | (with_reducible refine Kd.C_drew ?_))); (case side2 => exact (Kd.R_reads' HO_7.out).2.1); (case side3 => repeat (first | exact (Kd.R_reads' HO_8.out).2.2 | (with_reducible refine Kd.C_alloc ?_ _) | (with_reducible refine Kd.C_drewN ?_ _) | (with_reducible refine Kd.C_drew ?_))); (case side4 => exact (Kd.R_reads' HO_8.out).2.1); rintro e w29 ⟨rfl, hb⟩; have n0_ := Aside0.mk (Kd.R_below (by (with_reducible repeat (first | apply Kd.R_alloc | apply Kd.R_drewN | apply Kd.R_drew)); exact HO_6.out) hb); have n1_ := Aside0.mk (Kd.R_below (by (with_reducible repeat (first | apply Kd.R_alloc | apply Kd.R_drewN | apply Kd.R_drew)); exact HO_7.out) hb); have n2_ := Aside0.mk (Kd.R_below (by (with_reducible repeat (first | apply Kd.R_alloc | apply Kd.R_drewN | apply Kd.R_drew)); exact HO_8.out) hb); have n3_ := Aside0.mk (Kd.S_below (by (with_reducible repeat (first | apply Kd.S_alloc | apply Kd.S_drewN | apply Kd.S_drew)); exact HO225.out) hb); have n4_ := Aside0.mk (Kd.S_below (by (with_reducible repeat (first | apply Kd.S_alloc | apply Kd.S_drewN | apply Kd.S_drew)); exact HO229.out) hb); have n5_ := Aside0.mk (below_step (by repeat (first | (with_reducible first | exact HB.out | apply below_alloc | apply pw_below_drewN | apply below_drew1) | exact HB.out)) hb); clear HO_6; clear HO_7; clear HO_8; clear HO225; clear HO229; clear HB; have HO_6 := n0_; have HO_7 := n1_; have HO_8 := n2_; have HO225 := n3_; have HO229 := n4_; have HB := n5_; clear n0_ n1_ n2_ n3_ n4_ n5_; (try clear hb); (try clear hb2); (try clear hk); (try clear hi)) | (go_at_call 10; (with_reducible refine (spec_ExchangesFor.calls k1 _ _ x7_1 _ _ x8_1 t232 t233 _ ?side1 ?side2 ?side3 ?side4 A23.out).mono ?_); (case side1 => repeat (first | exact (Kd.R_reads' HO_7.out).2.2 | (with_reducible refine Kd.C_alloc ?_ _) | (with_reducible refine Kd.C_drewN ?_ _) | (with_reducible refine Kd.C_drew ?_))); (case side2 => exact (Kd.R_reads' HO_7.out).2.1); (case side3 => repeat (first | exact (Kd.R_reads' HO_8.out).2.2 | (with_reducible refine Kd.C_alloc ?_ _) | (with_reducible refine Kd.C_drewN ?_ _) | (with_reducible refine Kd.C_drew ?_))); (case side4 => exact (Kd.R_reads' HO_8.out).2.1); rintro e w30 ⟨rfl, hb⟩; have n0_ := Aside0.mk (Kd.R_below (by (with_reducible repeat (first | apply Kd.R_alloc | apply Kd.R_drewN | apply Kd.R_drew)); exact HO_6.out) hb); have n1_ := Aside0.mk (Kd.R_below (by (with_reducible repeat (first | apply Kd.R_alloc | apply Kd.R_drewN | apply Kd.R_drew)); exact HO_7.out) hb); have n2_ := Aside0.mk (Kd.R_below (by (with_reducible repeat (first | apply Kd.R_alloc | apply Kd.R_drewN | apply Kd.R_drew)); exact HO_8.out) hb); have n3_ := Aside0.mk (Kd.S_below (by (with_reducible repeat (first | apply Kd.S_alloc | apply Kd.S_drewN | apply Kd.S_drew)); exact HO225.out) hb); have n4_ := Aside0.mk (Kd.S_below (by (with_reducible repeat (first | apply Kd.S_alloc | apply Kd.S_drewN | apply Kd.S_drew)); exact HO229.out) hb); have n5_ := Aside0.mk (below_step (by repeat (first | (with_reducible first | exact HB.out | apply below_alloc | apply pw_below_drewN | apply below_drew1) | exact HB.out)) hb); clear HO_6; clear HO_7; clear HO_8; clear HO225; clear HO229; clear HB; have HO_6 := n0_; have HO_7 := n1_; have HO_8 := n2_; have HO225 := n3_; have HO229 := n4_; have HB := n5_; clear n0_ n1_ n2_ n3_ n4_ n5_; (try clear hb); (try clear hb2); (try clear hk); (try clear hi))); go_upto_region 16 with (first | (go_at_call 7; (with_reducible refine (impl_SwapsFor.calls _ _ x7_1 _ _ x8_1 t222 t223 _ ?side1 ?side2 ?side3 ?side4 A20.out).mono ?_); (case side1 => repeat (first | exact (Kd.R_reads' HO_7.out).2.2 | (with_reducible refine Kd.C_alloc ?_ _) | (with_reducible refine Kd.C_drewN ?_ _) | (with_reducible refine Kd.C_drew ?_))); (case side2 => exact (Kd.R_reads' HO_7.out).2.1); (case side3 => repeat (first | exact (Kd.R_reads' HO_8.out).2.2 | (with_reducible refine Kd.C_alloc ?_ _) | (with_reducible refine Kd.C_drewN ?_ _) | (with_reducible refine Kd.C_drew ?_))); (case side4 => exact (Kd.R_reads' HO_8.out).2.1); rintro e w27 ⟨v224, rfl, ho0, hb⟩; have n0_ := Aside0.mk (Kd.R_below (by (with_reducible repeat (first | apply Kd.R_alloc | apply Kd.R_drewN | apply Kd.R_drew)); exact HO_6.out) hb); have n1_ := Aside0.mk (Kd.R_below (by (with_reducible repeat (first | apply Kd.R_alloc | apply Kd.R_drewN | apply Kd.R_drew)); exact HO_7.out) hb); have n2_ := Aside0.mk (Kd.R_below (by (with_reducible repeat (first | apply Kd.R_alloc | apply Kd.R_drewN | apply Kd.R_drew)); exact HO_8.out) hb); have n3_ := Aside0.mk (Kd.S_lower (Kd.S_new' (Kd.S_new' (Kd.S_new' ho0 (Kd.R_lt (by (with_reducible repeat (first | apply Kd.R_alloc | apply Kd.R_drewN | apply Kd.R_drew)); exact HO_6.out))) (Kd.R_lt (by (with_reducible repeat (first | apply Kd.R_alloc | apply Kd.R_drewN | apply Kd.R_drew)); exact HO_7.out))) (Kd.R_lt (by (with_reducible repeat (first | apply Kd.R_alloc | apply Kd.R_drewN | apply Kd.R_drew)); exact HO_8.out))) (below_size (by repeat (first | (with_reducible first | exact HB.out | apply below_alloc | apply pw_below_drewN | apply below_drew1) | exact HB.out)))); have n4_ := Aside0.mk (below_step (by repeat (first | (with_reducible first | exact HB.out | apply below_alloc | apply pw_below_drewN | apply below_drew1) | exact HB.out)) hb); clear HO_6; clear HO_7; clear HO_8; clear HB; have HO_6 := n0_; have HO_7 := n1_; have HO_8 := n2_; have HO225 := n3_; have HB := n4_; clear n0_ n1_ n2_ n3_ n4_; (try clear hb); (try clear hb2); (try clear hk); (try clear hi); (try clear ho0)) | (go_at_call 8; (with_reducible refine (spec_SwapsFor.calls k1 _ _ x7_1 _ _ x8_1 t226 t227 _ ?side1 ?side2 ?side3 ?side4 A21.out).mono ?_); (case side1 => repeat (first | exact (Kd.R_reads' HO_7.out).2.2 | (with_reducible refine Kd.C_alloc ?_ _) | (with_reducible refine Kd.C_drewN ?_ _) | (with_reducible refine Kd.C_drew ?_))); (case side2 => exact (Kd.R_reads' HO_7.out).2.1); (case side3 => repeat (first | exact (Kd.R_reads' HO_8.out).2.2 | (with_reducible refine Kd.C_alloc ?_ _) | (with_reducible refine Kd.C_drewN ?_ _) | (with_reducible refine Kd.C_drew ?_))); (case side4 => exact (Kd.R_reads' HO_8.out).2.1); rintro e w28 ⟨v228, rfl, ho0, hb⟩; have n0_ := Aside0.mk (Kd.R_below (by (with_reducible repeat (first | apply Kd.R_alloc | apply Kd.R_drewN | apply Kd.R_drew)); exact HO_6.out) hb); have n1_ := Aside0.mk (Kd.R_below (by (with_reducible repeat (first | apply Kd.R_alloc | apply Kd.R_drewN | apply Kd.R_drew)); exact HO_7.out) hb); have n2_ := Aside0.mk (Kd.R_below (by (with_reducible repeat (first | apply Kd.R_alloc | apply Kd.R_drewN | apply Kd.R_drew)); exact HO_8.out) hb); have n3_ := Aside0.mk (Kd.S_elder' (by (with_reducible repeat (first | apply Kd.S_alloc | apply Kd.S_drewN | apply Kd.S_drew)); exact HO225.out) (Kd.S_base ho0) hb); have n4_ := Aside0.mk (Kd.S_lower (Kd.S_new' (Kd.S_new' (Kd.S_new' (Kd.S_new' ho0 (Kd.R_lt (by (with_reducible repeat (first | apply Kd.R_alloc | apply Kd.R_drewN | apply Kd.R_drew)); exact HO_6.out))) (Kd.R_lt (by (with_reducible repeat (first | apply Kd.R_alloc | apply Kd.R_drewN | apply Kd.R_drew)); exact HO_7.out))) (Kd.R_lt (by (with_reducible repeat (first | apply Kd.R_alloc | apply Kd.R_drewN | apply Kd.R_drew)); exact HO_8.out))) (Kd.S_lt (by (with_reducible repeat (first | apply Kd.S_alloc | apply Kd.S_drewN | apply Kd.S_drew)); exact HO225.out))) (below_size (by repeat (first | (with_reducible first | exact HB.out | apply below_alloc | apply pw_below_drewN | apply below_drew1) | exact HB.out)))); have n5_ := Aside0.mk (below_step (by repeat (first | (with_reducible first | exact HB.out | apply below_alloc | apply pw_below_drewN | apply below_drew1) | exact HB.out)) hb); clear HO_6; clear HO_7; clear HO_8; clear HO225; clear HB; have HO_6 := n0_; have HO_7 := n1_; have HO_8 := n2_; have HO225 := n3_; have HO229 := n4_; have HB := n5_; clear n0_ n1_ n2_ n3_ n4_ n5_; (try clear hb); (try clear hb2); (try clear hk); (try clear hi); (try clear ho0)) | (go_at_call 9; (with_reducible refine (impl_ExchangesFor.calls k1 _ _ x7_1 _ _ x8_1 t230 t231 _ ?side1 ?side2 ?side3 ?side4 A22.out).mono ?_); (case side1 => repeat (first | exact (Kd.R_reads' HO_7.out).2.2 | (with_reducible refine Kd.C_alloc ?_ _) | (with_reducible refine Kd.C_drewN ?_ _) | (with_reducible refine Kd.C_drew ?_))); (case side2 => exact (Kd.R_reads' HO_7.out).2.1); (case side3 => repeat (first | exact (Kd.R_reads' HO_8.out).2.2 | (with_reducible refine Kd.C_alloc ?_ _) | (with_reducible refine Kd.C_drewN ?_ _) | (with_reducible refine Kd.C_drew ?_))); (case side4 => exact (Kd.R_reads' HO_8.out).2.1); rintro e w29 ⟨rfl, hb⟩; have n0_ := Aside0.mk (Kd.R_below (by (with_reducible repeat (first | apply Kd.R_alloc | apply Kd.R_drewN | apply Kd.R_drew)); exact HO_6.out) hb); have n1_ := Aside0.mk (Kd.R_below (by (with_reducible repeat (first | apply Kd.R_alloc | apply Kd.R_drewN | apply Kd.R_drew)); exact HO_7.out) hb); have n2_ := Aside0.mk (Kd.R_below (by (with_reducible repeat (first | apply Kd.R_alloc | apply Kd.R_drewN | apply Kd.R_drew)); exact HO_8.out) hb); have n3_ := Aside0.mk (Kd.S_below (by (with_reducible repeat (first | apply Kd.S_alloc | apply Kd.S_drewN | apply Kd.S_drew)); exact HO225.out) hb); have n4_ := Aside0.mk (Kd.S_below (by (with_reducible repeat (first | apply Kd.S_alloc | apply Kd.S_drewN | apply Kd.S_drew)); exact HO229.out) hb); have n5_ := Aside0.mk (below_step (by repeat (first | (with_reducible first | exact HB.out | apply below_alloc | apply pw_below_drewN | apply below_drew1) | exact HB.out)) hb); clear HO_6; clear HO_7; clear HO_8; clear HO225; clear HO229; clear HB; have HO_6 := n0_; have HO_7 := n1_; have HO_8 := n2_; have HO225 := n3_; have HO229 := n4_; have HB := n5_; clear n0_ n1_ n2_ n3_ n4_ n5_; (try clear hb); (try clear hb2); (try clear hk); (try clear hi)) | (go_at_call 10; (with_reducible refine (spec_ExchangesFor.calls k1 _ _ x7_1 _ _ x8_1 t232 t233 _ ?side1 ?side2 ?side3 ?side4 A23.out).mono ?_); (case side1 => repeat (first | exact (Kd.R_reads' HO_7.out).2.2 | (with_reducible refine Kd.C_alloc ?_ _) | (with_reducible refine Kd.C_drewN ?_ _) | (with_reducible refine Kd.C_drew ?_))); (case side2 => exact (Kd.R_reads' HO_7.out).2.1); (case side3 => repeat (first | exact (Kd.R_reads' HO_8.out).2.2 | (with_reducible refine Kd.C_alloc ?_ _) | (with_reducible refine Kd.C_drewN ?_ _) | (with_reducible refine Kd.C_drew ?_))); (case side4 => exact (Kd.R_reads' HO_8.out).2.1); rintro e w30 ⟨rfl, hb⟩; have n0_ := Aside0.mk (Kd.R_below (by (with_reducible repeat (first | apply Kd.R_alloc | apply Kd.R_drewN | apply Kd.R_drew)); exact HO_6.out) hb); have n1_ := Aside0.mk (Kd.R_below (by (with_reducible repeat (first | apply Kd.R_alloc | apply Kd.R_drewN | apply Kd.R_drew)); exact HO_7.out) hb); have n2_ := Aside0.mk (Kd.R_below (by (with_reducible repeat (first | apply Kd.R_alloc | apply Kd.R_drewN | apply Kd.R_drew)); exact HO_8.out) hb); have n3_ := Aside0.mk (Kd.S_below (by (with_reducible repeat (first | apply Kd.S_alloc | apply Kd.S_drewN | apply Kd.S_drew)); exact HO225.out) hb); have n4_ := Aside0.mk (Kd.S_below (by (with_reducible repeat (first | apply Kd.S_alloc | apply Kd.S_drewN | apply Kd.S_drew)); exact HO229.out) hb); have n5_ := Aside0.mk (below_step (by repeat (first | (with_reducible first | exact HB.out | apply below_alloc | apply pw_below_drewN | apply below_drew1) | exact HB.out)) hb); clear HO_6; clear HO_7; clear HO_8; clear HO225; clear HO229; clear HB; have HO_6 := n0_; have HO_7 := n1_; have HO_8 := n2_; have HO225 := n3_; have HO229 := n4_; have HB := n5_; clear n0_ n1_ n2_ n3_ n4_ n5_; (try clear hb); (try clear hb2); (try clear hk); (try clear hi))))
      (try simp only [Act.put, List.setIfInBounds_toArray, List.set_cons_zero, List.set_cons_succ])
      go_cut [107] (fun v107 wc => ∃ (kq : Nat) (x107_23 : Bool), v107 = .bool x107_23 ∧ Aside0 (laws_FnSwapped.j1 kq t205 x7_1 x8_1 t226 t232 x107_23 = some r) ∧ Aside0 (kq ≤ k1) ∧ Aside0 (Kd.R (Kd.int .i64) 2 wc w.heap.size (fun k_ => some k_ ≠ ((.slice Ao26 x8_1.length co26) : Value).ownBlock) (.slice Ao25 x7_1.length co25) x7_1) ∧ Aside0 (Kd.R (Kd.int .i64) 2 wc w.heap.size (fun k_ => some k_ ≠ ((.slice Ao25 x7_1.length co25) : Value).ownBlock) (.slice Ao26 x8_1.length co26) x8_1) ∧ Aside0 (Kd.S (Kd.slice 2 (Kd.int .i64)) 25 wc w.heap.size (fun k_ => some k_ ≠ ((.slice Ao25 x7_1.length co25) : Value).ownBlock ∧ some k_ ≠ ((.slice Ao26 x8_1.length co26) : Value).ownBlock) v228 t226) ∧ Aside0 (Below w.heap.size w wc))
      case first =>
       as_aux_lemma =>
        have H := HC24.out
        clear HC24
        by_cases c31 : t223 = t227
        ·rw [if_pos c31] at H
         have c31b0 : (t223 == t227) = true := beq_iff_eq.mpr c31
         have c31b1 : (t223 != t227) = false := bne_eq_false_iff_eq.mpr c31
         clear c31
         (first | rw [c31b0] | (simp only [i64_w, i32_w]; rw [c31b0]) | skip)
         by_cases c32 : t223 = 0
         ·rw [if_pos c32] at H
          have c32b0 : (t223 == 0) = true := beq_iff_eq.mpr c32
          have c32b1 : (t223 != 0) = false := bne_eq_false_iff_eq.mpr c32
          clear c32
          replace H := Option.bind_eq_some_iff.mp H
          obtain ⟨t234, A330, H⟩ := H
          replace H : (if t234 = true then (if t231 = t233 then (if t231 = 0 then (laws_FnSwapped.j1 k1 t205 x7_1 x8_1 t226 t232 (t230 != t232)) else (laws_FnSwapped.j1 k1 t205 x7_1 x8_1 t226 t232 true)) else (laws_FnSwapped.j1 k1 t205 x7_1 x8_1 t226 t232 true)) else (laws_FnSwapped.j1 k1 t205 x7_1 x8_1 t226 t232 true)) = some r := H
          have A33 := Aside0.mk A330
          clear A330
          by_cases c34 : t234 = true
          ·subst c34
           have H1 : (if t231 = t233 then (if t231 = 0 then (laws_FnSwapped.j1 k1 t205 x7_1 x8_1 t226 t232 (t230 != t232)) else (laws_FnSwapped.j1 k1 t205 x7_1 x8_1 t226 t232 true)) else (laws_FnSwapped.j1 k1 t205 x7_1 x8_1 t226 t232 true)) = some r := by rw [if_pos rfl] at H; exact H
           clear H
           have H := H1
           clear H1
           by_cases c35 : t231 = t233
           ·rw [if_pos c35] at H
            have c35b0 : (t231 == t233) = true := beq_iff_eq.mpr c35
            have c35b1 : (t231 != t233) = false := bne_eq_false_iff_eq.mpr c35
            clear c35
            by_cases c36 : t231 = 0
            ·rw [if_pos c36] at H
             have c36b0 : (t231 == 0) = true := beq_iff_eq.mpr c36
             have c36b1 : (t231 != 0) = false := bne_eq_false_iff_eq.mpr c36
             clear c36
             have H' := Aside0.mk H
             clear H
             obtain ⟨Ao37, co37, eo37⟩ := Kd.S_slice HO225.out
             subst eo37
             obtain ⟨Ao38, co38, eo38⟩ := Kd.S_slice HO229.out
             subst eo38
             go_wp2_with (first | (go_at_call 11; (with_reducible refine (spec_A2SameLists.calls k1 _ _ t222 _ _ t226 true _ ?side1 ?side2 ?side3 ?side4 A33.out).mono ?_); (case side1 => repeat (first | exact (Kd.S_reads' HO225.out).2.2 | (with_reducible refine Kd.C_alloc ?_ _) | (with_reducible refine Kd.C_drewN ?_ _) | (with_reducible refine Kd.C_drew ?_))); (case side2 => exact (Kd.S_reads' HO225.out).2.1); (case side3 => repeat (first | exact (Kd.S_reads' HO229.out).2.2 | (with_reducible refine Kd.C_alloc ?_ _) | (with_reducible refine Kd.C_drewN ?_ _) | (with_reducible refine Kd.C_drew ?_))); (case side4 => exact (Kd.S_reads' HO229.out).2.1); rintro e w' ⟨rfl, ⟨nd, rfl⟩⟩; (try first | exact ⟨rfl, _, World.drewN_drewN _ _ _⟩ | exact ⟨rfl, _, Eq.trans (World.drewN_drewN _ _ _) (congrArg (World.drewN _) (Nat.add_assoc _ _ _))⟩)))
             repeat (go_quiet (first | (go_at_call 11; (with_reducible refine (spec_A2SameLists.calls k1 _ _ t222 _ _ t226 true _ ?side1 ?side2 ?side3 ?side4 A33.out).mono ?_); (case side1 => repeat (first | exact (Kd.S_reads' HO225.out).2.2 | (with_reducible refine Kd.C_alloc ?_ _) | (with_reducible refine Kd.C_drewN ?_ _) | (with_reducible refine Kd.C_drew ?_))); (case side2 => exact (Kd.S_reads' HO225.out).2.1); (case side3 => repeat (first | exact (Kd.S_reads' HO229.out).2.2 | (with_reducible refine Kd.C_alloc ?_ _) | (with_reducible refine Kd.C_drewN ?_ _) | (with_reducible refine Kd.C_drew ?_))); (case side4 => exact (Kd.S_reads' HO229.out).2.1); rintro e w' ⟨rfl, ⟨nd, rfl⟩⟩; (try first | exact ⟨rfl, _, World.drewN_drewN _ _ _⟩ | exact ⟨rfl, _, Eq.trans (World.drewN_drewN _ _ _) (congrArg (World.drewN _) (Nat.add_assoc _ _ _))⟩))); try go_wp2_with (first | (go_at_call 11; (with_reducible refine (spec_A2SameLists.calls k1 _ _ t222 _ _ t226 true _ ?side1 ?side2 ?side3 ?side4 A33.out).mono ?_); (case side1 => repeat (first | exact (Kd.S_reads' HO225.out).2.2 | (with_reducible refine Kd.C_alloc ?_ _) | (with_reducible refine Kd.C_drewN ?_ _) | (with_reducible refine Kd.C_drew ?_))); (case side2 => exact (Kd.S_reads' HO225.out).2.1); (case side3 => repeat (first | exact (Kd.S_reads' HO229.out).2.2 | (with_reducible refine Kd.C_alloc ?_ _) | (with_reducible refine Kd.C_drewN ?_ _) | (with_reducible refine Kd.C_drew ?_))); (case side4 => exact (Kd.S_reads' HO229.out).2.1); rintro e w' ⟨rfl, ⟨nd, rfl⟩⟩; (try first | exact ⟨rfl, _, World.drewN_drewN _ _ _⟩ | exact ⟨rfl, _, Eq.trans (World.drewN_drewN _ _ _) (congrArg (World.drewN _) (Nat.add_assoc _ _ _))⟩))))
             go_meet
             case rel => exact ⟨_, ((t230 != t232)), (by first | rfl | (simp; done) | (simp [*]; done)), H', ⟨by have := HK1.out; first | omega | exact Nat.le_refl _⟩, ⟨by (with_reducible repeat (first | apply Kd.R_alloc | apply Kd.R_drewN | apply Kd.R_drew)); exact Kd.R_mono HO_7.out (fun _ hk => hk.2)⟩, ⟨by (with_reducible repeat (first | apply Kd.R_alloc | apply Kd.R_drewN | apply Kd.R_drew)); exact Kd.R_mono HO_8.out (fun _ hk => hk.2)⟩, ⟨by (with_reducible repeat (first | apply Kd.S_alloc | apply Kd.S_drewN | apply Kd.S_drew)); exact Kd.S_mono HO229.out (fun _ hk => ⟨hk.1.1.2, hk.1.2⟩)⟩, ⟨by repeat (first | (with_reducible first | exact HB.out | apply below_alloc | apply pw_below_drewN | apply below_drew1) | exact HB.out)⟩⟩
            ·rw [if_neg c36] at H
             have c36b0 : (t231 == 0) = false := beq_eq_false_iff_ne.mpr c36
             have c36b1 : (t231 != 0) = true := bne_iff_ne.mpr c36
             have H' := Aside0.mk H
             clear H
             obtain ⟨Ao39, co39, eo39⟩ := Kd.S_slice HO225.out
             subst eo39
             obtain ⟨Ao40, co40, eo40⟩ := Kd.S_slice HO229.out
             subst eo40
             go_wp2_with (first | (go_at_call 11; (with_reducible refine (spec_A2SameLists.calls k1 _ _ t222 _ _ t226 true _ ?side1 ?side2 ?side3 ?side4 A33.out).mono ?_); (case side1 => repeat (first | exact (Kd.S_reads' HO225.out).2.2 | (with_reducible refine Kd.C_alloc ?_ _) | (with_reducible refine Kd.C_drewN ?_ _) | (with_reducible refine Kd.C_drew ?_))); (case side2 => exact (Kd.S_reads' HO225.out).2.1); (case side3 => repeat (first | exact (Kd.S_reads' HO229.out).2.2 | (with_reducible refine Kd.C_alloc ?_ _) | (with_reducible refine Kd.C_drewN ?_ _) | (with_reducible refine Kd.C_drew ?_))); (case side4 => exact (Kd.S_reads' HO229.out).2.1); rintro e w' ⟨rfl, ⟨nd, rfl⟩⟩; (try first | exact ⟨rfl, _, World.drewN_drewN _ _ _⟩ | exact ⟨rfl, _, Eq.trans (World.drewN_drewN _ _ _) (congrArg (World.drewN _) (Nat.add_assoc _ _ _))⟩)))
             repeat (go_quiet (first | (go_at_call 11; (with_reducible refine (spec_A2SameLists.calls k1 _ _ t222 _ _ t226 true _ ?side1 ?side2 ?side3 ?side4 A33.out).mono ?_); (case side1 => repeat (first | exact (Kd.S_reads' HO225.out).2.2 | (with_reducible refine Kd.C_alloc ?_ _) | (with_reducible refine Kd.C_drewN ?_ _) | (with_reducible refine Kd.C_drew ?_))); (case side2 => exact (Kd.S_reads' HO225.out).2.1); (case side3 => repeat (first | exact (Kd.S_reads' HO229.out).2.2 | (with_reducible refine Kd.C_alloc ?_ _) | (with_reducible refine Kd.C_drewN ?_ _) | (with_reducible refine Kd.C_drew ?_))); (case side4 => exact (Kd.S_reads' HO229.out).2.1); rintro e w' ⟨rfl, ⟨nd, rfl⟩⟩; (try first | exact ⟨rfl, _, World.drewN_drewN _ _ _⟩ | exact ⟨rfl, _, Eq.trans (World.drewN_drewN _ _ _) (congrArg (World.drewN _) (Nat.add_assoc _ _ _))⟩))); try go_wp2_with (first | (go_at_call 11; (with_reducible refine (spec_A2SameLists.calls k1 _ _ t222 _ _ t226 true _ ?side1 ?side2 ?side3 ?side4 A33.out).mono ?_); (case side1 => repeat (first | exact (Kd.S_reads' HO225.out).2.2 | (with_reducible refine Kd.C_alloc ?_ _) | (with_reducible refine Kd.C_drewN ?_ _) | (with_reducible refine Kd.C_drew ?_))); (case side2 => exact (Kd.S_reads' HO225.out).2.1); (case side3 => repeat (first | exact (Kd.S_reads' HO229.out).2.2 | (with_reducible refine Kd.C_alloc ?_ _) | (with_reducible refine Kd.C_drewN ?_ _) | (with_reducible refine Kd.C_drew ?_))); (case side4 => exact (Kd.S_reads' HO229.out).2.1); rintro e w' ⟨rfl, ⟨nd, rfl⟩⟩; (try first | exact ⟨rfl, _, World.drewN_drewN _ _ _⟩ | exact ⟨rfl, _, Eq.trans (World.drewN_drewN _ _ _) (congrArg (World.drewN _) (Nat.add_assoc _ _ _))⟩))))
             go_meet
             case rel => exact ⟨_, (true), (by first | rfl | (simp; done) | (simp [*]; done)), H', ⟨by have := HK1.out; first | omega | exact Nat.le_refl _⟩, ⟨by (with_reducible repeat (first | apply Kd.R_alloc | apply Kd.R_drewN | apply Kd.R_drew)); exact Kd.R_mono HO_7.out (fun _ hk => hk.2)⟩, ⟨by (with_reducible repeat (first | apply Kd.R_alloc | apply Kd.R_drewN | apply Kd.R_drew)); exact Kd.R_mono HO_8.out (fun _ hk => hk.2)⟩, ⟨by (with_reducible repeat (first | apply Kd.S_alloc | apply Kd.S_drewN | apply Kd.S_drew)); exact Kd.S_mono HO229.out (fun _ hk => ⟨hk.1.1.2, hk.1.2⟩)⟩, ⟨by repeat (first | (with_reducible first | exact HB.out | apply below_alloc | apply pw_below_drewN | apply below_drew1) | exact HB.out)⟩⟩
           ·rw [if_neg c35] at H
            have c35b0 : (t231 == t233) = false := beq_eq_false_iff_ne.mpr c35
            have c35b1 : (t231 != t233) = true := bne_iff_ne.mpr c35
            have H' := Aside0.mk H
            clear H
            obtain ⟨Ao41, co41, eo41⟩ := Kd.S_slice HO225.out
            subst eo41
            obtain ⟨Ao42, co42, eo42⟩ := Kd.S_slice HO229.out
            subst eo42
            go_wp2_with (first | (go_at_call 11; (with_reducible refine (spec_A2SameLists.calls k1 _ _ t222 _ _ t226 true _ ?side1 ?side2 ?side3 ?side4 A33.out).mono ?_); (case side1 => repeat (first | exact (Kd.S_reads' HO225.out).2.2 | (with_reducible refine Kd.C_alloc ?_ _) | (with_reducible refine Kd.C_drewN ?_ _) | (with_reducible refine Kd.C_drew ?_))); (case side2 => exact (Kd.S_reads' HO225.out).2.1); (case side3 => repeat (first | exact (Kd.S_reads' HO229.out).2.2 | (with_reducible refine Kd.C_alloc ?_ _) | (with_reducible refine Kd.C_drewN ?_ _) | (with_reducible refine Kd.C_drew ?_))); (case side4 => exact (Kd.S_reads' HO229.out).2.1); rintro e w' ⟨rfl, ⟨nd, rfl⟩⟩; (try first | exact ⟨rfl, _, World.drewN_drewN _ _ _⟩ | exact ⟨rfl, _, Eq.trans (World.drewN_drewN _ _ _) (congrArg (World.drewN _) (Nat.add_assoc _ _ _))⟩)))
            repeat (go_quiet (first | (go_at_call 11; (with_reducible refine (spec_A2SameLists.calls k1 _ _ t222 _ _ t226 true _ ?side1 ?side2 ?side3 ?side4 A33.out).mono ?_); (case side1 => repeat (first | exact (Kd.S_reads' HO225.out).2.2 | (with_reducible refine Kd.C_alloc ?_ _) | (with_reducible refine Kd.C_drewN ?_ _) | (with_reducible refine Kd.C_drew ?_))); (case side2 => exact (Kd.S_reads' HO225.out).2.1); (case side3 => repeat (first | exact (Kd.S_reads' HO229.out).2.2 | (with_reducible refine Kd.C_alloc ?_ _) | (with_reducible refine Kd.C_drewN ?_ _) | (with_reducible refine Kd.C_drew ?_))); (case side4 => exact (Kd.S_reads' HO229.out).2.1); rintro e w' ⟨rfl, ⟨nd, rfl⟩⟩; (try first | exact ⟨rfl, _, World.drewN_drewN _ _ _⟩ | exact ⟨rfl, _, Eq.trans (World.drewN_drewN _ _ _) (congrArg (World.drewN _) (Nat.add_assoc _ _ _))⟩))); try go_wp2_with (first | (go_at_call 11; (with_reducible refine (spec_A2SameLists.calls k1 _ _ t222 _ _ t226 true _ ?side1 ?side2 ?side3 ?side4 A33.out).mono ?_); (case side1 => repeat (first | exact (Kd.S_reads' HO225.out).2.2 | (with_reducible refine Kd.C_alloc ?_ _) | (with_reducible refine Kd.C_drewN ?_ _) | (with_reducible refine Kd.C_drew ?_))); (case side2 => exact (Kd.S_reads' HO225.out).2.1); (case side3 => repeat (first | exact (Kd.S_reads' HO229.out).2.2 | (with_reducible refine Kd.C_alloc ?_ _) | (with_reducible refine Kd.C_drewN ?_ _) | (with_reducible refine Kd.C_drew ?_))); (case side4 => exact (Kd.S_reads' HO229.out).2.1); rintro e w' ⟨rfl, ⟨nd, rfl⟩⟩; (try first | exact ⟨rfl, _, World.drewN_drewN _ _ _⟩ | exact ⟨rfl, _, Eq.trans (World.drewN_drewN _ _ _) (congrArg (World.drewN _) (Nat.add_assoc _ _ _))⟩))))
            go_meet
            case rel => exact ⟨_, (true), (by first | rfl | (simp; done) | (simp [*]; done)), H', ⟨by have := HK1.out; first | omega | exact Nat.le_refl _⟩, ⟨by (with_reducible repeat (first | apply Kd.R_alloc | apply Kd.R_drewN | apply Kd.R_drew)); exact Kd.R_mono HO_7.out (fun _ hk => hk.2)⟩, ⟨by (with_reducible repeat (first | apply Kd.R_alloc | apply Kd.R_drewN | apply Kd.R_drew)); exact Kd.R_mono HO_8.out (fun _ hk => hk.2)⟩, ⟨by (with_reducible repeat (first | apply Kd.S_alloc | apply Kd.S_drewN | apply Kd.S_drew)); exact Kd.S_mono HO229.out (fun _ hk => ⟨hk.1.1.2, hk.1.2⟩)⟩, ⟨by repeat (first | (with_reducible first | exact HB.out | apply below_alloc | apply pw_below_drewN | apply below_drew1) | exact HB.out)⟩⟩
          ·replace c34 := Bool.eq_false_iff.mpr c34
           subst c34
           have H1 : (laws_FnSwapped.j1 k1 t205 x7_1 x8_1 t226 t232 true) = some r := by rw [if_neg (show ¬ (false = true) by decide)] at H; exact H
           clear H
           have H := H1
           clear H1
           have H' := Aside0.mk H
           clear H
           obtain ⟨Ao43, co43, eo43⟩ := Kd.S_slice HO225.out
           subst eo43
           obtain ⟨Ao44, co44, eo44⟩ := Kd.S_slice HO229.out
           subst eo44
           go_wp2_with (first | (go_at_call 11; (with_reducible refine (spec_A2SameLists.calls k1 _ _ t222 _ _ t226 false _ ?side1 ?side2 ?side3 ?side4 A33.out).mono ?_); (case side1 => repeat (first | exact (Kd.S_reads' HO225.out).2.2 | (with_reducible refine Kd.C_alloc ?_ _) | (with_reducible refine Kd.C_drewN ?_ _) | (with_reducible refine Kd.C_drew ?_))); (case side2 => exact (Kd.S_reads' HO225.out).2.1); (case side3 => repeat (first | exact (Kd.S_reads' HO229.out).2.2 | (with_reducible refine Kd.C_alloc ?_ _) | (with_reducible refine Kd.C_drewN ?_ _) | (with_reducible refine Kd.C_drew ?_))); (case side4 => exact (Kd.S_reads' HO229.out).2.1); rintro e w' ⟨rfl, ⟨nd, rfl⟩⟩; (try first | exact ⟨rfl, _, World.drewN_drewN _ _ _⟩ | exact ⟨rfl, _, Eq.trans (World.drewN_drewN _ _ _) (congrArg (World.drewN _) (Nat.add_assoc _ _ _))⟩)))
           repeat (go_quiet (first | (go_at_call 11; (with_reducible refine (spec_A2SameLists.calls k1 _ _ t222 _ _ t226 false _ ?side1 ?side2 ?side3 ?side4 A33.out).mono ?_); (case side1 => repeat (first | exact (Kd.S_reads' HO225.out).2.2 | (with_reducible refine Kd.C_alloc ?_ _) | (with_reducible refine Kd.C_drewN ?_ _) | (with_reducible refine Kd.C_drew ?_))); (case side2 => exact (Kd.S_reads' HO225.out).2.1); (case side3 => repeat (first | exact (Kd.S_reads' HO229.out).2.2 | (with_reducible refine Kd.C_alloc ?_ _) | (with_reducible refine Kd.C_drewN ?_ _) | (with_reducible refine Kd.C_drew ?_))); (case side4 => exact (Kd.S_reads' HO229.out).2.1); rintro e w' ⟨rfl, ⟨nd, rfl⟩⟩; (try first | exact ⟨rfl, _, World.drewN_drewN _ _ _⟩ | exact ⟨rfl, _, Eq.trans (World.drewN_drewN _ _ _) (congrArg (World.drewN _) (Nat.add_assoc _ _ _))⟩))); try go_wp2_with (first | (go_at_call 11; (with_reducible refine (spec_A2SameLists.calls k1 _ _ t222 _ _ t226 false _ ?side1 ?side2 ?side3 ?side4 A33.out).mono ?_); (case side1 => repeat (first | exact (Kd.S_reads' HO225.out).2.2 | (with_reducible refine Kd.C_alloc ?_ _) | (with_reducible refine Kd.C_drewN ?_ _) | (with_reducible refine Kd.C_drew ?_))); (case side2 => exact (Kd.S_reads' HO225.out).2.1); (case side3 => repeat (first | exact (Kd.S_reads' HO229.out).2.2 | (with_reducible refine Kd.C_alloc ?_ _) | (with_reducible refine Kd.C_drewN ?_ _) | (with_reducible refine Kd.C_drew ?_))); (case side4 => exact (Kd.S_reads' HO229.out).2.1); rintro e w' ⟨rfl, ⟨nd, rfl⟩⟩; (try first | exact ⟨rfl, _, World.drewN_drewN _ _ _⟩ | exact ⟨rfl, _, Eq.trans (World.drewN_drewN _ _ _) (congrArg (World.drewN _) (Nat.add_assoc _ _ _))⟩))))
           go_meet
           case rel => exact ⟨_, (true), (by first | rfl | (simp; done) | (simp [*]; done)), H', ⟨by have := HK1.out; first | omega | exact Nat.le_refl _⟩, ⟨by (with_reducible repeat (first | apply Kd.R_alloc | apply Kd.R_drewN | apply Kd.R_drew)); exact Kd.R_mono HO_7.out (fun _ hk => hk.2)⟩, ⟨by (with_reducible repeat (first | apply Kd.R_alloc | apply Kd.R_drewN | apply Kd.R_drew)); exact Kd.R_mono HO_8.out (fun _ hk => hk.2)⟩, ⟨by (with_reducible repeat (first | apply Kd.S_alloc | apply Kd.S_drewN | apply Kd.S_drew)); exact Kd.S_mono HO229.out (fun _ hk => ⟨hk.1.1.2, hk.1.2⟩)⟩, ⟨by repeat (first | (with_reducible first | exact HB.out | apply below_alloc | apply pw_below_drewN | apply below_drew1) | exact HB.out)⟩⟩
         ·rw [if_neg c32] at H
          have c32b0 : (t223 == 0) = false := beq_eq_false_iff_ne.mpr c32
          have c32b1 : (t223 != 0) = true := bne_iff_ne.mpr c32
          have H' := Aside0.mk H
          clear H
          go_wp2
          repeat (go_quiet (fail); try go_wp2)
          go_meet
          case rel => exact ⟨_, (true), (by first | rfl | (simp; done) | (simp [*]; done)), H', ⟨by have := HK1.out; first | omega | exact Nat.le_refl _⟩, ⟨by (with_reducible repeat (first | apply Kd.R_alloc | apply Kd.R_drewN | apply Kd.R_drew)); exact Kd.R_mono HO_7.out (fun _ hk => hk.2)⟩, ⟨by (with_reducible repeat (first | apply Kd.R_alloc | apply Kd.R_drewN | apply Kd.R_drew)); exact Kd.R_mono HO_8.out (fun _ hk => hk.2)⟩, ⟨by (with_reducible repeat (first | apply Kd.S_alloc | apply Kd.S_drewN | apply Kd.S_drew)); exact Kd.S_mono HO229.out (fun _ hk => ⟨hk.1.1.2, hk.1.2⟩)⟩, ⟨by repeat (first | (with_reducible first | exact HB.out | apply below_alloc | apply pw_below_drewN | apply below_drew1) | exact HB.out)⟩⟩
        ·rw [if_neg c31] at H
         have c31b0 : (t223 == t227) = false := beq_eq_false_iff_ne.mpr c31
         have c31b1 : (t223 != t227) = true := bne_iff_ne.mpr c31
         (first | rw [c31b0] | (simp only [i64_w, i32_w]; rw [c31b0]) | skip)
         have H' := Aside0.mk H
         clear H
         go_wp2
         repeat (go_quiet (fail); try go_wp2)
         go_meet
         case rel => exact ⟨_, (true), (by first | rfl | (simp; done) | (simp [*]; done)), H', ⟨by have := HK1.out; first | omega | exact Nat.le_refl _⟩, ⟨by (with_reducible repeat (first | apply Kd.R_alloc | apply Kd.R_drewN | apply Kd.R_drew)); exact Kd.R_mono HO_7.out (fun _ hk => hk.2)⟩, ⟨by (with_reducible repeat (first | apply Kd.R_alloc | apply Kd.R_drewN | apply Kd.R_drew)); exact Kd.R_mono HO_8.out (fun _ hk => hk.2)⟩, ⟨by (with_reducible repeat (first | apply Kd.S_alloc | apply Kd.S_drewN | apply Kd.S_drew)); exact Kd.S_mono HO229.out (fun _ hk => ⟨hk.1.1.2, hk.1.2⟩)⟩, ⟨by repeat (first | (with_reducible first | exact HB.out | apply below_alloc | apply pw_below_drewN | apply below_drew1) | exact HB.out)⟩⟩
      case rest =>
       as_aux_lemma =>
        clear HC24
        try clear c1
        try clear p2
        try clear q2
        try clear hx2
        try clear c3
        try clear c4
        try clear p6
        try clear c12
        try clear c12b0
        try clear c13
        try clear c14
        try clear c14b0
        try clear c15
        try clear c15b0
        try clear c16
        try clear p21
        try clear q21
        try clear hx21
        try clear c31
        try clear c31b0
        try clear c31b1
        try clear c32
        try clear c32b0
        try clear c32b1
        try clear c34
        try clear c35
        try clear c35b0
        try clear c35b1
        try clear c36
        try clear c36b0
        try clear c36b1
        try clear hx218_0
        try clear p2
        try clear p218
        try clear q218
        obtain ⟨kq, x107_23, rfl, HA, HJ23, HO_7, HO_8, HO_12, HB⟩ := hcut
        cases kq with
        | zero => exact absurd HA.out (by simp [laws_FnSwapped.j1])
        | succ kj23 =>
         have H := HA.out
         clear HA
         simp only [laws_FnSwapped.j1] at H
         by_cases c45 : x107_23 = true
         ·subst c45
          have H1 : (some false) = some r := by rw [if_pos rfl] at H; exact H
          clear H
          have H := H1
          clear H1
          obtain rfl := Option.some.inj H
          go_wp2
          repeat (go_quiet (fail); try go_wp2)
          go_ret
          exact ⟨by first | rfl | (simp [errW_none, errW_some] <;> rfl) | (simp [*, errW_none, errW_some] <;> rfl), by repeat (first | (with_reducible first | exact HB.out | apply below_alloc | apply pw_below_drewN | apply below_drew1) | exact HB.out)⟩
         ·replace c45 := Bool.eq_false_iff.mpr c45
          subst c45
          have H1 : (laws_FnSwapped.l1 kj23 t205 x7_1 x8_1 t226 t232 0 0) = some r := by rw [if_neg (show ¬ (false = true) by decide)] at H; exact H
          clear H
          have H := H1
          clear H1
          have H' := Aside0.mk H
          clear H
          go_wp2
          repeat (go_quiet (fail); try go_wp2)
          go_loopg [18, 19] kj23 (fun kq v18 v19 w' => ∃ (x18_3 : Int) (x19_3 : Int), v18 = .int .i64 x18_3 ∧ v19 = .int .i64 x19_3 ∧ Aside0 (laws_FnSwapped.l1 kq t205 x7_1 x8_1 t226 t232 x18_3 x19_3 = some r) ∧ Aside0 (kq ≤ kj23) ∧ Aside0 (Kd.R (Kd.int .i64) 2 w' w.heap.size (fun k_ => some k_ ≠ ((.slice Ao26 x8_1.length co26) : Value).ownBlock) (.slice Ao25 x7_1.length co25) x7_1) ∧ Aside0 (Kd.R (Kd.int .i64) 2 w' w.heap.size (fun k_ => some k_ ≠ ((.slice Ao25 x7_1.length co25) : Value).ownBlock) (.slice Ao26 x8_1.length co26) x8_1) ∧ Aside0 (Kd.S (Kd.slice 2 (Kd.int .i64)) 25 w' w.heap.size (fun k_ => some k_ ≠ ((.slice Ao25 x7_1.length co25) : Value).ownBlock ∧ some k_ ≠ ((.slice Ao26 x8_1.length co26) : Value).ownBlock) v228 t226) ∧ Aside0 (Below w.heap.size w w'))
          case atStart => exact ⟨(0), (0), (by first | rfl | (simp; done) | (simp [*]; done)), (by first | rfl | (simp; done) | (simp [*]; done)), H', ⟨Nat.le_refl _⟩, ⟨by (with_reducible repeat (first | apply Kd.R_alloc | apply Kd.R_drewN | apply Kd.R_drew)); exact HO_7.out⟩, ⟨by (with_reducible repeat (first | apply Kd.R_alloc | apply Kd.R_drewN | apply Kd.R_drew)); exact HO_8.out⟩, ⟨by (with_reducible repeat (first | apply Kd.S_alloc | apply Kd.S_drewN | apply Kd.S_drew)); exact HO_12.out⟩, ⟨by repeat (first | (with_reducible first | exact HB.out | apply below_alloc | apply pw_below_drewN | apply below_drew1) | exact HB.out)⟩⟩
          case round =>
           as_aux_lemma =>
            clear H'
            try clear c1
            try clear p2
            try clear q2
            try clear hx2
            try clear c3
            try clear c4
            try clear p6
            try clear c12
            try clear c12b0
            try clear c13
            try clear c14
            try clear c14b0
            try clear c15
            try clear c15b0
            try clear c16
            try clear p21
            try clear q21
            try clear hx21
            try clear c31
            try clear c31b0
            try clear c31b1
            try clear c32
            try clear c32b0
            try clear c32b1
            try clear c34
            try clear c35
            try clear c35b0
            try clear c35b1
            try clear c36
            try clear c36b0
            try clear c36b1
            try clear c45
            try clear hx218_0
            try clear p2
            try clear p21
            try clear p218
            try clear p6
            try clear q2
            try clear q21
            try clear q218
            obtain ⟨x18_3, x19_3, rfl, rfl, HA, HK3, HO_7, HO_8, HO_12, HB⟩ := hrel
            cases gk with
            | zero => exact absurd HA.out (by simp [laws_FnSwapped.l1])
            | succ k3 =>
             have H := HA.out
             clear HA
             simp only [laws_FnSwapped.l1] at H
             by_cases c46 : x19_3 < (t226.length : Int)
             ·rw [if_pos c46] at H
              have c46b0 : decide (x19_3 < (t226.length : Int)) = true := decide_eq_true c46
              clear c46
              have HC47 := Aside0.mk H
              clear H
              obtain ⟨Ao48, co48, eo48⟩ := Kd.S_slice HO_12.out
              subst eo48
              go_upto_region 22 with (fail)
              repeat (go_quiet (fail); go_upto_region 22 with (fail))
              go_cut [139] (fun v139 wc => ∃ (kq : Nat) (x139_46 : Bool), v139 = .bool x139_46 ∧ Aside0 (laws_FnSwapped.j3 kq t205 x7_1 x8_1 t226 t232 x18_3 x19_3 x139_46 = some r) ∧ Aside0 (kq ≤ k3) ∧ Aside0 (Kd.R (Kd.int .i64) 2 wc w.heap.size (fun k_ => some k_ ≠ ((.slice Ao26 x8_1.length co26) : Value).ownBlock) (.slice Ao25 x7_1.length co25) x7_1) ∧ Aside0 (Kd.R (Kd.int .i64) 2 wc w.heap.size (fun k_ => some k_ ≠ ((.slice Ao25 x7_1.length co25) : Value).ownBlock) (.slice Ao26 x8_1.length co26) x8_1) ∧ Aside0 (Kd.S (Kd.slice 2 (Kd.int .i64)) 25 wc w.heap.size (fun k_ => some k_ ≠ ((.slice Ao25 x7_1.length co25) : Value).ownBlock ∧ some k_ ≠ ((.slice Ao26 x8_1.length co26) : Value).ownBlock) (.slice Ao48 t226.length co48) t226) ∧ Aside0 (Below w.heap.size w wc))
              case first =>
               as_aux_lemma =>
                have H := HC47.out
                clear HC47
                by_cases c49 : 0 ≤ x19_3
                ·rw [if_pos c49] at H
                 have c49b0 : decide (0 ≤ x19_3) = true := decide_eq_true c49
                 clear c49
                 (first | rw [c49b0] | (simp only [i64_w, i32_w]; rw [c49b0]) | skip)
                 by_cases c50 : ((rd_L2 t226 x19_3).length : Int) < 2
                 ·rw [if_pos c50] at H
                  have c50b0 : decide (((rd_L2 t226 x19_3).length : Int) < 2) = true := decide_eq_true c50
                  have c50b1 : decide ((rd_L2 t226 x19_3).length < 2) = true := decide_eq_true (by omega)
                  clear c50
                  have H' := Aside0.mk H
                  clear H
                  have p235 : 0 ≤ (x19_3 : Int) := of_decide_eq_true (by first | (with_reducible assumption) | assumption)
                  have q235 : x19_3 < (t226.length : Int) := of_decide_eq_true (by first | (with_reducible assumption) | assumption)
                  obtain ⟨ad235, A235_0, c235_0, e235, hx235_0, hl235_0, hi235_0⟩ := at_L2 (Kd.S_reads' HO_12.out).2.2 x19_3 p235 q235
                  cases e235
                  obtain ⟨ce235, hce235, hMe235, hcc235⟩ := Kd.S_get HO_12.out [] x19_3 p235 (by first | exact q235 | exact of_decide_eq_true (by first | (with_reducible assumption) | assumption) | (have e_ := (Kd.S_reads' HO_12.out).1; omega))
                  obtain ⟨ve235_0, rfl, ge235_0⟩ := hMe235
                  have hv235_0 := hcc235 0 _ rfl
                  rw [Nat.add_zero, show ((Kd.slice 2 (Kd.int .i64))).sz = 1 from rfl, Nat.mul_one] at hv235_0
                  replace hv235_0 := Option.some.inj (hv235_0.symm.trans hx235_0)
                  rw [hv235_0] at ge235_0
                  have HL235_0 := Aside0.mk (show Kd.R (Kd.int .i64) 2 _ _ _ _ (rd_L2 t226 x19_3) from ge235_0)
                  clear hv235_0 ge235_0
                  clear hcc235 hce235
                  have HR235_0 := Aside0.mk hi235_0
                  have HC235_0 := Aside0.mk hl235_0
                  clear hi235_0 hl235_0
                  replace p235 := eq_true p235
                  replace q235 := eq_true q235
                  go_wp2
                  repeat (go_quiet (fail); try go_wp2)
                  go_meet
                  case rel => exact ⟨_, (true), (by first | rfl | (simp; done) | (simp [*]; done)), H', ⟨by have := HK1.out; have := HJ23.out; have := HK3.out; first | omega | exact Nat.le_refl _⟩, ⟨by (with_reducible repeat (first | apply Kd.R_alloc | apply Kd.R_drewN | apply Kd.R_drew)); exact HO_7.out⟩, ⟨by (with_reducible repeat (first | apply Kd.R_alloc | apply Kd.R_drewN | apply Kd.R_drew)); exact HO_8.out⟩, ⟨by (with_reducible repeat (first | apply Kd.S_alloc | apply Kd.S_drewN | apply Kd.S_drew)); exact HO_12.out⟩, ⟨by repeat (first | (with_reducible first | exact HB.out | apply below_alloc | apply pw_below_drewN | apply below_drew1) | exact HB.out)⟩⟩
                 ·rw [if_neg c50] at H
                  have c50b0 : decide (((rd_L2 t226 x19_3).length : Int) < 2) = false := decide_eq_false c50
                  have c50b1 : decide ((rd_L2 t226 x19_3).length < 2) = false := decide_eq_false (by omega)
                  clear c50
                  by_cases c51 : x19_3 > 0
                  ·rw [if_pos c51] at H
                   have c51b0 : decide (0 < x19_3) = true := decide_eq_true c51
                   clear c51
                   by_cases c52 : 0 < ((rd_L2 t226 x19_3).length : Int)
                   ·rw [if_pos c52] at H
                    have c52b0 : decide (0 < ((rd_L2 t226 x19_3).length : Int)) = true := decide_eq_true c52
                    have c52b1 : decide (0 < (rd_L2 t226 x19_3).length) = true := decide_eq_true (by omega)
                    clear c52
                    obtain ⟨ji53, hji53⟩ : ∃ j_ : Int, (wrap64 (x19_3 - 1)) = j_ := ⟨_, rfl⟩
                    replace H : (if 0 ≤ (ji53) then (if (ji53) < (t226.length : Int) then (if 0 < ((rd_L2 t226 (ji53)).length : Int) then (laws_FnSwapped.j3 k3 t205 x7_1 x8_1 t226 t232 x18_3 x19_3 (decide ((rd (rd_L2 t226 x19_3) 0) ≤ (rd (rd_L2 t226 (ji53)) 0)))) else (none)) else (none)) else (none)) = some r := by first | (rw [hji53] at H; exact H) | (simp only [hji53] at H ⊢; exact H)
                    have hji53w : (IntKind.i64.wrap (x19_3 - 1)) = ji53 := (i64_w _).trans hji53
                    by_cases c54 : 0 ≤ (ji53)
                    ·rw [if_pos c54] at H
                     have c54b0 : decide (0 ≤ (ji53)) = true := decide_eq_true c54
                     clear c54
                     by_cases c55 : (ji53) < (t226.length : Int)
                     ·rw [if_pos c55] at H
                      have c55b0 : decide ((ji53) < (t226.length : Int)) = true := decide_eq_true c55
                      clear c55
                      by_cases c56 : 0 < ((rd_L2 t226 (ji53)).length : Int)
                      ·rw [if_pos c56] at H
                       have c56b0 : decide (0 < ((rd_L2 t226 (ji53)).length : Int)) = true := decide_eq_true c56
                       have c56b1 : decide (0 < (rd_L2 t226 (ji53)).length) = true := decide_eq_true (by omega)
                       clear c56
                       have H' := Aside0.mk H
                       clear H
                       have p235 : 0 ≤ (x19_3 : Int) := of_decide_eq_true (by first | (with_reducible assumption) | assumption)
                       have q235 : x19_3 < (t226.length : Int) := of_decide_eq_true (by first | (with_reducible assumption) | assumption)
                       obtain ⟨ad235, A235_0, c235_0, e235, hx235_0, hl235_0, hi235_0⟩ := at_L2 (Kd.S_reads' HO_12.out).2.2 x19_3 p235 q235
                       cases e235
                       obtain ⟨ce235, hce235, hMe235, hcc235⟩ := Kd.S_get HO_12.out [] x19_3 p235 (by first | exact q235 | exact of_decide_eq_true (by first | (with_reducible assumption) | assumption) | (have e_ := (Kd.S_reads' HO_12.out).1; omega))
                       obtain ⟨ve235_0, rfl, ge235_0⟩ := hMe235
                       have hv235_0 := hcc235 0 _ rfl
                       rw [Nat.add_zero, show ((Kd.slice 2 (Kd.int .i64))).sz = 1 from rfl, Nat.mul_one] at hv235_0
                       replace hv235_0 := Option.some.inj (hv235_0.symm.trans hx235_0)
                       rw [hv235_0] at ge235_0
                       have HL235_0 := Aside0.mk (show Kd.R (Kd.int .i64) 2 _ _ _ _ (rd_L2 t226 x19_3) from ge235_0)
                       clear hv235_0 ge235_0
                       clear hcc235 hce235
                       have HR235_0 := Aside0.mk hi235_0
                       have HC235_0 := Aside0.mk hl235_0
                       clear hi235_0 hl235_0
                       replace p235 := eq_true p235
                       replace q235 := eq_true q235
                       have p236 : 0 ≤ (x19_3 : Int) := of_decide_eq_true (by first | (with_reducible assumption) | assumption)
                       have q236 : x19_3 < (t226.length : Int) := of_decide_eq_true (by first | (with_reducible assumption) | assumption)
                       obtain ⟨ad236, A236_0, c236_0, e236, hx236_0, hl236_0, hi236_0⟩ := at_L2 (Kd.S_reads' HO_12.out).2.2 x19_3 p236 q236
                       obtain rfl : ad235 = ad236 := (by injection e236)
                       obtain ⟨ce236, hce236, hMe236, hcc236⟩ := Kd.S_get HO_12.out [] x19_3 p236 (by first | exact q236 | exact of_decide_eq_true (by first | (with_reducible assumption) | assumption) | (have e_ := (Kd.S_reads' HO_12.out).1; omega))
                       obtain ⟨ve236_0, rfl, ge236_0⟩ := hMe236
                       have hv236_0 := hcc236 0 _ rfl
                       rw [Nat.add_zero, show ((Kd.slice 2 (Kd.int .i64))).sz = 1 from rfl, Nat.mul_one] at hv236_0
                       replace hv236_0 := Option.some.inj (hv236_0.symm.trans hx236_0)
                       rw [hv236_0] at ge236_0
                       have HL236_0 := Aside0.mk (show Kd.R (Kd.int .i64) 2 _ _ _ _ (rd_L2 t226 x19_3) from ge236_0)
                       clear hv236_0 ge236_0
                       clear hcc236 hce236
                       have HR236_0 := Aside0.mk hi236_0
                       have HC236_0 := Aside0.mk hl236_0
                       clear hi236_0 hl236_0
                       replace p236 := eq_true p236
                       replace q236 := eq_true q236
                       have ea_ := Option.some.inj (hx235_0.symm.trans hx236_0)
                       injection ea_ with ea_ en_ ec_
                       subst ea_
                       subst ec_
                       clear en_
                       have p237 : 0 ≤ (0 : Int) := (by omega)
                       have q237 : 0 < ((rd_L2 t226 x19_3).length : Int) := of_decide_eq_true (by first | (with_reducible assumption) | assumption)
                       obtain ⟨ad237, e237, hx237_0⟩ := Kd.at_int (by repeat (first | (with_reducible exact HR236_0.out) | (with_reducible refine Kd.C_alloc ?_ _) | (with_reducible refine Kd.C_drewN ?_ _) | (with_reducible refine Kd.C_drew ?_) | exact HR236_0.out)) 0 p237 q237
                       cases e237
                       have qi237 : (0 < (rd_L2 t226 x19_3).length) = True := eq_true (by omega)
                       (try rw [show ((0 : Int)).toNat = 0 from rfl] at hx237_0)
                       (try rw [Addr.add_zero'] at hx237_0)
                       replace p237 := eq_true p237
                       replace q237 := eq_true q237
                       have p238 : 0 ≤ ((ji53) : Int) := of_decide_eq_true (by first | (with_reducible assumption) | assumption)
                       have q238 : (ji53) < (t226.length : Int) := of_decide_eq_true (by first | (with_reducible assumption) | assumption)
                       obtain ⟨ad238, A238_0, c238_0, e238, hx238_0, hl238_0, hi238_0⟩ := at_L2 (Kd.S_reads' HO_12.out).2.2 (ji53) p238 q238
                       obtain rfl : ad235 = ad238 := (by injection e238)
                       obtain ⟨ce238, hce238, hMe238, hcc238⟩ := Kd.S_get HO_12.out [] (ji53) p238 (by first | exact q238 | exact of_decide_eq_true (by first | (with_reducible assumption) | assumption) | (have e_ := (Kd.S_reads' HO_12.out).1; omega))
                       obtain ⟨ve238_0, rfl, ge238_0⟩ := hMe238
                       have hv238_0 := hcc238 0 _ rfl
                       rw [Nat.add_zero, show ((Kd.slice 2 (Kd.int .i64))).sz = 1 from rfl, Nat.mul_one] at hv238_0
                       replace hv238_0 := Option.some.inj (hv238_0.symm.trans hx238_0)
                       rw [hv238_0] at ge238_0
                       have HL238_0 := Aside0.mk (show Kd.R (Kd.int .i64) 2 _ _ _ _ (rd_L2 t226 (ji53)) from ge238_0)
                       clear hv238_0 ge238_0
                       clear hcc238 hce238
                       have HR238_0 := Aside0.mk hi238_0
                       have HC238_0 := Aside0.mk hl238_0
                       clear hi238_0 hl238_0
                       replace p238 := eq_true p238
                       replace q238 := eq_true q238
                       have p239 : 0 ≤ (0 : Int) := (by omega)
                       have q239 : 0 < ((rd_L2 t226 (ji53)).length : Int) := of_decide_eq_true (by first | (with_reducible assumption) | assumption)
                       obtain ⟨ad239, e239, hx239_0⟩ := Kd.at_int (by repeat (first | (with_reducible exact HR238_0.out) | (with_reducible refine Kd.C_alloc ?_ _) | (with_reducible refine Kd.C_drewN ?_ _) | (with_reducible refine Kd.C_drew ?_) | exact HR238_0.out)) 0 p239 q239
                       cases e239
                       have qi239 : (0 < (rd_L2 t226 (ji53)).length) = True := eq_true (by omega)
                       (try rw [show ((0 : Int)).toNat = 0 from rfl] at hx239_0)
                       (try rw [Addr.add_zero'] at hx239_0)
                       replace p239 := eq_true p239
                       replace q239 := eq_true q239
                       go_wp2
                       repeat (go_quiet (fail); try go_wp2)
                       go_meet
                       case rel => exact ⟨_, (decide ((rd (rd_L2 t226 x19_3) 0) ≤ (rd (rd_L2 t226 (ji53)) 0))), (by first | rfl | (simp; done) | (simp only [← hji53] <;> (first | rfl | simp)) | (simp [*]; done)), H', ⟨by have := HK1.out; have := HJ23.out; have := HK3.out; first | omega | exact Nat.le_refl _⟩, ⟨by (with_reducible repeat (first | apply Kd.R_alloc | apply Kd.R_drewN | apply Kd.R_drew)); exact HO_7.out⟩, ⟨by (with_reducible repeat (first | apply Kd.R_alloc | apply Kd.R_drewN | apply Kd.R_drew)); exact HO_8.out⟩, ⟨by (with_reducible repeat (first | apply Kd.S_alloc | apply Kd.S_drewN | apply Kd.S_drew)); exact HO_12.out⟩, ⟨by repeat (first | (with_reducible first | exact HB.out | apply below_alloc | apply pw_below_drewN | apply below_drew1) | exact HB.out)⟩⟩
                      ·rw [if_neg c56] at H
                       exact absurd H (by simp)
                     ·rw [if_neg c55] at H
                      exact absurd H (by simp)
                    ·rw [if_neg c54] at H
                     exact absurd H (by simp)
                   ·rw [if_neg c52] at H
                    exact absurd H (by simp)
                  ·rw [if_neg c51] at H
                   have c51b0 : decide (0 < x19_3) = false := decide_eq_false c51
                   clear c51
                   have H' := Aside0.mk H
                   clear H
                   have p235 : 0 ≤ (x19_3 : Int) := of_decide_eq_true (by first | (with_reducible assumption) | assumption)
                   have q235 : x19_3 < (t226.length : Int) := of_decide_eq_true (by first | (with_reducible assumption) | assumption)
                   obtain ⟨ad235, A235_0, c235_0, e235, hx235_0, hl235_0, hi235_0⟩ := at_L2 (Kd.S_reads' HO_12.out).2.2 x19_3 p235 q235
                   cases e235
                   obtain ⟨ce235, hce235, hMe235, hcc235⟩ := Kd.S_get HO_12.out [] x19_3 p235 (by first | exact q235 | exact of_decide_eq_true (by first | (with_reducible assumption) | assumption) | (have e_ := (Kd.S_reads' HO_12.out).1; omega))
                   obtain ⟨ve235_0, rfl, ge235_0⟩ := hMe235
                   have hv235_0 := hcc235 0 _ rfl
                   rw [Nat.add_zero, show ((Kd.slice 2 (Kd.int .i64))).sz = 1 from rfl, Nat.mul_one] at hv235_0
                   replace hv235_0 := Option.some.inj (hv235_0.symm.trans hx235_0)
                   rw [hv235_0] at ge235_0
                   have HL235_0 := Aside0.mk (show Kd.R (Kd.int .i64) 2 _ _ _ _ (rd_L2 t226 x19_3) from ge235_0)
                   clear hv235_0 ge235_0
                   clear hcc235 hce235
                   have HR235_0 := Aside0.mk hi235_0
                   have HC235_0 := Aside0.mk hl235_0
                   clear hi235_0 hl235_0
                   replace p235 := eq_true p235
                   replace q235 := eq_true q235
                   go_wp2
                   repeat (go_quiet (fail); try go_wp2)
                   go_meet
                   case rel => exact ⟨_, (false), (by first | rfl | (simp; done) | (simp [*]; done)), H', ⟨by have := HK1.out; have := HJ23.out; have := HK3.out; first | omega | exact Nat.le_refl _⟩, ⟨by (with_reducible repeat (first | apply Kd.R_alloc | apply Kd.R_drewN | apply Kd.R_drew)); exact HO_7.out⟩, ⟨by (with_reducible repeat (first | apply Kd.R_alloc | apply Kd.R_drewN | apply Kd.R_drew)); exact HO_8.out⟩, ⟨by (with_reducible repeat (first | apply Kd.S_alloc | apply Kd.S_drewN | apply Kd.S_drew)); exact HO_12.out⟩, ⟨by repeat (first | (with_reducible first | exact HB.out | apply below_alloc | apply pw_below_drewN | apply below_drew1) | exact HB.out)⟩⟩
                ·rw [if_neg c49] at H
                 exact absurd H (by simp)
              case rest =>
               as_aux_lemma =>
                clear HC47
                try clear c1
                try clear c2
                try clear p2
                try clear q2
                try clear hx2
                try clear qi2
                try clear c3
                try clear c4
                try clear c5
                try clear p6
                try clear c12
                try clear c12b0
                try clear c13
                try clear c14
                try clear c14b0
                try clear c15
                try clear c15b0
                try clear c16
                try clear p21
                try clear q21
                try clear hx21
                try clear c23
                try clear p23
                try clear q23
                try clear hx23
                try clear qi23
                try clear c31
                try clear c31b0
                try clear c31b1
                try clear c32
                try clear c32b0
                try clear c32b1
                try clear c34
                try clear c35
                try clear c35b0
                try clear c35b1
                try clear c36
                try clear c36b0
                try clear c36b1
                try clear c45
                try clear c46
                try clear c46b0
                try clear c49
                try clear c49b0
                try clear c50
                try clear c50b0
                try clear c50b1
                try clear c51
                try clear c51b0
                try clear c52
                try clear c52b0
                try clear c52b1
                try clear c54
                try clear c54b0
                try clear c55
                try clear c55b0
                try clear c56
                try clear c56b0
                try clear c56b1
                try clear hx218_0
                try clear hx235_0
                try clear hx236_0
                try clear hx237_0
                try clear hx238_0
                try clear hx239_0
                try clear p2
                try clear p21
                try clear p218
                try clear p235
                try clear p236
                try clear p237
                try clear p238
                try clear p239
                try clear p6
                try clear q2
                try clear q21
                try clear q218
                try clear q235
                try clear q236
                try clear q237
                try clear q238
                try clear q239
                obtain ⟨kq, x139_46, rfl, HA, HJ46, HO_7, HO_8, HO_12, HB⟩ := hcut
                cases kq with
                | zero => exact absurd HA.out (by simp [laws_FnSwapped.j3])
                | succ kj46 =>
                 have H := HA.out
                 clear HA
                 simp only [laws_FnSwapped.j3] at H
                 by_cases c57 : x139_46 = true
                 ·subst c57
                  have H1 : (some false) = some r := by rw [if_pos rfl] at H; exact H
                  clear H
                  have H := H1
                  clear H1
                  obtain rfl := Option.some.inj H
                  go_wp2
                  repeat (go_quiet (fail); try go_wp2)
                  go_ret
                  exact ⟨by first | rfl | (simp [errW_none, errW_some] <;> rfl) | (simp [*, errW_none, errW_some] <;> rfl), by repeat (first | (with_reducible first | exact HB.out | apply below_alloc | apply pw_below_drewN | apply below_drew1) | exact HB.out)⟩
                 ·replace c57 := Bool.eq_false_iff.mpr c57
                  subst c57
                  have H1 : (laws_FnSwapped.l2 kj46 t205 x7_1 x8_1 t226 t232 x18_3 x19_3 0) = some r := by rw [if_neg (show ¬ (false = true) by decide)] at H; exact H
                  clear H
                  have H := H1
                  clear H1
                  have H' := Aside0.mk H
                  clear H
                  go_wp2
                  repeat (go_quiet (fail); try go_wp2)
                  go_loopg [20] kj46 (fun kq v20 w' => ∃ (x20_5 : Int), v20 = .int .i64 x20_5 ∧ Aside0 (laws_FnSwapped.l2 kq t205 x7_1 x8_1 t226 t232 x18_3 x19_3 x20_5 = some r) ∧ Aside0 (kq ≤ kj46) ∧ Aside0 (Kd.R (Kd.int .i64) 2 w' w.heap.size (fun k_ => some k_ ≠ ((.slice Ao26 x8_1.length co26) : Value).ownBlock) (.slice Ao25 x7_1.length co25) x7_1) ∧ Aside0 (Kd.R (Kd.int .i64) 2 w' w.heap.size (fun k_ => some k_ ≠ ((.slice Ao25 x7_1.length co25) : Value).ownBlock) (.slice Ao26 x8_1.length co26) x8_1) ∧ Aside0 (Kd.S (Kd.slice 2 (Kd.int .i64)) 25 w' w.heap.size (fun k_ => some k_ ≠ ((.slice Ao25 x7_1.length co25) : Value).ownBlock ∧ some k_ ≠ ((.slice Ao26 x8_1.length co26) : Value).ownBlock) (.slice Ao48 t226.length co48) t226) ∧ Aside0 (Below w.heap.size w w'))
                  case atStart => exact ⟨(0), (by first | rfl | (simp; done) | (simp [*]; done)), H', ⟨Nat.le_refl _⟩, ⟨by (with_reducible repeat (first | apply Kd.R_alloc | apply Kd.R_drewN | apply Kd.R_drew)); exact HO_7.out⟩, ⟨by (with_reducible repeat (first | apply Kd.R_alloc | apply Kd.R_drewN | apply Kd.R_drew)); exact HO_8.out⟩, ⟨by (with_reducible repeat (first | apply Kd.S_alloc | apply Kd.S_drewN | apply Kd.S_drew)); exact HO_12.out⟩, ⟨by repeat (first | (with_reducible first | exact HB.out | apply below_alloc | apply pw_below_drewN | apply below_drew1) | exact HB.out)⟩⟩
                  case round =>
                   as_aux_lemma =>
                    clear H'
                    try clear c1
                    try clear c2
                    try clear p2
                    try clear q2
                    try clear hx2
                    try clear qi2
                    try clear c3
                    try clear c4
                    try clear c5
                    try clear p6
                    try clear c12
                    try clear c12b0
                    try clear c13
                    try clear c14
                    try clear c14b0
                    try clear c15
                    try clear c15b0
                    try clear c16
                    try clear p21
                    try clear q21
                    try clear hx21
                    try clear c23
                    try clear p23
                    try clear q23
                    try clear hx23
                    try clear qi23
                    try clear c31
                    try clear c31b0
                    try clear c31b1
                    try clear c32
                    try clear c32b0
                    try clear c32b1
                    try clear c34
                    try clear c35
                    try clear c35b0
                    try clear c35b1
                    try clear c36
                    try clear c36b0
                    try clear c36b1
                    try clear c45
                    try clear c46
                    try clear c46b0
                    try clear c49
                    try clear c49b0
                    try clear c50
                    try clear c50b0
                    try clear c50b1
                    try clear c51
                    try clear c51b0
                    try clear c52
                    try clear c52b0
                    try clear c52b1
                    try clear c54
                    try clear c54b0
                    try clear c55
                    try clear c55b0
                    try clear c56
                    try clear c56b0
                    try clear c56b1
                    try clear c57
                    try clear hx218_0
                    try clear hx235_0
                    try clear hx236_0
                    try clear hx237_0
                    try clear hx238_0
                    try clear hx239_0
                    try clear p2
                    try clear p21
                    try clear p218
                    try clear p23
                    try clear p235
                    try clear p236
                    try clear p237
                    try clear p238
                    try clear p239
                    try clear p6
                    try clear q2
                    try clear q21
                    try clear q218
                    try clear q23
                    try clear q235
                    try clear q236
                    try clear q237
                    try clear q238
                    try clear q239
                    obtain ⟨x20_5, rfl, HA, HK5, HO_7, HO_8, HO_12, HB⟩ := hrel
                    cases gk with
                    | zero => exact absurd HA.out (by simp [laws_FnSwapped.l2])
                    | succ k5 =>
                     have H := HA.out
                     clear HA
                     simp only [laws_FnSwapped.l2] at H
                     by_cases c58 : 0 ≤ x19_3
                     ·rw [if_pos c58] at H
                      have c58b0 : decide (0 ≤ x19_3) = true := decide_eq_true c58
                      clear c58
                      by_cases c59 : x19_3 < (t226.length : Int)
                      ·rw [if_pos c59] at H
                       have c59b0 : decide (x19_3 < (t226.length : Int)) = true := decide_eq_true c59
                       clear c59
                       by_cases c60 : x20_5 < ((rd_L2 t226 x19_3).length : Int)
                       ·rw [if_pos c60] at H
                        have c60b0 : decide (x20_5 < ((rd_L2 t226 x19_3).length : Int)) = true := decide_eq_true c60
                        clear c60
                        by_cases c61 : ((rd_L2 t226 x19_3).length : Int) = 0
                        ·rw [if_pos c61] at H
                         exact absurd H (by simp)
                        ·rw [if_neg c61] at H
                         have c61b0 : (((rd_L2 t226 x19_3).length : Int) == 0) = false := beq_eq_false_iff_ne.mpr c61
                         have c61b1 : (((rd_L2 t226 x19_3).length : Int) != 0) = true := bne_iff_ne.mpr c61
                         have c61b2 : ¬ ((rd_L2 t226 x19_3) = []) := fun h_ => c61 (by rw [h_]; rfl)
                         obtain ⟨ji62, hji62⟩ : ∃ j_ : Int, (Int.tmod (wrap64 (x20_5 + 1)) ((rd_L2 t226 x19_3).length : Int)) = j_ := ⟨_, rfl⟩
                         replace H : (if 0 ≤ (ji62) then (if (ji62) < ((rd_L2 t226 x19_3).length : Int) then (if 0 ≤ x20_5 then (if 0 ≤ (rd (rd_L2 t226 x19_3) x20_5) then (if (rd (rd_L2 t226 x19_3) x20_5) < (x8_1.length : Int) then (if 0 ≤ (rd (rd_L2 t226 x19_3) (ji62)) then (if (rd (rd_L2 t226 x19_3) (ji62)) < (x7_1.length : Int) then (if (rd x8_1 (rd (rd_L2 t226 x19_3) x20_5)) = (rd x7_1 (rd (rd_L2 t226 x19_3) (ji62))) then (if 0 < ((rd_L2 t226 x19_3).length : Int) then (if (rd (rd_L2 t226 x19_3) x20_5) < (rd (rd_L2 t226 x19_3) 0) then (some false) else (laws_FnSwapped.l2 k5 t205 x7_1 x8_1 t226 t232 x18_3 x19_3 (wrap64 (x20_5 + 1)))) else (none)) else (some false)) else (none)) else (none)) else (none)) else (none)) else (none)) else (none)) else (none)) = some r := by first | (rw [hji62] at H; exact H) | (simp only [hji62] at H ⊢; exact H)
                         by_cases c63 : 0 ≤ (ji62)
                         ·rw [if_pos c63] at H
                          have c63b0 : decide (0 ≤ (ji62)) = true := decide_eq_true c63
                          clear c63
                          by_cases c64 : (ji62) < ((rd_L2 t226 x19_3).length : Int)
                          ·rw [if_pos c64] at H
                           have c64b0 : decide ((ji62) < ((rd_L2 t226 x19_3).length : Int)) = true := decide_eq_true c64
                           clear c64
                           by_cases c65 : 0 ≤ x20_5
                           ·rw [if_pos c65] at H
                            have c65b0 : decide (0 ≤ x20_5) = true := decide_eq_true c65
                            clear c65
                            by_cases c66 : 0 ≤ (rd (rd_L2 t226 x19_3) x20_5)
                            ·rw [if_pos c66] at H
                             have c66b0 : decide (0 ≤ (rd (rd_L2 t226 x19_3) x20_5)) = true := decide_eq_true c66
                             clear c66
                             by_cases c67 : (rd (rd_L2 t226 x19_3) x20_5) < (x8_1.length : Int)
                             ·rw [if_pos c67] at H
                              have c67b0 : decide ((rd (rd_L2 t226 x19_3) x20_5) < (x8_1.length : Int)) = true := decide_eq_true c67
                              clear c67
                              by_cases c68 : 0 ≤ (rd (rd_L2 t226 x19_3) (ji62))
                              ·rw [if_pos c68] at H
                               have c68b0 : decide (0 ≤ (rd (rd_L2 t226 x19_3) (ji62))) = true := decide_eq_true c68
                               clear c68
                               by_cases c69 : (rd (rd_L2 t226 x19_3) (ji62)) < (x7_1.length : Int)
                               ·rw [if_pos c69] at H
                                have c69b0 : decide ((rd (rd_L2 t226 x19_3) (ji62)) < (x7_1.length : Int)) = true := decide_eq_true c69
                                clear c69
                                by_cases c70 : (rd x8_1 (rd (rd_L2 t226 x19_3) x20_5)) = (rd x7_1 (rd (rd_L2 t226 x19_3) (ji62)))
                                ·rw [if_pos c70] at H
                                 have c70b0 : ((rd x8_1 (rd (rd_L2 t226 x19_3) x20_5)) == (rd x7_1 (rd (rd_L2 t226 x19_3) (ji62)))) = true := beq_iff_eq.mpr c70
                                 have c70b1 : ((rd x8_1 (rd (rd_L2 t226 x19_3) x20_5)) != (rd x7_1 (rd (rd_L2 t226 x19_3) (ji62)))) = false := bne_eq_false_iff_eq.mpr c70
                                 clear c70
                                 by_cases c71 : 0 < ((rd_L2 t226 x19_3).length : Int)
                                 ·rw [if_pos c71] at H
                                  have c71b0 : decide (0 < ((rd_L2 t226 x19_3).length : Int)) = true := decide_eq_true c71
                                  have c71b1 : decide (0 < (rd_L2 t226 x19_3).length) = true := decide_eq_true (by omega)
                                  clear c71
                                  by_cases c72 : (rd (rd_L2 t226 x19_3) x20_5) < (rd (rd_L2 t226 x19_3) 0)
                                  ·rw [if_pos c72] at H
                                   have c72b0 : decide ((rd (rd_L2 t226 x19_3) x20_5) < (rd (rd_L2 t226 x19_3) 0)) = true := decide_eq_true c72
                                   clear c72
                                   obtain rfl := Option.some.inj H
                                   have p240 : 0 ≤ (x19_3 : Int) := of_decide_eq_true (by first | (with_reducible assumption) | assumption)
                                   have q240 : x19_3 < (t226.length : Int) := of_decide_eq_true (by first | (with_reducible assumption) | assumption)
                                   obtain ⟨ad240, A240_0, c240_0, e240, hx240_0, hl240_0, hi240_0⟩ := at_L2 (Kd.S_reads' HO_12.out).2.2 x19_3 p240 q240
                                   cases e240
                                   obtain ⟨ce240, hce240, hMe240, hcc240⟩ := Kd.S_get HO_12.out [] x19_3 p240 (by first | exact q240 | exact of_decide_eq_true (by first | (with_reducible assumption) | assumption) | (have e_ := (Kd.S_reads' HO_12.out).1; omega))
                                   obtain ⟨ve240_0, rfl, ge240_0⟩ := hMe240
                                   have hv240_0 := hcc240 0 _ rfl
                                   rw [Nat.add_zero, show ((Kd.slice 2 (Kd.int .i64))).sz = 1 from rfl, Nat.mul_one] at hv240_0
                                   replace hv240_0 := Option.some.inj (hv240_0.symm.trans hx240_0)
                                   rw [hv240_0] at ge240_0
                                   have HL240_0 := Aside0.mk (show Kd.R (Kd.int .i64) 2 _ _ _ _ (rd_L2 t226 x19_3) from ge240_0)
                                   clear hv240_0 ge240_0
                                   clear hcc240 hce240
                                   have HR240_0 := Aside0.mk hi240_0
                                   have HC240_0 := Aside0.mk hl240_0
                                   clear hi240_0 hl240_0
                                   replace p240 := eq_true p240
                                   replace q240 := eq_true q240
                                   have p241 : 0 ≤ (x19_3 : Int) := of_decide_eq_true (by first | (with_reducible assumption) | assumption)
                                   have q241 : x19_3 < (t226.length : Int) := of_decide_eq_true (by first | (with_reducible assumption) | assumption)
                                   obtain ⟨ad241, A241_0, c241_0, e241, hx241_0, hl241_0, hi241_0⟩ := at_L2 (Kd.S_reads' HO_12.out).2.2 x19_3 p241 q241
                                   obtain rfl : ad240 = ad241 := (by injection e241)
                                   obtain ⟨ce241, hce241, hMe241, hcc241⟩ := Kd.S_get HO_12.out [] x19_3 p241 (by first | exact q241 | exact of_decide_eq_true (by first | (with_reducible assumption) | assumption) | (have e_ := (Kd.S_reads' HO_12.out).1; omega))
                                   obtain ⟨ve241_0, rfl, ge241_0⟩ := hMe241
                                   have hv241_0 := hcc241 0 _ rfl
                                   rw [Nat.add_zero, show ((Kd.slice 2 (Kd.int .i64))).sz = 1 from rfl, Nat.mul_one] at hv241_0
                                   replace hv241_0 := Option.some.inj (hv241_0.symm.trans hx241_0)
                                   rw [hv241_0] at ge241_0
                                   have HL241_0 := Aside0.mk (show Kd.R (Kd.int .i64) 2 _ _ _ _ (rd_L2 t226 x19_3) from ge241_0)
                                   clear hv241_0 ge241_0
                                   clear hcc241 hce241
                                   have HR241_0 := Aside0.mk hi241_0
                                   have HC241_0 := Aside0.mk hl241_0
                                   clear hi241_0 hl241_0
                                   replace p241 := eq_true p241
                                   replace q241 := eq_true q241
                                   have ea_ := Option.some.inj (hx240_0.symm.trans hx241_0)
                                   injection ea_ with ea_ en_ ec_
                                   subst ea_
                                   subst ec_
                                   clear en_
                                   have p242 : 0 ≤ (x19_3 : Int) := of_decide_eq_true (by first | (with_reducible assumption) | assumption)
                                   have q242 : x19_3 < (t226.length : Int) := of_decide_eq_true (by first | (with_reducible assumption) | assumption)
                                   obtain ⟨ad242, A242_0, c242_0, e242, hx242_0, hl242_0, hi242_0⟩ := at_L2 (Kd.S_reads' HO_12.out).2.2 x19_3 p242 q242
                                   obtain rfl : ad240 = ad242 := (by injection e242)
                                   obtain ⟨ce242, hce242, hMe242, hcc242⟩ := Kd.S_get HO_12.out [] x19_3 p242 (by first | exact q242 | exact of_decide_eq_true (by first | (with_reducible assumption) | assumption) | (have e_ := (Kd.S_reads' HO_12.out).1; omega))
                                   obtain ⟨ve242_0, rfl, ge242_0⟩ := hMe242
                                   have hv242_0 := hcc242 0 _ rfl
                                   rw [Nat.add_zero, show ((Kd.slice 2 (Kd.int .i64))).sz = 1 from rfl, Nat.mul_one] at hv242_0
                                   replace hv242_0 := Option.some.inj (hv242_0.symm.trans hx242_0)
                                   rw [hv242_0] at ge242_0
                                   have HL242_0 := Aside0.mk (show Kd.R (Kd.int .i64) 2 _ _ _ _ (rd_L2 t226 x19_3) from ge242_0)
                                   clear hv242_0 ge242_0
                                   clear hcc242 hce242
                                   have HR242_0 := Aside0.mk hi242_0
                                   have HC242_0 := Aside0.mk hl242_0
                                   clear hi242_0 hl242_0
                                   replace p242 := eq_true p242
                                   replace q242 := eq_true q242
                                   have ea_ := Option.some.inj (hx240_0.symm.trans hx242_0)
                                   injection ea_ with ea_ en_ ec_
                                   subst ea_
                                   subst ec_
                                   clear en_
                                   have p243 : 0 ≤ ((ji62) : Int) := of_decide_eq_true (by first | (with_reducible assumption) | assumption)
                                   have q243 : (ji62) < ((rd_L2 t226 x19_3).length : Int) := of_decide_eq_true (by first | (with_reducible assumption) | assumption)
                                   obtain ⟨ad243, e243, hx243_0⟩ := Kd.at_int (by repeat (first | (with_reducible exact HR241_0.out) | (with_reducible refine Kd.C_alloc ?_ _) | (with_reducible refine Kd.C_drewN ?_ _) | (with_reducible refine Kd.C_drew ?_) | exact HR241_0.out)) (ji62) p243 q243
                                   cases e243
                                   replace p243 := eq_true p243
                                   replace q243 := eq_true q243
                                   have p244 : 0 ≤ (x19_3 : Int) := of_decide_eq_true (by first | (with_reducible assumption) | assumption)
                                   have q244 : x19_3 < (t226.length : Int) := of_decide_eq_true (by first | (with_reducible assumption) | assumption)
                                   obtain ⟨ad244, A244_0, c244_0, e244, hx244_0, hl244_0, hi244_0⟩ := at_L2 (Kd.S_reads' HO_12.out).2.2 x19_3 p244 q244
                                   obtain rfl : ad240 = ad244 := (by injection e244)
                                   obtain ⟨ce244, hce244, hMe244, hcc244⟩ := Kd.S_get HO_12.out [] x19_3 p244 (by first | exact q244 | exact of_decide_eq_true (by first | (with_reducible assumption) | assumption) | (have e_ := (Kd.S_reads' HO_12.out).1; omega))
                                   obtain ⟨ve244_0, rfl, ge244_0⟩ := hMe244
                                   have hv244_0 := hcc244 0 _ rfl
                                   rw [Nat.add_zero, show ((Kd.slice 2 (Kd.int .i64))).sz = 1 from rfl, Nat.mul_one] at hv244_0
                                   replace hv244_0 := Option.some.inj (hv244_0.symm.trans hx244_0)
                                   rw [hv244_0] at ge244_0
                                   have HL244_0 := Aside0.mk (show Kd.R (Kd.int .i64) 2 _ _ _ _ (rd_L2 t226 x19_3) from ge244_0)
                                   clear hv244_0 ge244_0
                                   clear hcc244 hce244
                                   have HR244_0 := Aside0.mk hi244_0
                                   have HC244_0 := Aside0.mk hl244_0
                                   clear hi244_0 hl244_0
                                   replace p244 := eq_true p244
                                   replace q244 := eq_true q244
                                   have ea_ := Option.some.inj (hx240_0.symm.trans hx244_0)
                                   injection ea_ with ea_ en_ ec_
                                   subst ea_
                                   subst ec_
                                   clear en_
                                   have p245 : 0 ≤ (x20_5 : Int) := of_decide_eq_true (by first | (with_reducible assumption) | assumption)
                                   have q245 : x20_5 < ((rd_L2 t226 x19_3).length : Int) := of_decide_eq_true (by first | (with_reducible assumption) | assumption)
                                   obtain ⟨ad245, e245, hx245_0⟩ := Kd.at_int (by repeat (first | (with_reducible exact HR244_0.out) | (with_reducible refine Kd.C_alloc ?_ _) | (with_reducible refine Kd.C_drewN ?_ _) | (with_reducible refine Kd.C_drew ?_) | exact HR244_0.out)) x20_5 p245 q245
                                   cases e245
                                   replace p245 := eq_true p245
                                   replace q245 := eq_true q245
                                   have p246 : 0 ≤ ((rd (rd_L2 t226 x19_3) x20_5) : Int) := of_decide_eq_true (by first | (with_reducible assumption) | assumption)
                                   have q246 : (rd (rd_L2 t226 x19_3) x20_5) < (x8_1.length : Int) := of_decide_eq_true (by first | (with_reducible assumption) | assumption)
                                   obtain ⟨ad246, e246, hx246_0⟩ := Kd.at_int (Kd.R_reads' HO_8.out).2.2 (rd (rd_L2 t226 x19_3) x20_5) p246 q246
                                   cases e246
                                   replace p246 := eq_true p246
                                   replace q246 := eq_true q246
                                   have p247 : 0 ≤ ((rd (rd_L2 t226 x19_3) (ji62)) : Int) := of_decide_eq_true (by first | (with_reducible assumption) | assumption)
                                   have q247 : (rd (rd_L2 t226 x19_3) (ji62)) < (x7_1.length : Int) := of_decide_eq_true (by first | (with_reducible assumption) | assumption)
                                   obtain ⟨ad247, e247, hx247_0⟩ := Kd.at_int (Kd.R_reads' HO_7.out).2.2 (rd (rd_L2 t226 x19_3) (ji62)) p247 q247
                                   cases e247
                                   replace p247 := eq_true p247
                                   replace q247 := eq_true q247
                                   have p248 : 0 ≤ (x19_3 : Int) := of_decide_eq_true (by first | (with_reducible assumption) | assumption)
                                   have q248 : x19_3 < (t226.length : Int) := of_decide_eq_true (by first | (with_reducible assumption) | assumption)
                                   obtain ⟨ad248, A248_0, c248_0, e248, hx248_0, hl248_0, hi248_0⟩ := at_L2 (Kd.S_reads' HO_12.out).2.2 x19_3 p248 q248
                                   obtain rfl : ad240 = ad248 := (by injection e248)
                                   obtain ⟨ce248, hce248, hMe248, hcc248⟩ := Kd.S_get HO_12.out [] x19_3 p248 (by first | exact q248 | exact of_decide_eq_true (by first | (with_reducible assumption) | assumption) | (have e_ := (Kd.S_reads' HO_12.out).1; omega))
                                   obtain ⟨ve248_0, rfl, ge248_0⟩ := hMe248
                                   have hv248_0 := hcc248 0 _ rfl
                                   rw [Nat.add_zero, show ((Kd.slice 2 (Kd.int .i64))).sz = 1 from rfl, Nat.mul_one] at hv248_0
                                   replace hv248_0 := Option.some.inj (hv248_0.symm.trans hx248_0)
                                   rw [hv248_0] at ge248_0
                                   have HL248_0 := Aside0.mk (show Kd.R (Kd.int .i64) 2 _ _ _ _ (rd_L2 t226 x19_3) from ge248_0)
                                   clear hv248_0 ge248_0
                                   clear hcc248 hce248
                                   have HR248_0 := Aside0.mk hi248_0
                                   have HC248_0 := Aside0.mk hl248_0
                                   clear hi248_0 hl248_0
                                   replace p248 := eq_true p248
                                   replace q248 := eq_true q248
                                   have ea_ := Option.some.inj (hx240_0.symm.trans hx248_0)
                                   injection ea_ with ea_ en_ ec_
                                   subst ea_
                                   subst ec_
                                   clear en_
                                   have p249 : 0 ≤ (x20_5 : Int) := of_decide_eq_true (by first | (with_reducible assumption) | assumption)
                                   have q249 : x20_5 < ((rd_L2 t226 x19_3).length : Int) := of_decide_eq_true (by first | (with_reducible assumption) | assumption)
                                   obtain ⟨ad249, e249, hx249_0⟩ := Kd.at_int (by repeat (first | (with_reducible exact HR248_0.out) | (with_reducible refine Kd.C_alloc ?_ _) | (with_reducible refine Kd.C_drewN ?_ _) | (with_reducible refine Kd.C_drew ?_) | exact HR248_0.out)) x20_5 p249 q249
                                   cases e249
                                   replace p249 := eq_true p249
                                   replace q249 := eq_true q249
                                   have p250 : 0 ≤ (x19_3 : Int) := of_decide_eq_true (by first | (with_reducible assumption) | assumption)
                                   have q250 : x19_3 < (t226.length : Int) := of_decide_eq_true (by first | (with_reducible assumption) | assumption)
                                   obtain ⟨ad250, A250_0, c250_0, e250, hx250_0, hl250_0, hi250_0⟩ := at_L2 (Kd.S_reads' HO_12.out).2.2 x19_3 p250 q250
                                   obtain rfl : ad240 = ad250 := (by injection e250)
                                   obtain ⟨ce250, hce250, hMe250, hcc250⟩ := Kd.S_get HO_12.out [] x19_3 p250 (by first | exact q250 | exact of_decide_eq_true (by first | (with_reducible assumption) | assumption) | (have e_ := (Kd.S_reads' HO_12.out).1; omega))
                                   obtain ⟨ve250_0, rfl, ge250_0⟩ := hMe250
                                   have hv250_0 := hcc250 0 _ rfl
                                   rw [Nat.add_zero, show ((Kd.slice 2 (Kd.int .i64))).sz = 1 from rfl, Nat.mul_one] at hv250_0
                                   replace hv250_0 := Option.some.inj (hv250_0.symm.trans hx250_0)
                                   rw [hv250_0] at ge250_0
                                   have HL250_0 := Aside0.mk (show Kd.R (Kd.int .i64) 2 _ _ _ _ (rd_L2 t226 x19_3) from ge250_0)
                                   clear hv250_0 ge250_0
                                   clear hcc250 hce250
                                   have HR250_0 := Aside0.mk hi250_0
                                   have HC250_0 := Aside0.mk hl250_0
                                   clear hi250_0 hl250_0
                                   replace p250 := eq_true p250
                                   replace q250 := eq_true q250
                                   have ea_ := Option.some.inj (hx240_0.symm.trans hx250_0)
                                   injection ea_ with ea_ en_ ec_
                                   subst ea_
                                   subst ec_
                                   clear en_
                                   have p251 : 0 ≤ (0 : Int) := (by omega)
                                   have q251 : 0 < ((rd_L2 t226 x19_3).length : Int) := of_decide_eq_true (by first | (with_reducible assumption) | assumption)
                                   obtain ⟨ad251, e251, hx251_0⟩ := Kd.at_int (by repeat (first | (with_reducible exact HR250_0.out) | (with_reducible refine Kd.C_alloc ?_ _) | (with_reducible refine Kd.C_drewN ?_ _) | (with_reducible refine Kd.C_drew ?_) | exact HR250_0.out)) 0 p251 q251
                                   cases e251
                                   have qi251 : (0 < (rd_L2 t226 x19_3).length) = True := eq_true (by omega)
                                   (try rw [show ((0 : Int)).toNat = 0 from rfl] at hx251_0)
                                   (try rw [Addr.add_zero'] at hx251_0)
                                   replace p251 := eq_true p251
                                   replace q251 := eq_true q251
                                   go_wp2
                                   repeat (go_quiet (fail); try go_wp2)
                                   go_ret
                                   exact ⟨by first | rfl | (simp [errW_none, errW_some] <;> rfl) | (simp only [← hji62]; first | rfl | (simp [errW_none, errW_some] <;> rfl)) | (simp [*, errW_none, errW_some] <;> rfl), by repeat (first | (with_reducible first | exact HB.out | apply below_alloc | apply pw_below_drewN | apply below_drew1) | exact HB.out)⟩
                                  ·rw [if_neg c72] at H
                                   have c72b0 : decide ((rd (rd_L2 t226 x19_3) x20_5) < (rd (rd_L2 t226 x19_3) 0)) = false := decide_eq_false c72
                                   clear c72
                                   have H' := Aside0.mk H
                                   clear H
                                   have p240 : 0 ≤ (x19_3 : Int) := of_decide_eq_true (by first | (with_reducible assumption) | assumption)
                                   have q240 : x19_3 < (t226.length : Int) := of_decide_eq_true (by first | (with_reducible assumption) | assumption)
                                   obtain ⟨ad240, A240_0, c240_0, e240, hx240_0, hl240_0, hi240_0⟩ := at_L2 (Kd.S_reads' HO_12.out).2.2 x19_3 p240 q240
                                   cases e240
                                   obtain ⟨ce240, hce240, hMe240, hcc240⟩ := Kd.S_get HO_12.out [] x19_3 p240 (by first | exact q240 | exact of_decide_eq_true (by first | (with_reducible assumption) | assumption) | (have e_ := (Kd.S_reads' HO_12.out).1; omega))
                                   obtain ⟨ve240_0, rfl, ge240_0⟩ := hMe240
                                   have hv240_0 := hcc240 0 _ rfl
                                   rw [Nat.add_zero, show ((Kd.slice 2 (Kd.int .i64))).sz = 1 from rfl, Nat.mul_one] at hv240_0
                                   replace hv240_0 := Option.some.inj (hv240_0.symm.trans hx240_0)
                                   rw [hv240_0] at ge240_0
                                   have HL240_0 := Aside0.mk (show Kd.R (Kd.int .i64) 2 _ _ _ _ (rd_L2 t226 x19_3) from ge240_0)
                                   clear hv240_0 ge240_0
                                   clear hcc240 hce240
                                   have HR240_0 := Aside0.mk hi240_0
                                   have HC240_0 := Aside0.mk hl240_0
                                   clear hi240_0 hl240_0
                                   replace p240 := eq_true p240
                                   replace q240 := eq_true q240
                                   have p241 : 0 ≤ (x19_3 : Int) := of_decide_eq_true (by first | (with_reducible assumption) | assumption)
                                   have q241 : x19_3 < (t226.length : Int) := of_decide_eq_true (by first | (with_reducible assumption) | assumption)
                                   obtain ⟨ad241, A241_0, c241_0, e241, hx241_0, hl241_0, hi241_0⟩ := at_L2 (Kd.S_reads' HO_12.out).2.2 x19_3 p241 q241
                                   obtain rfl : ad240 = ad241 := (by injection e241)
                                   obtain ⟨ce241, hce241, hMe241, hcc241⟩ := Kd.S_get HO_12.out [] x19_3 p241 (by first | exact q241 | exact of_decide_eq_true (by first | (with_reducible assumption) | assumption) | (have e_ := (Kd.S_reads' HO_12.out).1; omega))
                                   obtain ⟨ve241_0, rfl, ge241_0⟩ := hMe241
                                   have hv241_0 := hcc241 0 _ rfl
                                   rw [Nat.add_zero, show ((Kd.slice 2 (Kd.int .i64))).sz = 1 from rfl, Nat.mul_one] at hv241_0
                                   replace hv241_0 := Option.some.inj (hv241_0.symm.trans hx241_0)
                                   rw [hv241_0] at ge241_0
                                   have HL241_0 := Aside0.mk (show Kd.R (Kd.int .i64) 2 _ _ _ _ (rd_L2 t226 x19_3) from ge241_0)
                                   clear hv241_0 ge241_0
                                   clear hcc241 hce241
                                   have HR241_0 := Aside0.mk hi241_0
                                   have HC241_0 := Aside0.mk hl241_0
                                   clear hi241_0 hl241_0
                                   replace p241 := eq_true p241
                                   replace q241 := eq_true q241
                                   have ea_ := Option.some.inj (hx240_0.symm.trans hx241_0)
                                   injection ea_ with ea_ en_ ec_
                                   subst ea_
                                   subst ec_
                                   clear en_
                                   have p242 : 0 ≤ (x19_3 : Int) := of_decide_eq_true (by first | (with_reducible assumption) | assumption)
                                   have q242 : x19_3 < (t226.length : Int) := of_decide_eq_true (by first | (with_reducible assumption) | assumption)
                                   obtain ⟨ad242, A242_0, c242_0, e242, hx242_0, hl242_0, hi242_0⟩ := at_L2 (Kd.S_reads' HO_12.out).2.2 x19_3 p242 q242
                                   obtain rfl : ad240 = ad242 := (by injection e242)
                                   obtain ⟨ce242, hce242, hMe242, hcc242⟩ := Kd.S_get HO_12.out [] x19_3 p242 (by first | exact q242 | exact of_decide_eq_true (by first | (with_reducible assumption) | assumption) | (have e_ := (Kd.S_reads' HO_12.out).1; omega))
                                   obtain ⟨ve242_0, rfl, ge242_0⟩ := hMe242
                                   have hv242_0 := hcc242 0 _ rfl
                                   rw [Nat.add_zero, show ((Kd.slice 2 (Kd.int .i64))).sz = 1 from rfl, Nat.mul_one] at hv242_0
                                   replace hv242_0 := Option.some.inj (hv242_0.symm.trans hx242_0)
                                   rw [hv242_0] at ge242_0
                                   have HL242_0 := Aside0.mk (show Kd.R (Kd.int .i64) 2 _ _ _ _ (rd_L2 t226 x19_3) from ge242_0)
                                   clear hv242_0 ge242_0
                                   clear hcc242 hce242
                                   have HR242_0 := Aside0.mk hi242_0
                                   have HC242_0 := Aside0.mk hl242_0
                                   clear hi242_0 hl242_0
                                   replace p242 := eq_true p242
                                   replace q242 := eq_true q242
                                   have ea_ := Option.some.inj (hx240_0.symm.trans hx242_0)
                                   injection ea_ with ea_ en_ ec_
                                   subst ea_
                                   subst ec_
                                   clear en_
                                   have p243 : 0 ≤ ((ji62) : Int) := of_decide_eq_true (by first | (with_reducible assumption) | assumption)
                                   have q243 : (ji62) < ((rd_L2 t226 x19_3).length : Int) := of_decide_eq_true (by first | (with_reducible assumption) | assumption)
                                   obtain ⟨ad243, e243, hx243_0⟩ := Kd.at_int (by repeat (first | (with_reducible exact HR241_0.out) | (with_reducible refine Kd.C_alloc ?_ _) | (with_reducible refine Kd.C_drewN ?_ _) | (with_reducible refine Kd.C_drew ?_) | exact HR241_0.out)) (ji62) p243 q243
                                   cases e243
                                   replace p243 := eq_true p243
                                   replace q243 := eq_true q243
                                   have p244 : 0 ≤ (x19_3 : Int) := of_decide_eq_true (by first | (with_reducible assumption) | assumption)
                                   have q244 : x19_3 < (t226.length : Int) := of_decide_eq_true (by first | (with_reducible assumption) | assumption)
                                   obtain ⟨ad244, A244_0, c244_0, e244, hx244_0, hl244_0, hi244_0⟩ := at_L2 (Kd.S_reads' HO_12.out).2.2 x19_3 p244 q244
                                   obtain rfl : ad240 = ad244 := (by injection e244)
                                   obtain ⟨ce244, hce244, hMe244, hcc244⟩ := Kd.S_get HO_12.out [] x19_3 p244 (by first | exact q244 | exact of_decide_eq_true (by first | (with_reducible assumption) | assumption) | (have e_ := (Kd.S_reads' HO_12.out).1; omega))
                                   obtain ⟨ve244_0, rfl, ge244_0⟩ := hMe244
                                   have hv244_0 := hcc244 0 _ rfl
                                   rw [Nat.add_zero, show ((Kd.slice 2 (Kd.int .i64))).sz = 1 from rfl, Nat.mul_one] at hv244_0
                                   replace hv244_0 := Option.some.inj (hv244_0.symm.trans hx244_0)
                                   rw [hv244_0] at ge244_0
                                   have HL244_0 := Aside0.mk (show Kd.R (Kd.int .i64) 2 _ _ _ _ (rd_L2 t226 x19_3) from ge244_0)
                                   clear hv244_0 ge244_0
                                   clear hcc244 hce244
                                   have HR244_0 := Aside0.mk hi244_0
                                   have HC244_0 := Aside0.mk hl244_0
                                   clear hi244_0 hl244_0
                                   replace p244 := eq_true p244
                                   replace q244 := eq_true q244
                                   have ea_ := Option.some.inj (hx240_0.symm.trans hx244_0)
                                   injection ea_ with ea_ en_ ec_
                                   subst ea_
                                   subst ec_
                                   clear en_
                                   have p245 : 0 ≤ (x20_5 : Int) := of_decide_eq_true (by first | (with_reducible assumption) | assumption)
                                   have q245 : x20_5 < ((rd_L2 t226 x19_3).length : Int) := of_decide_eq_true (by first | (with_reducible assumption) | assumption)
                                   obtain ⟨ad245, e245, hx245_0⟩ := Kd.at_int (by repeat (first | (with_reducible exact HR244_0.out) | (with_reducible refine Kd.C_alloc ?_ _) | (with_reducible refine Kd.C_drewN ?_ _) | (with_reducible refine Kd.C_drew ?_) | exact HR244_0.out)) x20_5 p245 q245
                                   cases e245
                                   replace p245 := eq_true p245
                                   replace q245 := eq_true q245
                                   have p246 : 0 ≤ ((rd (rd_L2 t226 x19_3) x20_5) : Int) := of_decide_eq_true (by first | (with_reducible assumption) | assumption)
                                   have q246 : (rd (rd_L2 t226 x19_3) x20_5) < (x8_1.length : Int) := of_decide_eq_true (by first | (with_reducible assumption) | assumption)
                                   obtain ⟨ad246, e246, hx246_0⟩ := Kd.at_int (Kd.R_reads' HO_8.out).2.2 (rd (rd_L2 t226 x19_3) x20_5) p246 q246
                                   cases e246
                                   replace p246 := eq_true p246
                                   replace q246 := eq_true q246
                                   have p247 : 0 ≤ ((rd (rd_L2 t226 x19_3) (ji62)) : Int) := of_decide_eq_true (by first | (with_reducible assumption) | assumption)
                                   have q247 : (rd (rd_L2 t226 x19_3) (ji62)) < (x7_1.length : Int) := of_decide_eq_true (by first | (with_reducible assumption) | assumption)
                                   obtain ⟨ad247, e247, hx247_0⟩ := Kd.at_int (Kd.R_reads' HO_7.out).2.2 (rd (rd_L2 t226 x19_3) (ji62)) p247 q247
                                   cases e247
                                   replace p247 := eq_true p247
                                   replace q247 := eq_true q247
                                   have p248 : 0 ≤ (x19_3 : Int) := of_decide_eq_true (by first | (with_reducible assumption) | assumption)
                                   have q248 : x19_3 < (t226.length : Int) := of_decide_eq_true (by first | (with_reducible assumption) | assumption)
                                   obtain ⟨ad248, A248_0, c248_0, e248, hx248_0, hl248_0, hi248_0⟩ := at_L2 (Kd.S_reads' HO_12.out).2.2 x19_3 p248 q248
                                   obtain rfl : ad240 = ad248 := (by injection e248)
                                   obtain ⟨ce248, hce248, hMe248, hcc248⟩ := Kd.S_get HO_12.out [] x19_3 p248 (by first | exact q248 | exact of_decide_eq_true (by first | (with_reducible assumption) | assumption) | (have e_ := (Kd.S_reads' HO_12.out).1; omega))
                                   obtain ⟨ve248_0, rfl, ge248_0⟩ := hMe248
                                   have hv248_0 := hcc248 0 _ rfl
                                   rw [Nat.add_zero, show ((Kd.slice 2 (Kd.int .i64))).sz = 1 from rfl, Nat.mul_one] at hv248_0
                                   replace hv248_0 := Option.some.inj (hv248_0.symm.trans hx248_0)
                                   rw [hv248_0] at ge248_0
                                   have HL248_0 := Aside0.mk (show Kd.R (Kd.int .i64) 2 _ _ _ _ (rd_L2 t226 x19_3) from ge248_0)
                                   clear hv248_0 ge248_0
                                   clear hcc248 hce248
                                   have HR248_0 := Aside0.mk hi248_0
                                   have HC248_0 := Aside0.mk hl248_0
                                   clear hi248_0 hl248_0
                                   replace p248 := eq_true p248
                                   replace q248 := eq_true q248
                                   have ea_ := Option.some.inj (hx240_0.symm.trans hx248_0)
                                   injection ea_ with ea_ en_ ec_
                                   subst ea_
                                   subst ec_
                                   clear en_
                                   have p249 : 0 ≤ (x20_5 : Int) := of_decide_eq_true (by first | (with_reducible assumption) | assumption)
                                   have q249 : x20_5 < ((rd_L2 t226 x19_3).length : Int) := of_decide_eq_true (by first | (with_reducible assumption) | assumption)
                                   obtain ⟨ad249, e249, hx249_0⟩ := Kd.at_int (by repeat (first | (with_reducible exact HR248_0.out) | (with_reducible refine Kd.C_alloc ?_ _) | (with_reducible refine Kd.C_drewN ?_ _) | (with_reducible refine Kd.C_drew ?_) | exact HR248_0.out)) x20_5 p249 q249
                                   cases e249
                                   replace p249 := eq_true p249
                                   replace q249 := eq_true q249
                                   have p250 : 0 ≤ (x19_3 : Int) := of_decide_eq_true (by first | (with_reducible assumption) | assumption)
                                   have q250 : x19_3 < (t226.length : Int) := of_decide_eq_true (by first | (with_reducible assumption) | assumption)
                                   obtain ⟨ad250, A250_0, c250_0, e250, hx250_0, hl250_0, hi250_0⟩ := at_L2 (Kd.S_reads' HO_12.out).2.2 x19_3 p250 q250
                                   obtain rfl : ad240 = ad250 := (by injection e250)
                                   obtain ⟨ce250, hce250, hMe250, hcc250⟩ := Kd.S_get HO_12.out [] x19_3 p250 (by first | exact q250 | exact of_decide_eq_true (by first | (with_reducible assumption) | assumption) | (have e_ := (Kd.S_reads' HO_12.out).1; omega))
                                   obtain ⟨ve250_0, rfl, ge250_0⟩ := hMe250
                                   have hv250_0 := hcc250 0 _ rfl
                                   rw [Nat.add_zero, show ((Kd.slice 2 (Kd.int .i64))).sz = 1 from rfl, Nat.mul_one] at hv250_0
                                   replace hv250_0 := Option.some.inj (hv250_0.symm.trans hx250_0)
                                   rw [hv250_0] at ge250_0
                                   have HL250_0 := Aside0.mk (show Kd.R (Kd.int .i64) 2 _ _ _ _ (rd_L2 t226 x19_3) from ge250_0)
                                   clear hv250_0 ge250_0
                                   clear hcc250 hce250
                                   have HR250_0 := Aside0.mk hi250_0
                                   have HC250_0 := Aside0.mk hl250_0
                                   clear hi250_0 hl250_0
                                   replace p250 := eq_true p250
                                   replace q250 := eq_true q250
                                   have ea_ := Option.some.inj (hx240_0.symm.trans hx250_0)
                                   injection ea_ with ea_ en_ ec_
                                   subst ea_
                                   subst ec_
                                   clear en_
                                   have p251 : 0 ≤ (0 : Int) := (by omega)
                                   have q251 : 0 < ((rd_L2 t226 x19_3).length : Int) := of_decide_eq_true (by first | (with_reducible assumption) | assumption)
                                   obtain ⟨ad251, e251, hx251_0⟩ := Kd.at_int (by repeat (first | (with_reducible exact HR250_0.out) | (with_reducible refine Kd.C_alloc ?_ _) | (with_reducible refine Kd.C_drewN ?_ _) | (with_reducible refine Kd.C_drew ?_) | exact HR250_0.out)) 0 p251 q251
                                   cases e251
                                   have qi251 : (0 < (rd_L2 t226 x19_3).length) = True := eq_true (by omega)
                                   (try rw [show ((0 : Int)).toNat = 0 from rfl] at hx251_0)
                                   (try rw [Addr.add_zero'] at hx251_0)
                                   replace p251 := eq_true p251
                                   replace q251 := eq_true q251
                                   go_wp2
                                   repeat (go_quiet (fail); try go_wp2)
                                   go_roundg k5
                                   case measure => have := HK1.out; have := HJ23.out; have := HK3.out; have := HJ46.out; have := HK5.out; omega
                                   case rel => exact ⟨(wrap64 (x20_5 + 1)), (by first | rfl | (simp; done) | (simp [*]; done)), H', ⟨by have := HK1.out; have := HJ23.out; have := HK3.out; have := HJ46.out; have := HK5.out; omega⟩, ⟨by (with_reducible repeat (first | apply Kd.R_alloc | apply Kd.R_drewN | apply Kd.R_drew)); exact HO_7.out⟩, ⟨by (with_reducible repeat (first | apply Kd.R_alloc | apply Kd.R_drewN | apply Kd.R_drew)); exact HO_8.out⟩, ⟨by (with_reducible repeat (first | apply Kd.S_alloc | apply Kd.S_drewN | apply Kd.S_drew)); exact HO_12.out⟩, ⟨by repeat (first | (with_reducible first | exact HB.out | apply below_alloc | apply pw_below_drewN | apply below_drew1) | exact HB.out)⟩⟩
                                 ·rw [if_neg c71] at H
                                  exact absurd H (by simp)
                                ·rw [if_neg c70] at H
                                 have c70b0 : ((rd x8_1 (rd (rd_L2 t226 x19_3) x20_5)) == (rd x7_1 (rd (rd_L2 t226 x19_3) (ji62)))) = false := beq_eq_false_iff_ne.mpr c70
                                 have c70b1 : ((rd x8_1 (rd (rd_L2 t226 x19_3) x20_5)) != (rd x7_1 (rd (rd_L2 t226 x19_3) (ji62)))) = true := bne_iff_ne.mpr c70
                                 obtain rfl := Option.some.inj H
                                 have p240 : 0 ≤ (x19_3 : Int) := of_decide_eq_true (by first | (with_reducible assumption) | assumption)
                                 have q240 : x19_3 < (t226.length : Int) := of_decide_eq_true (by first | (with_reducible assumption) | assumption)
                                 obtain ⟨ad240, A240_0, c240_0, e240, hx240_0, hl240_0, hi240_0⟩ := at_L2 (Kd.S_reads' HO_12.out).2.2 x19_3 p240 q240
                                 cases e240
                                 obtain ⟨ce240, hce240, hMe240, hcc240⟩ := Kd.S_get HO_12.out [] x19_3 p240 (by first | exact q240 | exact of_decide_eq_true (by first | (with_reducible assumption) | assumption) | (have e_ := (Kd.S_reads' HO_12.out).1; omega))
                                 obtain ⟨ve240_0, rfl, ge240_0⟩ := hMe240
                                 have hv240_0 := hcc240 0 _ rfl
                                 rw [Nat.add_zero, show ((Kd.slice 2 (Kd.int .i64))).sz = 1 from rfl, Nat.mul_one] at hv240_0
                                 replace hv240_0 := Option.some.inj (hv240_0.symm.trans hx240_0)
                                 rw [hv240_0] at ge240_0
                                 have HL240_0 := Aside0.mk (show Kd.R (Kd.int .i64) 2 _ _ _ _ (rd_L2 t226 x19_3) from ge240_0)
                                 clear hv240_0 ge240_0
                                 clear hcc240 hce240
                                 have HR240_0 := Aside0.mk hi240_0
                                 have HC240_0 := Aside0.mk hl240_0
                                 clear hi240_0 hl240_0
                                 replace p240 := eq_true p240
                                 replace q240 := eq_true q240
                                 have p241 : 0 ≤ (x19_3 : Int) := of_decide_eq_true (by first | (with_reducible assumption) | assumption)
                                 have q241 : x19_3 < (t226.length : Int) := of_decide_eq_true (by first | (with_reducible assumption) | assumption)
                                 obtain ⟨ad241, A241_0, c241_0, e241, hx241_0, hl241_0, hi241_0⟩ := at_L2 (Kd.S_reads' HO_12.out).2.2 x19_3 p241 q241
                                 obtain rfl : ad240 = ad241 := (by injection e241)
                                 obtain ⟨ce241, hce241, hMe241, hcc241⟩ := Kd.S_get HO_12.out [] x19_3 p241 (by first | exact q241 | exact of_decide_eq_true (by first | (with_reducible assumption) | assumption) | (have e_ := (Kd.S_reads' HO_12.out).1; omega))
                                 obtain ⟨ve241_0, rfl, ge241_0⟩ := hMe241
                                 have hv241_0 := hcc241 0 _ rfl
                                 rw [Nat.add_zero, show ((Kd.slice 2 (Kd.int .i64))).sz = 1 from rfl, Nat.mul_one] at hv241_0
                                 replace hv241_0 := Option.some.inj (hv241_0.symm.trans hx241_0)
                                 rw [hv241_0] at ge241_0
                                 have HL241_0 := Aside0.mk (show Kd.R (Kd.int .i64) 2 _ _ _ _ (rd_L2 t226 x19_3) from ge241_0)
                                 clear hv241_0 ge241_0
                                 clear hcc241 hce241
                                 have HR241_0 := Aside0.mk hi241_0
                                 have HC241_0 := Aside0.mk hl241_0
                                 clear hi241_0 hl241_0
                                 replace p241 := eq_true p241
                                 replace q241 := eq_true q241
                                 have ea_ := Option.some.inj (hx240_0.symm.trans hx241_0)
                                 injection ea_ with ea_ en_ ec_
                                 subst ea_
                                 subst ec_
                                 clear en_
                                 have p242 : 0 ≤ (x19_3 : Int) := of_decide_eq_true (by first | (with_reducible assumption) | assumption)
                                 have q242 : x19_3 < (t226.length : Int) := of_decide_eq_true (by first | (with_reducible assumption) | assumption)
                                 obtain ⟨ad242, A242_0, c242_0, e242, hx242_0, hl242_0, hi242_0⟩ := at_L2 (Kd.S_reads' HO_12.out).2.2 x19_3 p242 q242
                                 obtain rfl : ad240 = ad242 := (by injection e242)
                                 obtain ⟨ce242, hce242, hMe242, hcc242⟩ := Kd.S_get HO_12.out [] x19_3 p242 (by first | exact q242 | exact of_decide_eq_true (by first | (with_reducible assumption) | assumption) | (have e_ := (Kd.S_reads' HO_12.out).1; omega))
                                 obtain ⟨ve242_0, rfl, ge242_0⟩ := hMe242
                                 have hv242_0 := hcc242 0 _ rfl
                                 rw [Nat.add_zero, show ((Kd.slice 2 (Kd.int .i64))).sz = 1 from rfl, Nat.mul_one] at hv242_0
                                 replace hv242_0 := Option.some.inj (hv242_0.symm.trans hx242_0)
                                 rw [hv242_0] at ge242_0
                                 have HL242_0 := Aside0.mk (show Kd.R (Kd.int .i64) 2 _ _ _ _ (rd_L2 t226 x19_3) from ge242_0)
                                 clear hv242_0 ge242_0
                                 clear hcc242 hce242
                                 have HR242_0 := Aside0.mk hi242_0
                                 have HC242_0 := Aside0.mk hl242_0
                                 clear hi242_0 hl242_0
                                 replace p242 := eq_true p242
                                 replace q242 := eq_true q242
                                 have ea_ := Option.some.inj (hx240_0.symm.trans hx242_0)
                                 injection ea_ with ea_ en_ ec_
                                 subst ea_
                                 subst ec_
                                 clear en_
                                 have p243 : 0 ≤ ((ji62) : Int) := of_decide_eq_true (by first | (with_reducible assumption) | assumption)
                                 have q243 : (ji62) < ((rd_L2 t226 x19_3).length : Int) := of_decide_eq_true (by first | (with_reducible assumption) | assumption)
                                 obtain ⟨ad243, e243, hx243_0⟩ := Kd.at_int (by repeat (first | (with_reducible exact HR241_0.out) | (with_reducible refine Kd.C_alloc ?_ _) | (with_reducible refine Kd.C_drewN ?_ _) | (with_reducible refine Kd.C_drew ?_) | exact HR241_0.out)) (ji62) p243 q243
                                 cases e243
                                 replace p243 := eq_true p243
                                 replace q243 := eq_true q243
                                 have p244 : 0 ≤ (x19_3 : Int) := of_decide_eq_true (by first | (with_reducible assumption) | assumption)
                                 have q244 : x19_3 < (t226.length : Int) := of_decide_eq_true (by first | (with_reducible assumption) | assumption)
                                 obtain ⟨ad244, A244_0, c244_0, e244, hx244_0, hl244_0, hi244_0⟩ := at_L2 (Kd.S_reads' HO_12.out).2.2 x19_3 p244 q244
                                 obtain rfl : ad240 = ad244 := (by injection e244)
                                 obtain ⟨ce244, hce244, hMe244, hcc244⟩ := Kd.S_get HO_12.out [] x19_3 p244 (by first | exact q244 | exact of_decide_eq_true (by first | (with_reducible assumption) | assumption) | (have e_ := (Kd.S_reads' HO_12.out).1; omega))
                                 obtain ⟨ve244_0, rfl, ge244_0⟩ := hMe244
                                 have hv244_0 := hcc244 0 _ rfl
                                 rw [Nat.add_zero, show ((Kd.slice 2 (Kd.int .i64))).sz = 1 from rfl, Nat.mul_one] at hv244_0
                                 replace hv244_0 := Option.some.inj (hv244_0.symm.trans hx244_0)
                                 rw [hv244_0] at ge244_0
                                 have HL244_0 := Aside0.mk (show Kd.R (Kd.int .i64) 2 _ _ _ _ (rd_L2 t226 x19_3) from ge244_0)
                                 clear hv244_0 ge244_0
                                 clear hcc244 hce244
                                 have HR244_0 := Aside0.mk hi244_0
                                 have HC244_0 := Aside0.mk hl244_0
                                 clear hi244_0 hl244_0
                                 replace p244 := eq_true p244
                                 replace q244 := eq_true q244
                                 have ea_ := Option.some.inj (hx240_0.symm.trans hx244_0)
                                 injection ea_ with ea_ en_ ec_
                                 subst ea_
                                 subst ec_
                                 clear en_
                                 have p245 : 0 ≤ (x20_5 : Int) := of_decide_eq_true (by first | (with_reducible assumption) | assumption)
                                 have q245 : x20_5 < ((rd_L2 t226 x19_3).length : Int) := of_decide_eq_true (by first | (with_reducible assumption) | assumption)
                                 obtain ⟨ad245, e245, hx245_0⟩ := Kd.at_int (by repeat (first | (with_reducible exact HR244_0.out) | (with_reducible refine Kd.C_alloc ?_ _) | (with_reducible refine Kd.C_drewN ?_ _) | (with_reducible refine Kd.C_drew ?_) | exact HR244_0.out)) x20_5 p245 q245
                                 cases e245
                                 replace p245 := eq_true p245
                                 replace q245 := eq_true q245
                                 have p246 : 0 ≤ ((rd (rd_L2 t226 x19_3) x20_5) : Int) := of_decide_eq_true (by first | (with_reducible assumption) | assumption)
                                 have q246 : (rd (rd_L2 t226 x19_3) x20_5) < (x8_1.length : Int) := of_decide_eq_true (by first | (with_reducible assumption) | assumption)
                                 obtain ⟨ad246, e246, hx246_0⟩ := Kd.at_int (Kd.R_reads' HO_8.out).2.2 (rd (rd_L2 t226 x19_3) x20_5) p246 q246
                                 cases e246
                                 replace p246 := eq_true p246
                                 replace q246 := eq_true q246
                                 have p247 : 0 ≤ ((rd (rd_L2 t226 x19_3) (ji62)) : Int) := of_decide_eq_true (by first | (with_reducible assumption) | assumption)
                                 have q247 : (rd (rd_L2 t226 x19_3) (ji62)) < (x7_1.length : Int) := of_decide_eq_true (by first | (with_reducible assumption) | assumption)
                                 obtain ⟨ad247, e247, hx247_0⟩ := Kd.at_int (Kd.R_reads' HO_7.out).2.2 (rd (rd_L2 t226 x19_3) (ji62)) p247 q247
                                 cases e247
                                 replace p247 := eq_true p247
                                 replace q247 := eq_true q247
                                 go_wp2
                                 repeat (go_quiet (fail); try go_wp2)
                                 go_ret
                                 exact ⟨by first | rfl | (simp [errW_none, errW_some] <;> rfl) | (simp only [← hji62]; first | rfl | (simp [errW_none, errW_some] <;> rfl)) | (simp [*, errW_none, errW_some] <;> rfl), by repeat (first | (with_reducible first | exact HB.out | apply below_alloc | apply pw_below_drewN | apply below_drew1) | exact HB.out)⟩
                               ·rw [if_neg c69] at H
                                exact absurd H (by simp)
                              ·rw [if_neg c68] at H
                               exact absurd H (by simp)
                             ·rw [if_neg c67] at H
                              exact absurd H (by simp)
                            ·rw [if_neg c66] at H
                             exact absurd H (by simp)
                           ·rw [if_neg c65] at H
                            exact absurd H (by simp)
                          ·rw [if_neg c64] at H
                           exact absurd H (by simp)
                         ·rw [if_neg c63] at H
                          exact absurd H (by simp)
                       ·rw [if_neg c60] at H
                        have c60b0 : decide (x20_5 < ((rd_L2 t226 x19_3).length : Int)) = false := decide_eq_false c60
                        clear c60
                        have H' := Aside0.mk H
                        clear H
                        have p240 : 0 ≤ (x19_3 : Int) := of_decide_eq_true (by first | (with_reducible assumption) | assumption)
                        have q240 : x19_3 < (t226.length : Int) := of_decide_eq_true (by first | (with_reducible assumption) | assumption)
                        obtain ⟨ad240, A240_0, c240_0, e240, hx240_0, hl240_0, hi240_0⟩ := at_L2 (Kd.S_reads' HO_12.out).2.2 x19_3 p240 q240
                        cases e240
                        obtain ⟨ce240, hce240, hMe240, hcc240⟩ := Kd.S_get HO_12.out [] x19_3 p240 (by first | exact q240 | exact of_decide_eq_true (by first | (with_reducible assumption) | assumption) | (have e_ := (Kd.S_reads' HO_12.out).1; omega))
                        obtain ⟨ve240_0, rfl, ge240_0⟩ := hMe240
                        have hv240_0 := hcc240 0 _ rfl
                        rw [Nat.add_zero, show ((Kd.slice 2 (Kd.int .i64))).sz = 1 from rfl, Nat.mul_one] at hv240_0
                        replace hv240_0 := Option.some.inj (hv240_0.symm.trans hx240_0)
                        rw [hv240_0] at ge240_0
                        have HL240_0 := Aside0.mk (show Kd.R (Kd.int .i64) 2 _ _ _ _ (rd_L2 t226 x19_3) from ge240_0)
                        clear hv240_0 ge240_0
                        clear hcc240 hce240
                        have HR240_0 := Aside0.mk hi240_0
                        have HC240_0 := Aside0.mk hl240_0
                        clear hi240_0 hl240_0
                        replace p240 := eq_true p240
                        replace q240 := eq_true q240
                        have p252 : 0 ≤ (x19_3 : Int) := of_decide_eq_true (by first | (with_reducible assumption) | assumption)
                        have q252 : x19_3 < (t226.length : Int) := of_decide_eq_true (by first | (with_reducible assumption) | assumption)
                        obtain ⟨ad252, A252_0, c252_0, e252, hx252_0, hl252_0, hi252_0⟩ := at_L2 (Kd.S_reads' HO_12.out).2.2 x19_3 p252 q252
                        obtain rfl : ad240 = ad252 := (by injection e252)
                        obtain ⟨ce252, hce252, hMe252, hcc252⟩ := Kd.S_get HO_12.out [] x19_3 p252 (by first | exact q252 | exact of_decide_eq_true (by first | (with_reducible assumption) | assumption) | (have e_ := (Kd.S_reads' HO_12.out).1; omega))
                        obtain ⟨ve252_0, rfl, ge252_0⟩ := hMe252
                        have hv252_0 := hcc252 0 _ rfl
                        rw [Nat.add_zero, show ((Kd.slice 2 (Kd.int .i64))).sz = 1 from rfl, Nat.mul_one] at hv252_0
                        replace hv252_0 := Option.some.inj (hv252_0.symm.trans hx252_0)
                        rw [hv252_0] at ge252_0
                        have HL252_0 := Aside0.mk (show Kd.R (Kd.int .i64) 2 _ _ _ _ (rd_L2 t226 x19_3) from ge252_0)
                        clear hv252_0 ge252_0
                        clear hcc252 hce252
                        have HR252_0 := Aside0.mk hi252_0
                        have HC252_0 := Aside0.mk hl252_0
                        clear hi252_0 hl252_0
                        replace p252 := eq_true p252
                        replace q252 := eq_true q252
                        have ea_ := Option.some.inj (hx240_0.symm.trans hx252_0)
                        injection ea_ with ea_ en_ ec_
                        subst ea_
                        subst ec_
                        clear en_
                        go_wp2
                        repeat (go_quiet (fail); try go_wp2)
                        go_roundg k5
                        case measure => have := HK1.out; have := HJ23.out; have := HK3.out; have := HJ46.out; have := HK5.out; omega
                        case rel => exact ⟨(wrap64 (x18_3 + ((rd_L2 t226 x19_3).length : Int))), (wrap64 (x19_3 + 1)), (by first | rfl | (simp; done) | (simp [*]; done)), (by first | rfl | (simp; done) | (simp [*]; done)), H', ⟨by have := HK1.out; have := HJ23.out; have := HK3.out; have := HJ46.out; have := HK5.out; omega⟩, ⟨by (with_reducible repeat (first | apply Kd.R_alloc | apply Kd.R_drewN | apply Kd.R_drew)); exact HO_7.out⟩, ⟨by (with_reducible repeat (first | apply Kd.R_alloc | apply Kd.R_drewN | apply Kd.R_drew)); exact HO_8.out⟩, ⟨by (with_reducible repeat (first | apply Kd.S_alloc | apply Kd.S_drewN | apply Kd.S_drew)); exact HO_12.out⟩, ⟨by repeat (first | (with_reducible first | exact HB.out | apply below_alloc | apply pw_below_drewN | apply below_drew1) | exact HB.out)⟩⟩
                      ·rw [if_neg c59] at H
                       exact absurd H (by simp)
                     ·rw [if_neg c58] at H
                      exact absurd H (by simp)
             ·rw [if_neg c46] at H
              have c46b0 : decide (x19_3 < (t226.length : Int)) = false := decide_eq_false c46
              clear c46
              obtain ⟨y253, hy253⟩ : ∃ y_ : List Int, y_ = (([] : List Int)) := ⟨_, rfl⟩
              replace H : (if y253.length + x8_1.length < 17592186044416 then (laws_FnSwapped.l3 k3 t205 x7_1 x8_1 t226 t232 x18_3 0 (y253 ++ x8_1) 0 0) else (none)) = some r := by first | (rw [hy253]; with_reducible exact H) | (have H2_ := (Option.bind_some _ _).symm.trans H; rw [hy253]; with_reducible exact H2_) | (have H2_ := (Option.bind_some _ _).symm.trans H; with_reducible exact H2_) | with_reducible exact H | (rw [hy253]; exact H) | exact H
              have Ny253 := Aside0.mk hy253
              clear hy253
              by_cases c73 : y253.length + x8_1.length < 17592186044416
              ·rw [if_pos c73] at H
               have LMc73 := Aside0.mk c73
               clear c73
               obtain ⟨y256, hy256⟩ : ∃ y_ : List Int, y_ = (y253 ++ x8_1) := ⟨_, rfl⟩
               replace H : (laws_FnSwapped.l3 k3 t205 x7_1 x8_1 t226 t232 x18_3 0 y256 0 0) = some r := by first | (rw [hy256]; with_reducible exact H) | (have H2_ := (Option.bind_some _ _).symm.trans H; rw [hy256]; with_reducible exact H2_) | (have H2_ := (Option.bind_some _ _).symm.trans H; with_reducible exact H2_) | with_reducible exact H | (rw [hy256]; exact H) | exact H
               have Ny256 := Aside0.mk hy256
               clear hy256
               have H' := Aside0.mk H
               clear H
               obtain ⟨Ao74, co74, eo74⟩ := Kd.S_slice HO_12.out
               subst eo74
               go_wp2_with (first | ((with_reducible refine gate_dst (N := 201) rfl ?_); (try (refine gate_guard (by rfl) ?_; dsimp only)); refine Kd.R_lit (Kd.int .i64) _ 2 ?hg (N := 201) ?hd (xs := ([] : List Int)) (inner := []) (ok := fun _ => True) (okp := fun _ => True) ?hr ?hp (fun _ hk => hk) trivial (Below.refl _ _) (Nat.le_refl _) (by simp) ?_; (case hd => rfl); (case hg => rfl); (case hr => first | (go_simp; done) | (go_simp; rfl)); (case hp => exact (Reps.none _ _)); intro v254 w75 ho76 hb hg_ hnew_; clear hg_ hnew_; (first | rw [← Ny253.out] at ho76 | (simp only [Int.reduceToNat] at ho76; rw [← Ny253.out] at ho76)); have n0_ := Aside0.mk (Kd.R_elder' (by (with_reducible repeat (first | apply Kd.R_alloc | apply Kd.R_drewN | apply Kd.R_drew)); exact HO_7.out) (Kd.R_base ho76) hb); have n1_ := Aside0.mk (Kd.R_elder' (by (with_reducible repeat (first | apply Kd.R_alloc | apply Kd.R_drewN | apply Kd.R_drew)); exact HO_8.out) (Kd.R_base ho76) hb); have n2_ := Aside0.mk (Kd.S_elder' (by (with_reducible repeat (first | apply Kd.S_alloc | apply Kd.S_drewN | apply Kd.S_drew)); exact HO_12.out) (Kd.R_base ho76) hb); have n3_ := Aside0.mk (Kd.R_lower (Kd.R_new' (Kd.R_new' ho76 (Kd.R_lt (by (with_reducible repeat (first | apply Kd.R_alloc | apply Kd.R_drewN | apply Kd.R_drew)); exact HO_7.out))) (Kd.R_lt (by (with_reducible repeat (first | apply Kd.R_alloc | apply Kd.R_drewN | apply Kd.R_drew)); exact HO_8.out))) (below_size (by repeat (first | (with_reducible first | exact HB.out | apply below_alloc | apply pw_below_drewN | apply below_drew1) | exact HB.out)))); have n4_ := Aside0.mk (below_step (by repeat (first | (with_reducible first | exact HB.out | apply below_alloc | apply pw_below_drewN | apply below_drew1) | exact HB.out)) hb); clear HO_7; clear HO_8; clear HO_12; clear HB; have HO_7 := n0_; have HO_8 := n1_; have HO_12 := n2_; have HO255 := n3_; have HB := n4_; clear n0_ n1_ n2_ n3_ n4_; clear hb ho76) | ((with_reducible refine gate_builtin (b := .append) (xs := #[.tmp 201, .tmp 202]) rfl ?_); (try (refine gate_guard (by rfl) ?_; dsimp only)); at_builtin; refine Kd.R_append_rows (Kd.int .i64) (w0 := w) w.heap.size rfl (.tmp 201) (.tmp 202) 25 2 (.int .i64 0) 8 rfl Try.underlying25 info2 rfl (by decide) (by omega) v254 y253 x8_1 _ _ _ (fun k_ => some k_ ≠ (.slice Ao25 x7_1.length co25 : Value).ownBlock ∧ some k_ ≠ (.slice Ao26 x8_1.length co26 : Value).ownBlock) (fun _ => False) rfl rfl ?aO ?aR (fun _ _ h => h) (fun _ h => h.elim) ?aF ?aB ?aS ?aL ?_; (case aR => repeat (first | exact (Kd.R_reads' HO_8.out).2.2 | (with_reducible refine Kd.C_alloc ?_ _) | (with_reducible refine Kd.C_drewN ?_ _) | (with_reducible refine Kd.C_drew ?_))); (case aB => exact (by repeat (first | (with_reducible first | exact HB.out | apply below_alloc | apply pw_below_drewN | apply below_drew1) | exact HB.out))); (case aF => exact (fun k_ hk => ⟨Kd.fresh' (Kd.R_lt (by (with_reducible repeat (first | apply Kd.R_alloc | apply Kd.R_drewN | apply Kd.R_drew)); exact HO_7.out)) k_ hk, Kd.fresh' (Kd.R_lt (by (with_reducible repeat (first | apply Kd.R_alloc | apply Kd.R_drewN | apply Kd.R_drew)); exact HO_8.out)) k_ hk⟩)); (case aO => exact (by (with_reducible repeat (first | apply Kd.R_alloc | apply Kd.R_drewN | apply Kd.R_drew)); exact Kd.R_mono HO255.out (fun _ hk => ⟨hk.1.2, hk.2⟩))); (case aS => exact (below_size (by repeat (first | (with_reducible first | exact HB.out | apply below_alloc | apply pw_below_drewN | apply below_drew1) | exact HB.out)))); (case aL => have := LMc73.out; omega); intro v257 w77 ho hb hg hat; rw [← Ny256.out] at ho; have n0_ := Aside0.mk (Kd.R_after (ok := (fun k_ => some k_ ≠ (.slice Ao26 x8_1.length co26 : Value).ownBlock)) (by (with_reducible repeat (first | apply Kd.R_alloc | apply Kd.R_drewN | apply Kd.R_drew)); exact HO_7.out) hg hat); have n1_ := Aside0.mk (Kd.R_after (ok := (fun k_ => some k_ ≠ (.slice Ao25 x7_1.length co25 : Value).ownBlock)) (by (with_reducible repeat (first | apply Kd.R_alloc | apply Kd.R_drewN | apply Kd.R_drew)); exact HO_8.out) hg hat); have n2_ := Aside0.mk (Kd.S_after (ok := (fun k_ => some k_ ≠ (.slice Ao25 x7_1.length co25 : Value).ownBlock ∧ some k_ ≠ (.slice Ao26 x8_1.length co26 : Value).ownBlock)) (by (with_reducible repeat (first | apply Kd.S_alloc | apply Kd.S_drewN | apply Kd.S_drew)); exact HO_12.out) hg hat); have n3_ := Aside0.mk (hb); have n4_ := Aside0.mk (ho); clear HO_7; clear HO_8; clear HO_12; clear HB; clear HO255; have HO_7 := n0_; have HO_8 := n1_; have HO_12 := n2_; have HB := n3_; have HO258 := n4_; clear n0_ n1_ n2_ n3_ n4_; clear ho hb hg hat))
               repeat (go_quiet (first | ((with_reducible refine gate_dst (N := 201) rfl ?_); (try (refine gate_guard (by rfl) ?_; dsimp only)); refine Kd.R_lit (Kd.int .i64) _ 2 ?hg (N := 201) ?hd (xs := ([] : List Int)) (inner := []) (ok := fun _ => True) (okp := fun _ => True) ?hr ?hp (fun _ hk => hk) trivial (Below.refl _ _) (Nat.le_refl _) (by simp) ?_; (case hd => rfl); (case hg => rfl); (case hr => first | (go_simp; done) | (go_simp; rfl)); (case hp => exact (Reps.none _ _)); intro v254 w75 ho76 hb hg_ hnew_; clear hg_ hnew_; (first | rw [← Ny253.out] at ho76 | (simp only [Int.reduceToNat] at ho76; rw [← Ny253.out] at ho76)); have n0_ := Aside0.mk (Kd.R_elder' (by (with_reducible repeat (first | apply Kd.R_alloc | apply Kd.R_drewN | apply Kd.R_drew)); exact HO_7.out) (Kd.R_base ho76) hb); have n1_ := Aside0.mk (Kd.R_elder' (by (with_reducible repeat (first | apply Kd.R_alloc | apply Kd.R_drewN | apply Kd.R_drew)); exact HO_8.out) (Kd.R_base ho76) hb); have n2_ := Aside0.mk (Kd.S_elder' (by (with_reducible repeat (first | apply Kd.S_alloc | apply Kd.S_drewN | apply Kd.S_drew)); exact HO_12.out) (Kd.R_base ho76) hb); have n3_ := Aside0.mk (Kd.R_lower (Kd.R_new' (Kd.R_new' ho76 (Kd.R_lt (by (with_reducible repeat (first | apply Kd.R_alloc | apply Kd.R_drewN | apply Kd.R_drew)); exact HO_7.out))) (Kd.R_lt (by (with_reducible repeat (first | apply Kd.R_alloc | apply Kd.R_drewN | apply Kd.R_drew)); exact HO_8.out))) (below_size (by repeat (first | (with_reducible first | exact HB.out | apply below_alloc | apply pw_below_drewN | apply below_drew1) | exact HB.out)))); have n4_ := Aside0.mk (below_step (by repeat (first | (with_reducible first | exact HB.out | apply below_alloc | apply pw_below_drewN | apply below_drew1) | exact HB.out)) hb); clear HO_7; clear HO_8; clear HO_12; clear HB; have HO_7 := n0_; have HO_8 := n1_; have HO_12 := n2_; have HO255 := n3_; have HB := n4_; clear n0_ n1_ n2_ n3_ n4_; clear hb ho76) | ((with_reducible refine gate_builtin (b := .append) (xs := #[.tmp 201, .tmp 202]) rfl ?_); (try (refine gate_guard (by rfl) ?_; dsimp only)); at_builtin; refine Kd.R_append_rows (Kd.int .i64) (w0 := w) w.heap.size rfl (.tmp 201) (.tmp 202) 25 2 (.int .i64 0) 8 rfl Try.underlying25 info2 rfl (by decide) (by omega) v254 y253 x8_1 _ _ _ (fun k_ => some k_ ≠ (.slice Ao25 x7_1.length co25 : Value).ownBlock ∧ some k_ ≠ (.slice Ao26 x8_1.length co26 : Value).ownBlock) (fun _ => False) rfl rfl ?aO ?aR (fun _ _ h => h) (fun _ h => h.elim) ?aF ?aB ?aS ?aL ?_; (case aR => repeat (first | exact (Kd.R_reads' HO_8.out).2.2 | (with_reducible refine Kd.C_alloc ?_ _) | (with_reducible refine Kd.C_drewN ?_ _) | (with_reducible refine Kd.C_drew ?_))); (case aB => exact (by repeat (first | (with_reducible first | exact HB.out | apply below_alloc | apply pw_below_drewN | apply below_drew1) | exact HB.out))); (case aF => exact (fun k_ hk => ⟨Kd.fresh' (Kd.R_lt (by (with_reducible repeat (first | apply Kd.R_alloc | apply Kd.R_drewN | apply Kd.R_drew)); exact HO_7.out)) k_ hk, Kd.fresh' (Kd.R_lt (by (with_reducible repeat (first | apply Kd.R_alloc | apply Kd.R_drewN | apply Kd.R_drew)); exact HO_8.out)) k_ hk⟩)); (case aO => exact (by (with_reducible repeat (first | apply Kd.R_alloc | apply Kd.R_drewN | apply Kd.R_drew)); exact Kd.R_mono HO255.out (fun _ hk => ⟨hk.1.2, hk.2⟩))); (case aS => exact (below_size (by repeat (first | (with_reducible first | exact HB.out | apply below_alloc | apply pw_below_drewN | apply below_drew1) | exact HB.out)))); (case aL => have := LMc73.out; omega); intro v257 w77 ho hb hg hat; rw [← Ny256.out] at ho; have n0_ := Aside0.mk (Kd.R_after (ok := (fun k_ => some k_ ≠ (.slice Ao26 x8_1.length co26 : Value).ownBlock)) (by (with_reducible repeat (first | apply Kd.R_alloc | apply Kd.R_drewN | apply Kd.R_drew)); exact HO_7.out) hg hat); have n1_ := Aside0.mk (Kd.R_after (ok := (fun k_ => some k_ ≠ (.slice Ao25 x7_1.length co25 : Value).ownBlock)) (by (with_reducible repeat (first | apply Kd.R_alloc | apply Kd.R_drewN | apply Kd.R_drew)); exact HO_8.out) hg hat); have n2_ := Aside0.mk (Kd.S_after (ok := (fun k_ => some k_ ≠ (.slice Ao25 x7_1.length co25 : Value).ownBlock ∧ some k_ ≠ (.slice Ao26 x8_1.length co26 : Value).ownBlock)) (by (with_reducible repeat (first | apply Kd.S_alloc | apply Kd.S_drewN | apply Kd.S_drew)); exact HO_12.out) hg hat); have n3_ := Aside0.mk (hb); have n4_ := Aside0.mk (ho); clear HO_7; clear HO_8; clear HO_12; clear HB; clear HO255; have HO_7 := n0_; have HO_8 := n1_; have HO_12 := n2_; have HB := n3_; have HO258 := n4_; clear n0_ n1_ n2_ n3_ n4_; clear ho hb hg hat)); try go_wp2_with (first | ((with_reducible refine gate_dst (N := 201) rfl ?_); (try (refine gate_guard (by rfl) ?_; dsimp only)); refine Kd.R_lit (Kd.int .i64) _ 2 ?hg (N := 201) ?hd (xs := ([] : List Int)) (inner := []) (ok := fun _ => True) (okp := fun _ => True) ?hr ?hp (fun _ hk => hk) trivial (Below.refl _ _) (Nat.le_refl _) (by simp) ?_; (case hd => rfl); (case hg => rfl); (case hr => first | (go_simp; done) | (go_simp; rfl)); (case hp => exact (Reps.none _ _)); intro v254 w75 ho76 hb hg_ hnew_; clear hg_ hnew_; (first | rw [← Ny253.out] at ho76 | (simp only [Int.reduceToNat] at ho76; rw [← Ny253.out] at ho76)); have n0_ := Aside0.mk (Kd.R_elder' (by (with_reducible repeat (first | apply Kd.R_alloc | apply Kd.R_drewN | apply Kd.R_drew)); exact HO_7.out) (Kd.R_base ho76) hb); have n1_ := Aside0.mk (Kd.R_elder' (by (with_reducible repeat (first | apply Kd.R_alloc | apply Kd.R_drewN | apply Kd.R_drew)); exact HO_8.out) (Kd.R_base ho76) hb); have n2_ := Aside0.mk (Kd.S_elder' (by (with_reducible repeat (first | apply Kd.S_alloc | apply Kd.S_drewN | apply Kd.S_drew)); exact HO_12.out) (Kd.R_base ho76) hb); have n3_ := Aside0.mk (Kd.R_lower (Kd.R_new' (Kd.R_new' ho76 (Kd.R_lt (by (with_reducible repeat (first | apply Kd.R_alloc | apply Kd.R_drewN | apply Kd.R_drew)); exact HO_7.out))) (Kd.R_lt (by (with_reducible repeat (first | apply Kd.R_alloc | apply Kd.R_drewN | apply Kd.R_drew)); exact HO_8.out))) (below_size (by repeat (first | (with_reducible first | exact HB.out | apply below_alloc | apply pw_below_drewN | apply below_drew1) | exact HB.out)))); have n4_ := Aside0.mk (below_step (by repeat (first | (with_reducible first | exact HB.out | apply below_alloc | apply pw_below_drewN | apply below_drew1) | exact HB.out)) hb); clear HO_7; clear HO_8; clear HO_12; clear HB; have HO_7 := n0_; have HO_8 := n1_; have HO_12 := n2_; have HO255 := n3_; have HB := n4_; clear n0_ n1_ n2_ n3_ n4_; clear hb ho76) | ((with_reducible refine gate_builtin (b := .append) (xs := #[.tmp 201, .tmp 202]) rfl ?_); (try (refine gate_guard (by rfl) ?_; dsimp only)); at_builtin; refine Kd.R_append_rows (Kd.int .i64) (w0 := w) w.heap.size rfl (.tmp 201) (.tmp 202) 25 2 (.int .i64 0) 8 rfl Try.underlying25 info2 rfl (by decide) (by omega) v254 y253 x8_1 _ _ _ (fun k_ => some k_ ≠ (.slice Ao25 x7_1.length co25 : Value).ownBlock ∧ some k_ ≠ (.slice Ao26 x8_1.length co26 : Value).ownBlock) (fun _ => False) rfl rfl ?aO ?aR (fun _ _ h => h) (fun _ h => h.elim) ?aF ?aB ?aS ?aL ?_; (case aR => repeat (first | exact (Kd.R_reads' HO_8.out).2.2 | (with_reducible refine Kd.C_alloc ?_ _) | (with_reducible refine Kd.C_drewN ?_ _) | (with_reducible refine Kd.C_drew ?_))); (case aB => exact (by repeat (first | (with_reducible first | exact HB.out | apply below_alloc | apply pw_below_drewN | apply below_drew1) | exact HB.out))); (case aF => exact (fun k_ hk => ⟨Kd.fresh' (Kd.R_lt (by (with_reducible repeat (first | apply Kd.R_alloc | apply Kd.R_drewN | apply Kd.R_drew)); exact HO_7.out)) k_ hk, Kd.fresh' (Kd.R_lt (by (with_reducible repeat (first | apply Kd.R_alloc | apply Kd.R_drewN | apply Kd.R_drew)); exact HO_8.out)) k_ hk⟩)); (case aO => exact (by (with_reducible repeat (first | apply Kd.R_alloc | apply Kd.R_drewN | apply Kd.R_drew)); exact Kd.R_mono HO255.out (fun _ hk => ⟨hk.1.2, hk.2⟩))); (case aS => exact (below_size (by repeat (first | (with_reducible first | exact HB.out | apply below_alloc | apply pw_below_drewN | apply below_drew1) | exact HB.out)))); (case aL => have := LMc73.out; omega); intro v257 w77 ho hb hg hat; rw [← Ny256.out] at ho; have n0_ := Aside0.mk (Kd.R_after (ok := (fun k_ => some k_ ≠ (.slice Ao26 x8_1.length co26 : Value).ownBlock)) (by (with_reducible repeat (first | apply Kd.R_alloc | apply Kd.R_drewN | apply Kd.R_drew)); exact HO_7.out) hg hat); have n1_ := Aside0.mk (Kd.R_after (ok := (fun k_ => some k_ ≠ (.slice Ao25 x7_1.length co25 : Value).ownBlock)) (by (with_reducible repeat (first | apply Kd.R_alloc | apply Kd.R_drewN | apply Kd.R_drew)); exact HO_8.out) hg hat); have n2_ := Aside0.mk (Kd.S_after (ok := (fun k_ => some k_ ≠ (.slice Ao25 x7_1.length co25 : Value).ownBlock ∧ some k_ ≠ (.slice Ao26 x8_1.length co26 : Value).ownBlock)) (by (with_reducible repeat (first | apply Kd.S_alloc | apply Kd.S_drewN | apply Kd.S_drew)); exact HO_12.out) hg hat); have n3_ := Aside0.mk (hb); have n4_ := Aside0.mk (ho); clear HO_7; clear HO_8; clear HO_12; clear HB; clear HO255; have HO_7 := n0_; have HO_8 := n1_; have HO_12 := n2_; have HB := n3_; have HO258 := n4_; clear n0_ n1_ n2_ n3_ n4_; clear ho hb hg hat)))
               go_loopg [22, 24, 25] k3 (fun kq v22 v24 v25 w' => ∃ (x22_4 : Int) (x23_4 : List Int) (x24_4 : Int) (x25_4 : Int), v22 = .int .i64 x22_4 ∧ v24 = .int .i64 x24_4 ∧ v25 = .int .i64 x25_4 ∧ Aside0 (laws_FnSwapped.l3 kq t205 x7_1 x8_1 t226 t232 x18_3 x22_4 x23_4 x24_4 x25_4 = some r) ∧ Aside0 (kq ≤ k3) ∧ Aside0 (Kd.R (Kd.int .i64) 2 w' w.heap.size (fun k_ => some k_ ≠ ((.slice Ao26 x8_1.length co26) : Value).ownBlock ∧ some k_ ≠ (v257 : Value).ownBlock) (.slice Ao25 x7_1.length co25) x7_1) ∧ Aside0 (Kd.R (Kd.int .i64) 2 w' w.heap.size (fun k_ => some k_ ≠ ((.slice Ao25 x7_1.length co25) : Value).ownBlock ∧ some k_ ≠ (v257 : Value).ownBlock) (.slice Ao26 x8_1.length co26) x8_1) ∧ Aside0 (Kd.S (Kd.slice 2 (Kd.int .i64)) 25 w' w.heap.size (fun k_ => some k_ ≠ ((.slice Ao25 x7_1.length co25) : Value).ownBlock ∧ some k_ ≠ ((.slice Ao26 x8_1.length co26) : Value).ownBlock ∧ some k_ ≠ (v257 : Value).ownBlock) (.slice Ao74 t226.length co74) t226) ∧ Aside0 (Kd.R (Kd.int .i64) 2 w' w.heap.size (fun k_ => some k_ ≠ ((.slice Ao25 x7_1.length co25) : Value).ownBlock ∧ some k_ ≠ ((.slice Ao26 x8_1.length co26) : Value).ownBlock) v257 x23_4) ∧ Aside0 (Below w.heap.size w w'))
               case atStart => exact ⟨(0), (y256), (0), (0), (by first | rfl | (simp; done) | (simp [*]; done)), (by first | rfl | (simp; done) | (simp [*]; done)), (by first | rfl | (simp; done) | (simp [*]; done)), H', ⟨Nat.le_refl _⟩, ⟨by (with_reducible repeat (first | apply Kd.R_alloc | apply Kd.R_drewN | apply Kd.R_drew)); exact HO_7.out⟩, ⟨by (with_reducible repeat (first | apply Kd.R_alloc | apply Kd.R_drewN | apply Kd.R_drew)); exact HO_8.out⟩, ⟨by (with_reducible repeat (first | apply Kd.S_alloc | apply Kd.S_drewN | apply Kd.S_drew)); exact Kd.S_mono HO_12.out (fun _ hk => ⟨hk.1.1, ⟨hk.1.2, hk.2⟩⟩)⟩, ⟨by (with_reducible repeat (first | apply Kd.R_alloc | apply Kd.R_drewN | apply Kd.R_drew)); exact HO258.out⟩, ⟨by repeat (first | (with_reducible first | exact HB.out | apply below_alloc | apply pw_below_drewN | apply below_drew1) | exact HB.out)⟩⟩
               case round =>
                as_aux_lemma =>
                 clear H'
                 try clear c2
                 try clear p2
                 try clear q2
                 try clear hx2
                 try clear qi2
                 try clear c4
                 try clear c5
                 try clear c6
                 try clear p6
                 try clear c7
                 try clear c24
                 try clear p24
                 try clear q24
                 try clear hx24
                 try clear c25
                 try clear p25
                 try clear q25
                 try clear hx25
                 try clear qi25
                 try clear c46
                 try clear c46b0
                 try clear c58
                 try clear c59
                 try clear c60
                 try clear c60b0
                 try clear c63
                 try clear c64
                 try clear p64
                 try clear c65
                 try clear c66
                 try clear c67
                 try clear c67b0
                 try clear c68
                 try clear c68b0
                 try clear c69
                 try clear c69b0
                 try clear c70
                 try clear c70b0
                 try clear c70b1
                 try clear c71
                 try clear c71b0
                 try clear c71b1
                 try clear c72
                 try clear c72b0
                 try clear c73
                 try clear hx240_0
                 try clear hx241_0
                 try clear hx242_0
                 try clear hx243_0
                 try clear hx244_0
                 try clear hx245_0
                 try clear hx246_0
                 try clear hx247_0
                 try clear hx248_0
                 try clear hx249_0
                 try clear hx250_0
                 try clear hx251_0
                 try clear hx252_0
                 try clear p240
                 try clear p241
                 try clear p242
                 try clear p243
                 try clear p244
                 try clear p245
                 try clear p246
                 try clear p247
                 try clear p248
                 try clear p249
                 try clear p250
                 try clear p251
                 try clear p252
                 try clear q240
                 try clear q241
                 try clear q242
                 try clear q243
                 try clear q244
                 try clear q245
                 try clear q246
                 try clear q247
                 try clear q248
                 try clear q249
                 try clear q250
                 try clear q251
                 try clear q252
                 obtain ⟨x22_4, x23_4, x24_4, x25_4, rfl, rfl, rfl, HA, HK4, HO_7, HO_8, HO_12, HO_23, HB⟩ := hrel
                 cases gk with
                 | zero => exact absurd HA.out (by simp [laws_FnSwapped.l3])
                 | succ k4 =>
                  have H := HA.out
                  clear HA
                  simp only [laws_FnSwapped.l3] at H
                  by_cases c78 : x25_4 < t205
                  ·rw [if_pos c78] at H
                   have c78b0 : decide (x25_4 < t205) = true := decide_eq_true c78
                   clear c78
                   by_cases c79 : 0 ≤ x25_4
                   ·rw [if_pos c79] at H
                    have c79b0 : decide (0 ≤ x25_4) = true := decide_eq_true c79
                    clear c79
                    by_cases c80 : x25_4 < (x8_1.length : Int)
                    ·rw [if_pos c80] at H
                     have c80b0 : decide (x25_4 < (x8_1.length : Int)) = true := decide_eq_true c80
                     clear c80
                     by_cases c81 : x25_4 < (x7_1.length : Int)
                     ·rw [if_pos c81] at H
                      have c81b0 : decide (x25_4 < (x7_1.length : Int)) = true := decide_eq_true c81
                      clear c81
                      have HC82 := Aside0.mk H
                      clear H
                      have p259 : 0 ≤ (x25_4 : Int) := of_decide_eq_true (by first | (with_reducible assumption) | assumption)
                      have q259 : x25_4 < (x8_1.length : Int) := of_decide_eq_true (by first | (with_reducible assumption) | assumption)
                      obtain ⟨ad259, e259, hx259_0⟩ := Kd.at_int (Kd.R_reads' HO_8.out).2.2 x25_4 p259 q259
                      cases e259
                      replace p259 := eq_true p259
                      replace q259 := eq_true q259
                      have p260 : 0 ≤ (x25_4 : Int) := of_decide_eq_true (by first | (with_reducible assumption) | assumption)
                      have q260 : x25_4 < (x7_1.length : Int) := of_decide_eq_true (by first | (with_reducible assumption) | assumption)
                      obtain ⟨ad260, e260, hx260_0⟩ := Kd.at_int (Kd.R_reads' HO_7.out).2.2 x25_4 p260 q260
                      cases e260
                      replace p260 := eq_true p260
                      replace q260 := eq_true q260
                      go_upto_if 217 with (fail)
                      repeat (go_quiet (fail); go_upto_if 217 with (fail))
                      go_cut [22] (fun v22 wc => ∃ (kq : Nat) (x22_81 : Int), v22 = .int .i64 x22_81 ∧ Aside0 (laws_FnSwapped.j6 kq t205 x7_1 x8_1 t226 t232 x18_3 x22_81 x23_4 x24_4 x25_4 = some r) ∧ Aside0 (kq ≤ k4) ∧ Aside0 (Kd.R (Kd.int .i64) 2 wc w.heap.size (fun k_ => some k_ ≠ ((.slice (some ad259) x8_1.length co26) : Value).ownBlock ∧ some k_ ≠ (v257 : Value).ownBlock) (.slice (some ad260) x7_1.length co25) x7_1) ∧ Aside0 (Kd.R (Kd.int .i64) 2 wc w.heap.size (fun k_ => some k_ ≠ ((.slice (some ad260) x7_1.length co25) : Value).ownBlock ∧ some k_ ≠ (v257 : Value).ownBlock) (.slice (some ad259) x8_1.length co26) x8_1) ∧ Aside0 (Kd.S (Kd.slice 2 (Kd.int .i64)) 25 wc w.heap.size (fun k_ => some k_ ≠ ((.slice (some ad260) x7_1.length co25) : Value).ownBlock ∧ some k_ ≠ ((.slice (some ad259) x8_1.length co26) : Value).ownBlock ∧ some k_ ≠ (v257 : Value).ownBlock) (.slice Ao74 t226.length co74) t226) ∧ Aside0 (Kd.R (Kd.int .i64) 2 wc w.heap.size (fun k_ => some k_ ≠ ((.slice (some ad260) x7_1.length co25) : Value).ownBlock ∧ some k_ ≠ ((.slice (some ad259) x8_1.length co26) : Value).ownBlock) v257 x23_4) ∧ Aside0 (Below w.heap.size w wc))
                      case first =>
                       as_aux_lemma =>
                        have H := HC82.out
                        clear HC82
                        by_cases c83 : (rd x8_1 x25_4) = (rd x7_1 x25_4)
                        ·rw [if_pos c83] at H
                         have c83b0 : ((rd x8_1 x25_4) == (rd x7_1 x25_4)) = true := beq_iff_eq.mpr c83
                         have c83b1 : ((rd x8_1 x25_4) != (rd x7_1 x25_4)) = false := bne_eq_false_iff_eq.mpr c83
                         clear c83
                         (first | rw [c83b0] | (simp only [i64_w, i32_w]; rw [c83b0]) | skip)
                         have H' := Aside0.mk H
                         clear H
                         go_wp2
                         repeat (go_quiet (fail); try go_wp2)
                         go_meet
                         case rel => exact ⟨_, (x22_4), (by first | rfl | (simp; done) | (simp [*]; done)), H', ⟨by have := HK1.out; have := HJ23.out; have := HK3.out; have := HK4.out; first | omega | exact Nat.le_refl _⟩, ⟨by (with_reducible repeat (first | apply Kd.R_alloc | apply Kd.R_drewN | apply Kd.R_drew)); exact HO_7.out⟩, ⟨by (with_reducible repeat (first | apply Kd.R_alloc | apply Kd.R_drewN | apply Kd.R_drew)); exact HO_8.out⟩, ⟨by (with_reducible repeat (first | apply Kd.S_alloc | apply Kd.S_drewN | apply Kd.S_drew)); exact HO_12.out⟩, ⟨by (with_reducible repeat (first | apply Kd.R_alloc | apply Kd.R_drewN | apply Kd.R_drew)); exact HO_23.out⟩, ⟨by repeat (first | (with_reducible first | exact HB.out | apply below_alloc | apply pw_below_drewN | apply below_drew1) | exact HB.out)⟩⟩
                        ·rw [if_neg c83] at H
                         have c83b0 : ((rd x8_1 x25_4) == (rd x7_1 x25_4)) = false := beq_eq_false_iff_ne.mpr c83
                         have c83b1 : ((rd x8_1 x25_4) != (rd x7_1 x25_4)) = true := bne_iff_ne.mpr c83
                         (first | rw [c83b0] | (simp only [i64_w, i32_w]; rw [c83b0]) | skip)
                         have H' := Aside0.mk H
                         clear H
                         go_wp2
                         repeat (go_quiet (fail); try go_wp2)
                         go_meet
                         case rel => exact ⟨_, (wrap64 (x22_4 + 1)), (by first | rfl | (simp; done) | (simp [*]; done)), H', ⟨by have := HK1.out; have := HJ23.out; have := HK3.out; have := HK4.out; first | omega | exact Nat.le_refl _⟩, ⟨by (with_reducible repeat (first | apply Kd.R_alloc | apply Kd.R_drewN | apply Kd.R_drew)); exact HO_7.out⟩, ⟨by (with_reducible repeat (first | apply Kd.R_alloc | apply Kd.R_drewN | apply Kd.R_drew)); exact HO_8.out⟩, ⟨by (with_reducible repeat (first | apply Kd.S_alloc | apply Kd.S_drewN | apply Kd.S_drew)); exact HO_12.out⟩, ⟨by (with_reducible repeat (first | apply Kd.R_alloc | apply Kd.R_drewN | apply Kd.R_drew)); exact HO_23.out⟩, ⟨by repeat (first | (with_reducible first | exact HB.out | apply below_alloc | apply pw_below_drewN | apply below_drew1) | exact HB.out)⟩⟩
                      case rest =>
                       as_aux_lemma =>
                        clear HC82
                        try clear c2
                        try clear p2
                        try clear q2
                        try clear hx2
                        try clear qi2
                        try clear c4
                        try clear c5
                        try clear c6
                        try clear p6
                        try clear c7
                        try clear c8
                        try clear c24
                        try clear p24
                        try clear q24
                        try clear hx24
                        try clear c25
                        try clear p25
                        try clear q25
                        try clear hx25
                        try clear qi25
                        try clear p26
                        try clear q26
                        try clear hx26
                        try clear c46
                        try clear c46b0
                        try clear c58
                        try clear c59
                        try clear c60
                        try clear c60b0
                        try clear c63
                        try clear c64
                        try clear p64
                        try clear c65
                        try clear c66
                        try clear c67
                        try clear c67b0
                        try clear c68
                        try clear c68b0
                        try clear c69
                        try clear c69b0
                        try clear c70
                        try clear c70b0
                        try clear c70b1
                        try clear c71
                        try clear c71b0
                        try clear c71b1
                        try clear c72
                        try clear c72b0
                        try clear c73
                        try clear c78
                        try clear c78b0
                        try clear c79
                        try clear c79b0
                        try clear c80
                        try clear c80b0
                        try clear c81
                        try clear c81b0
                        try clear c83
                        try clear c83b0
                        try clear c83b1
                        try clear hx240_0
                        try clear hx241_0
                        try clear hx242_0
                        try clear hx243_0
                        try clear hx244_0
                        try clear hx245_0
                        try clear hx246_0
                        try clear hx247_0
                        try clear hx248_0
                        try clear hx249_0
                        try clear hx250_0
                        try clear hx251_0
                        try clear hx252_0
                        try clear hx259_0
                        try clear hx260_0
                        try clear p2
                        try clear p24
                        try clear p240
                        try clear p241
                        try clear p242
                        try clear p243
                        try clear p244
                        try clear p245
                        try clear p246
                        try clear p247
                        try clear p248
                        try clear p249
                        try clear p25
                        try clear p250
                        try clear p251
                        try clear p252
                        try clear p259
                        try clear p260
                        try clear p6
                        try clear p64
                        try clear q2
                        try clear q24
                        try clear q240
                        try clear q241
                        try clear q242
                        try clear q243
                        try clear q244
                        try clear q245
                        try clear q246
                        try clear q247
                        try clear q248
                        try clear q249
                        try clear q25
                        try clear q250
                        try clear q251
                        try clear q252
                        try clear q259
                        try clear q260
                        obtain ⟨kq, x22_81, rfl, HA, HJ81, HO_7, HO_8, HO_12, HO_23, HB⟩ := hcut
                        cases kq with
                        | zero => exact absurd HA.out (by simp [laws_FnSwapped.j6])
                        | succ kj81 =>
                         have H := HA.out
                         clear HA
                         simp only [laws_FnSwapped.j6] at H
                         have H' := Aside0.mk H
                         clear H
                         go_wp2
                         repeat (go_quiet (fail); try go_wp2)
                         go_loopg [24, 26] kj81 (fun kq v24 v26 w' => ∃ (x23_6 : List Int) (x24_6 : Int) (x26_6 : Int), v24 = .int .i64 x24_6 ∧ v26 = .int .i64 x26_6 ∧ Aside0 (laws_FnSwapped.l4 kq t205 x7_1 x8_1 t226 t232 x18_3 x22_81 x23_6 x24_6 x25_4 x26_6 = some r) ∧ Aside0 (kq ≤ kj81) ∧ Aside0 (Kd.R (Kd.int .i64) 2 w' w.heap.size (fun k_ => some k_ ≠ ((.slice (some ad259) x8_1.length co26) : Value).ownBlock ∧ some k_ ≠ (v257 : Value).ownBlock) (.slice (some ad260) x7_1.length co25) x7_1) ∧ Aside0 (Kd.R (Kd.int .i64) 2 w' w.heap.size (fun k_ => some k_ ≠ ((.slice (some ad260) x7_1.length co25) : Value).ownBlock ∧ some k_ ≠ (v257 : Value).ownBlock) (.slice (some ad259) x8_1.length co26) x8_1) ∧ Aside0 (Kd.S (Kd.slice 2 (Kd.int .i64)) 25 w' w.heap.size (fun k_ => some k_ ≠ ((.slice (some ad260) x7_1.length co25) : Value).ownBlock ∧ some k_ ≠ ((.slice (some ad259) x8_1.length co26) : Value).ownBlock ∧ some k_ ≠ (v257 : Value).ownBlock) (.slice Ao74 t226.length co74) t226) ∧ Aside0 (Kd.R (Kd.int .i64) 2 w' w.heap.size (fun k_ => some k_ ≠ ((.slice (some ad260) x7_1.length co25) : Value).ownBlock ∧ some k_ ≠ ((.slice (some ad259) x8_1.length co26) : Value).ownBlock) v257 x23_6) ∧ Aside0 (Below w.heap.size w w'))
                         case atStart => exact ⟨(x23_4), (x24_4), (wrap64 (x25_4 + 1)), (by first | rfl | (simp; done) | (simp [*]; done)), (by first | rfl | (simp; done) | (simp [*]; done)), H', ⟨Nat.le_refl _⟩, ⟨by (with_reducible repeat (first | apply Kd.R_alloc | apply Kd.R_drewN | apply Kd.R_drew)); exact HO_7.out⟩, ⟨by (with_reducible repeat (first | apply Kd.R_alloc | apply Kd.R_drewN | apply Kd.R_drew)); exact HO_8.out⟩, ⟨by (with_reducible repeat (first | apply Kd.S_alloc | apply Kd.S_drewN | apply Kd.S_drew)); exact HO_12.out⟩, ⟨by (with_reducible repeat (first | apply Kd.R_alloc | apply Kd.R_drewN | apply Kd.R_drew)); exact HO_23.out⟩, ⟨by repeat (first | (with_reducible first | exact HB.out | apply below_alloc | apply pw_below_drewN | apply below_drew1) | exact HB.out)⟩⟩
                         case round =>
                          as_aux_lemma =>
                           clear H'
                           try clear c2
                           try clear p2
                           try clear q2
                           try clear hx2
                           try clear qi2
                           try clear c4
                           try clear c5
                           try clear c6
                           try clear p6
                           try clear c7
                           try clear c8
                           try clear c24
                           try clear p24
                           try clear q24
                           try clear hx24
                           try clear c25
                           try clear p25
                           try clear q25
                           try clear hx25
                           try clear qi25
                           try clear p26
                           try clear q26
                           try clear hx26
                           try clear c46
                           try clear c46b0
                           try clear c58
                           try clear c59
                           try clear c60
                           try clear c60b0
                           try clear c63
                           try clear c64
                           try clear p64
                           try clear c65
                           try clear c66
                           try clear c67
                           try clear c67b0
                           try clear c68
                           try clear c68b0
                           try clear c69
                           try clear c69b0
                           try clear c70
                           try clear c70b0
                           try clear c70b1
                           try clear c71
                           try clear c71b0
                           try clear c71b1
                           try clear c72
                           try clear c72b0
                           try clear c73
                           try clear c78
                           try clear c78b0
                           try clear c79
                           try clear c79b0
                           try clear c80
                           try clear c80b0
                           try clear c81
                           try clear c81b0
                           try clear c83
                           try clear c83b0
                           try clear c83b1
                           try clear hx240_0
                           try clear hx241_0
                           try clear hx242_0
                           try clear hx243_0
                           try clear hx244_0
                           try clear hx245_0
                           try clear hx246_0
                           try clear hx247_0
                           try clear hx248_0
                           try clear hx249_0
                           try clear hx250_0
                           try clear hx251_0
                           try clear hx252_0
                           try clear hx259_0
                           try clear hx260_0
                           try clear p2
                           try clear p24
                           try clear p240
                           try clear p241
                           try clear p242
                           try clear p243
                           try clear p244
                           try clear p245
                           try clear p246
                           try clear p247
                           try clear p248
                           try clear p249
                           try clear p25
                           try clear p250
                           try clear p251
                           try clear p252
                           try clear p259
                           try clear p26
                           try clear p260
                           try clear p6
                           try clear p64
                           try clear q2
                           try clear q24
                           try clear q240
                           try clear q241
                           try clear q242
                           try clear q243
                           try clear q244
                           try clear q245
                           try clear q246
                           try clear q247
                           try clear q248
                           try clear q249
                           try clear q25
                           try clear q250
                           try clear q251
                           try clear q252
                           try clear q259
                           try clear q26
                           try clear q260
                           obtain ⟨x23_6, x24_6, x26_6, rfl, rfl, HA, HK6, HO_7, HO_8, HO_12, HO_23, HB⟩ := hrel
                           cases gk with
                           | zero => exact absurd HA.out (by simp [laws_FnSwapped.l4])
                           | succ k6 =>
                            have H := HA.out
                            clear HA
                            simp only [laws_FnSwapped.l4] at H
                            have HC84 := Aside0.mk H
                            clear H
                            go_upto_region 40 with (fail)
                            repeat (go_quiet (fail); go_upto_region 40 with (fail))
                            go_cut [235] (fun v235 wc => ∃ (kq : Nat) (x235_83 : Bool), v235 = .bool x235_83 ∧ Aside0 (laws_FnSwapped.j8 kq t205 x7_1 x8_1 t226 t232 x18_3 x22_81 x23_6 x24_6 x25_4 x26_6 x235_83 = some r) ∧ Aside0 (kq ≤ k6) ∧ Aside0 (Kd.R (Kd.int .i64) 2 wc w.heap.size (fun k_ => some k_ ≠ ((.slice (some ad259) x8_1.length co26) : Value).ownBlock ∧ some k_ ≠ (v257 : Value).ownBlock) (.slice (some ad260) x7_1.length co25) x7_1) ∧ Aside0 (Kd.R (Kd.int .i64) 2 wc w.heap.size (fun k_ => some k_ ≠ ((.slice (some ad260) x7_1.length co25) : Value).ownBlock ∧ some k_ ≠ (v257 : Value).ownBlock) (.slice (some ad259) x8_1.length co26) x8_1) ∧ Aside0 (Kd.S (Kd.slice 2 (Kd.int .i64)) 25 wc w.heap.size (fun k_ => some k_ ≠ ((.slice (some ad260) x7_1.length co25) : Value).ownBlock ∧ some k_ ≠ ((.slice (some ad259) x8_1.length co26) : Value).ownBlock ∧ some k_ ≠ (v257 : Value).ownBlock) (.slice Ao74 t226.length co74) t226) ∧ Aside0 (Kd.R (Kd.int .i64) 2 wc w.heap.size (fun k_ => some k_ ≠ ((.slice (some ad260) x7_1.length co25) : Value).ownBlock ∧ some k_ ≠ ((.slice (some ad259) x8_1.length co26) : Value).ownBlock) v257 x23_6) ∧ Aside0 (Below w.heap.size w wc))
                            case first =>
                             as_aux_lemma =>
                              have H := HC84.out
                              clear HC84
                              by_cases c85 : x26_6 < t205
                              ·rw [if_pos c85] at H
                               have c85b0 : decide (x26_6 < t205) = true := decide_eq_true c85
                               clear c85
                               (first | rw [c85b0] | (simp only [i64_w, i32_w]; rw [c85b0]) | skip)
                               by_cases c86 : 0 ≤ x25_4
                               ·rw [if_pos c86] at H
                                have c86b0 : decide (0 ≤ x25_4) = true := decide_eq_true c86
                                clear c86
                                by_cases c87 : x25_4 < (x23_6.length : Int)
                                ·rw [if_pos c87] at H
                                 have c87b0 : decide (x25_4 < (x23_6.length : Int)) = true := decide_eq_true c87
                                 clear c87
                                 by_cases c88 : x25_4 < (x7_1.length : Int)
                                 ·rw [if_pos c88] at H
                                  have c88b0 : decide (x25_4 < (x7_1.length : Int)) = true := decide_eq_true c88
                                  clear c88
                                  have H' := Aside0.mk H
                                  clear H
                                  obtain ⟨Ao89, co89, eo89⟩ := Kd.R_slice HO_23.out
                                  subst eo89
                                  have p261 : 0 ≤ (x25_4 : Int) := of_decide_eq_true (by first | (with_reducible assumption) | assumption)
                                  have q261 : x25_4 < (x23_6.length : Int) := of_decide_eq_true (by first | (with_reducible assumption) | assumption)
                                  obtain ⟨ad261, e261, hx261_0⟩ := Kd.at_int (Kd.R_reads' HO_23.out).2.2 x25_4 p261 q261
                                  cases e261
                                  replace p261 := eq_true p261
                                  replace q261 := eq_true q261
                                  have p262 : 0 ≤ (x25_4 : Int) := of_decide_eq_true (by first | (with_reducible assumption) | assumption)
                                  have q262 : x25_4 < (x7_1.length : Int) := of_decide_eq_true (by first | (with_reducible assumption) | assumption)
                                  obtain ⟨ad262, e262, hx262_0⟩ := Kd.at_int (Kd.R_reads' HO_7.out).2.2 x25_4 p262 q262
                                  obtain rfl : ad260 = ad262 := (by injection e262)
                                  replace p262 := eq_true p262
                                  replace q262 := eq_true q262
                                  go_wp2
                                  repeat (go_quiet (fail); try go_wp2)
                                  go_meet
                                  case rel => exact ⟨_, (((rd x23_6 x25_4) != (rd x7_1 x25_4))), (by first | rfl | (simp; done) | (simp [*]; done)), H', ⟨by have := HK1.out; have := HJ23.out; have := HK3.out; have := HK4.out; have := HJ81.out; have := HK6.out; first | omega | exact Nat.le_refl _⟩, ⟨by (with_reducible repeat (first | apply Kd.R_alloc | apply Kd.R_drewN | apply Kd.R_drew)); exact HO_7.out⟩, ⟨by (with_reducible repeat (first | apply Kd.R_alloc | apply Kd.R_drewN | apply Kd.R_drew)); exact HO_8.out⟩, ⟨by (with_reducible repeat (first | apply Kd.S_alloc | apply Kd.S_drewN | apply Kd.S_drew)); exact HO_12.out⟩, ⟨by (with_reducible repeat (first | apply Kd.R_alloc | apply Kd.R_drewN | apply Kd.R_drew)); exact HO_23.out⟩, ⟨by repeat (first | (with_reducible first | exact HB.out | apply below_alloc | apply pw_below_drewN | apply below_drew1) | exact HB.out)⟩⟩
                                 ·rw [if_neg c88] at H
                                  exact absurd H (by simp)
                                ·rw [if_neg c87] at H
                                 exact absurd H (by simp)
                               ·rw [if_neg c86] at H
                                exact absurd H (by simp)
                              ·rw [if_neg c85] at H
                               have c85b0 : decide (x26_6 < t205) = false := decide_eq_false c85
                               clear c85
                               (first | rw [c85b0] | (simp only [i64_w, i32_w]; rw [c85b0]) | skip)
                               have H' := Aside0.mk H
                               clear H
                               go_wp2
                               repeat (go_quiet (fail); try go_wp2)
                               go_meet
                               case rel => exact ⟨_, (false), (by first | rfl | (simp; done) | (simp [*]; done)), H', ⟨by have := HK1.out; have := HJ23.out; have := HK3.out; have := HK4.out; have := HJ81.out; have := HK6.out; first | omega | exact Nat.le_refl _⟩, ⟨by (with_reducible repeat (first | apply Kd.R_alloc | apply Kd.R_drewN | apply Kd.R_drew)); exact HO_7.out⟩, ⟨by (with_reducible repeat (first | apply Kd.R_alloc | apply Kd.R_drewN | apply Kd.R_drew)); exact HO_8.out⟩, ⟨by (with_reducible repeat (first | apply Kd.S_alloc | apply Kd.S_drewN | apply Kd.S_drew)); exact HO_12.out⟩, ⟨by (with_reducible repeat (first | apply Kd.R_alloc | apply Kd.R_drewN | apply Kd.R_drew)); exact HO_23.out⟩, ⟨by repeat (first | (with_reducible first | exact HB.out | apply below_alloc | apply pw_below_drewN | apply below_drew1) | exact HB.out)⟩⟩
                            case rest =>
                             as_aux_lemma =>
                              clear HC84
                              try clear c2
                              try clear p2
                              try clear q2
                              try clear hx2
                              try clear qi2
                              try clear c4
                              try clear c5
                              try clear c6
                              try clear p6
                              try clear c7
                              try clear c8
                              try clear c24
                              try clear p24
                              try clear q24
                              try clear hx24
                              try clear c25
                              try clear p25
                              try clear q25
                              try clear hx25
                              try clear qi25
                              try clear p26
                              try clear q26
                              try clear hx26
                              try clear c46
                              try clear c46b0
                              try clear c58
                              try clear c59
                              try clear c60
                              try clear c60b0
                              try clear c63
                              try clear c64
                              try clear p64
                              try clear c65
                              try clear c66
                              try clear c67
                              try clear c67b0
                              try clear c68
                              try clear c68b0
                              try clear c69
                              try clear c69b0
                              try clear c70
                              try clear c70b0
                              try clear c70b1
                              try clear c71
                              try clear c71b0
                              try clear c71b1
                              try clear c72
                              try clear c72b0
                              try clear c73
                              try clear c78
                              try clear c78b0
                              try clear c79
                              try clear c79b0
                              try clear c80
                              try clear c80b0
                              try clear c81
                              try clear c81b0
                              try clear c83
                              try clear c83b0
                              try clear c83b1
                              try clear c85
                              try clear c85b0
                              try clear c86
                              try clear c86b0
                              try clear c87
                              try clear c87b0
                              try clear c88
                              try clear c88b0
                              try clear hx240_0
                              try clear hx241_0
                              try clear hx242_0
                              try clear hx243_0
                              try clear hx244_0
                              try clear hx245_0
                              try clear hx246_0
                              try clear hx247_0
                              try clear hx248_0
                              try clear hx249_0
                              try clear hx250_0
                              try clear hx251_0
                              try clear hx252_0
                              try clear hx259_0
                              try clear hx260_0
                              try clear hx261_0
                              try clear hx262_0
                              try clear p2
                              try clear p24
                              try clear p240
                              try clear p241
                              try clear p242
                              try clear p243
                              try clear p244
                              try clear p245
                              try clear p246
                              try clear p247
                              try clear p248
                              try clear p249
                              try clear p25
                              try clear p250
                              try clear p251
                              try clear p252
                              try clear p259
                              try clear p26
                              try clear p260
                              try clear p261
                              try clear p262
                              try clear p6
                              try clear p64
                              try clear q2
                              try clear q24
                              try clear q240
                              try clear q241
                              try clear q242
                              try clear q243
                              try clear q244
                              try clear q245
                              try clear q246
                              try clear q247
                              try clear q248
                              try clear q249
                              try clear q25
                              try clear q250
                              try clear q251
                              try clear q252
                              try clear q259
                              try clear q26
                              try clear q260
                              try clear q261
                              try clear q262
                              obtain ⟨kq, x235_83, rfl, HA, HJ83, HO_7, HO_8, HO_12, HO_23, HB⟩ := hcut
                              cases kq with
                              | zero => exact absurd HA.out (by simp [laws_FnSwapped.j8])
                              | succ kj83 =>
                               have H := HA.out
                               clear HA
                               simp only [laws_FnSwapped.j8] at H
                               by_cases c90 : x235_83 = true
                               ·subst c90
                                have H1 : (if 0 ≤ x26_6 then (if x26_6 < (x23_6.length : Int) then (if 0 ≤ x25_4 then (if x25_4 < (x7_1.length : Int) then (if (rd x23_6 x26_6) = (rd x7_1 x25_4) then (if x25_4 < (x23_6.length : Int) then (laws_FnSwapped.l4 kj83 t205 x7_1 x8_1 t226 t232 x18_3 x22_81 ((x23_6.set (x26_6 : Int).toNat (rd x23_6 x25_4)).set (x25_4 : Int).toNat (rd x7_1 x25_4)) (wrap64 (x24_6 + 1)) x25_4 (wrap64 (x26_6 + 1))) else (none)) else (laws_FnSwapped.l4 kj83 t205 x7_1 x8_1 t226 t232 x18_3 x22_81 x23_6 x24_6 x25_4 (wrap64 (x26_6 + 1)))) else (none)) else (none)) else (none)) else (none)) = some r := by rw [if_pos rfl] at H; exact H
                                clear H
                                have H := H1
                                clear H1
                                by_cases c91 : 0 ≤ x26_6
                                ·rw [if_pos c91] at H
                                 have c91b0 : decide (0 ≤ x26_6) = true := decide_eq_true c91
                                 clear c91
                                 by_cases c92 : x26_6 < (x23_6.length : Int)
                                 ·rw [if_pos c92] at H
                                  have c92b0 : decide (x26_6 < (x23_6.length : Int)) = true := decide_eq_true c92
                                  clear c92
                                  by_cases c93 : 0 ≤ x25_4
                                  ·rw [if_pos c93] at H
                                   have c93b0 : decide (0 ≤ x25_4) = true := decide_eq_true c93
                                   clear c93
                                   by_cases c94 : x25_4 < (x7_1.length : Int)
                                   ·rw [if_pos c94] at H
                                    have c94b0 : decide (x25_4 < (x7_1.length : Int)) = true := decide_eq_true c94
                                    clear c94
                                    by_cases c95 : (rd x23_6 x26_6) = (rd x7_1 x25_4)
                                    ·rw [if_pos c95] at H
                                     have c95b0 : ((rd x23_6 x26_6) == (rd x7_1 x25_4)) = true := beq_iff_eq.mpr c95
                                     have c95b1 : ((rd x23_6 x26_6) != (rd x7_1 x25_4)) = false := bne_eq_false_iff_eq.mpr c95
                                     clear c95
                                     by_cases c96 : x25_4 < (x23_6.length : Int)
                                     ·rw [if_pos c96] at H
                                      have c96b0 : decide (x25_4 < (x23_6.length : Int)) = true := decide_eq_true c96
                                      clear c96
                                      obtain ⟨y266, hy266⟩ : ∃ y_ : List Int, y_ = (x23_6.set (x26_6 : Int).toNat (rd x23_6 x25_4)) := ⟨_, rfl⟩
                                      replace H : (laws_FnSwapped.l4 kj83 t205 x7_1 x8_1 t226 t232 x18_3 x22_81 (y266.set (x25_4 : Int).toNat (rd x7_1 x25_4)) (wrap64 (x24_6 + 1)) x25_4 (wrap64 (x26_6 + 1))) = some r := by first | (rw [hy266]; with_reducible exact H) | (have H2_ := (Option.bind_some _ _).symm.trans H; rw [hy266]; with_reducible exact H2_) | (have H2_ := (Option.bind_some _ _).symm.trans H; with_reducible exact H2_) | with_reducible exact H | (rw [hy266]; exact H) | exact H
                                      have Ny266 := Aside0.mk hy266
                                      clear hy266
                                      obtain ⟨y268, hy268⟩ : ∃ y_ : List Int, y_ = (y266.set (x25_4 : Int).toNat (rd x7_1 x25_4)) := ⟨_, rfl⟩
                                      replace H : (laws_FnSwapped.l4 kj83 t205 x7_1 x8_1 t226 t232 x18_3 x22_81 y268 (wrap64 (x24_6 + 1)) x25_4 (wrap64 (x26_6 + 1))) = some r := by first | (rw [hy268]; with_reducible exact H) | (have H2_ := (Option.bind_some _ _).symm.trans H; rw [hy268]; with_reducible exact H2_) | (have H2_ := (Option.bind_some _ _).symm.trans H; with_reducible exact H2_) | with_reducible exact H | (rw [hy268]; exact H) | exact H
                                      have Ny268 := Aside0.mk hy268
                                      clear hy268
                                      have H' := Aside0.mk H
                                      clear H
                                      obtain ⟨Ao99, co99, eo99⟩ := Kd.R_slice HO_23.out
                                      subst eo99
                                      have p263 : 0 ≤ (x26_6 : Int) := of_decide_eq_true (by first | (with_reducible assumption) | assumption)
                                      have q263 : x26_6 < (x23_6.length : Int) := of_decide_eq_true (by first | (with_reducible assumption) | assumption)
                                      obtain ⟨ad263, e263, hx263_0⟩ := Kd.at_int (Kd.R_reads' HO_23.out).2.2 x26_6 p263 q263
                                      cases e263
                                      replace p263 := eq_true p263
                                      replace q263 := eq_true q263
                                      have p264 : 0 ≤ (x25_4 : Int) := of_decide_eq_true (by first | (with_reducible assumption) | assumption)
                                      have q264 : x25_4 < (x7_1.length : Int) := of_decide_eq_true (by first | (with_reducible assumption) | assumption)
                                      obtain ⟨ad264, e264, hx264_0⟩ := Kd.at_int (Kd.R_reads' HO_7.out).2.2 x25_4 p264 q264
                                      obtain rfl : ad260 = ad264 := (by injection e264)
                                      replace p264 := eq_true p264
                                      replace q264 := eq_true q264
                                      have p265 : 0 ≤ (x25_4 : Int) := of_decide_eq_true (by first | (with_reducible assumption) | assumption)
                                      have q265 : x25_4 < (x23_6.length : Int) := of_decide_eq_true (by first | (with_reducible assumption) | assumption)
                                      obtain ⟨ad265, e265, hx265_0⟩ := Kd.at_int (Kd.R_reads' HO_23.out).2.2 x25_4 p265 q265
                                      obtain rfl : ad263 = ad265 := (by injection e265)
                                      replace p265 := eq_true p265
                                      replace q265 := eq_true q265
                                      have p97 : 0 ≤ (x26_6 : Int) := of_decide_eq_true (by first | (with_reducible assumption) | assumption)
                                      have q97 : (x26_6 : Int) < ((x23_6.length : Int) : Int) := of_decide_eq_true (by first | (with_reducible assumption) | assumption)
                                      obtain ⟨go97, co97, eo97, gb97, gl97, cl97, HG97⟩ := Kd.R_form HO_23.out (by omega)
                                      (first | cases eo97 | (injection eo97 with ea_ en_ ec_; (first | subst ea_ | (injection ea_ with ea_; subst ea_)); subst ec_; clear en_))
                                      have GB97 := Aside0.mk gb97
                                      have GG97 := Aside0.mk HG97
                                      clear gb97 gl97 HG97
                                      (first | simp only [add_plain] at hx263_0 | skip)
                                      (first | simp only [add_plain] at hx265_0 | skip)
                                      obtain ⟨hx97_0, hf97_0⟩ := Kd.R_celln 0 HO_23.out (x26_6 : Int) p97 q97
                                      replace p97 := eq_true p97
                                      replace q97 := eq_true q97
                                      have HP100 := Kd.R_putg HO_23.out (x26_6 : Int) (rd x23_6 x25_4)
                                      go_wp2_with (first | ((with_reducible refine gate_store (t := 2) (p := 253) rfl ?_); (try (rw [drewN_self wc]; generalize hq_ : World.drewN wc _ = wc; have n0_ := Aside0.mk (Kd.R_at hq_ HO_7.out); have n1_ := Aside0.mk (Kd.R_at hq_ HO_8.out); have n2_ := Aside0.mk (Kd.S_at hq_ HO_12.out); have n3_ := Aside0.mk (Kd.R_at hq_ HO_23.out); have n4_ := Aside0.mk (below_at hq_ HB.out); clear hq_ HO_7 HO_8 HO_12 HO_23 HB; have HO_7 := n0_; have HO_8 := n1_; have HO_12 := n2_; have HO_23 := n3_; have HB := n4_; clear n0_ n1_ n2_ n3_ n4_; (try (have HP100 := Kd.R_putg HO_23.out (x26_6 : Int) (rd x23_6 x25_4))); obtain ⟨hx97_0, hf97_0⟩ := Kd.R_celln 0 HO_23.out (x26_6 : Int) (of_eq_true p97) (of_eq_true q97))); refine store_event (t := 2) (p := 253) (v := ?vo_w101) (w1 := (wc.setCell ⟨go97, (x26_6 : Int).toNat, none⟩ (.int .i64 (rd x23_6 x25_4)))) ?hg ?ho ?hn ?hr ?_; (case ho => rfl); (case hg => rfl); (case hn => rfl); (case hr => first | (go_simp; done) | (go_simp; rfl)); intro w101 hw; have hg : wc.grownBy w101 (some go97) := (by rw [hw]; exact HP100.2); have hp_ : Kd.R (Kd.int .i64) 2 w101 w.heap.size (fun k_ => some k_ ≠ (.slice (some ad260) x7_1.length co25 : Value).ownBlock ∧ some k_ ≠ (.slice (some ad259) x8_1.length co26 : Value).ownBlock) (.slice (some ⟨go97, 0, none⟩) x23_6.length co99) y266 := (by rw [hw, Ny266.out]; exact HP100.1); clear HP100; have n0_ := Aside0.mk (Kd.R_after (v := (.slice (some ⟨go97, 0, none⟩) x23_6.length co99)) (v1 := (.slice (some ⟨go97, 0, none⟩) x23_6.length co99)) (ok := (fun k_ => some k_ ≠ (.slice (some ad259) x8_1.length co26 : Value).ownBlock)) (by (with_reducible repeat (first | apply Kd.R_alloc | apply Kd.R_drewN | apply Kd.R_drew)); exact HO_7.out) hg (.inl rfl)); have n1_ := Aside0.mk (Kd.R_after (v := (.slice (some ⟨go97, 0, none⟩) x23_6.length co99)) (v1 := (.slice (some ⟨go97, 0, none⟩) x23_6.length co99)) (ok := (fun k_ => some k_ ≠ (.slice (some ad260) x7_1.length co25 : Value).ownBlock)) (by (with_reducible repeat (first | apply Kd.R_alloc | apply Kd.R_drewN | apply Kd.R_drew)); exact HO_8.out) hg (.inl rfl)); have n2_ := Aside0.mk (Kd.S_after (v := (.slice (some ⟨go97, 0, none⟩) x23_6.length co99)) (v1 := (.slice (some ⟨go97, 0, none⟩) x23_6.length co99)) (ok := (fun k_ => some k_ ≠ (.slice (some ad260) x7_1.length co25 : Value).ownBlock ∧ some k_ ≠ (.slice (some ad259) x8_1.length co26 : Value).ownBlock)) (by (with_reducible repeat (first | apply Kd.S_alloc | apply Kd.S_drewN | apply Kd.S_drew)); exact Kd.S_mono HO_12.out (fun _ hk => ⟨⟨hk.1, hk.2.1⟩, hk.2.2⟩)) hg (.inl rfl)); have n3_ := Aside0.mk (hp_); have n4_ := Aside0.mk ((by rw [hw]; exact below_set (HB.out) GB97.out : Below w.heap.size w w101)); clear HO_7; clear HO_8; clear HO_12; clear HO_23; clear HB; have HO_7 := n0_; have HO_8 := n1_; have HO_12 := n2_; have HO_23 := n3_; have HB := n4_; clear n0_ n1_ n2_ n3_ n4_; clear hg hw hp_; have p267 : 0 ≤ (x25_4 : Int) := of_decide_eq_true (by first | (with_reducible assumption) | assumption); have q267 : x25_4 < (x7_1.length : Int) := of_decide_eq_true (by first | (with_reducible assumption) | assumption); obtain ⟨ad267, e267, hx267_0⟩ := Kd.at_int (Kd.R_reads' HO_7.out).2.2 x25_4 p267 q267; obtain rfl : ad260 = ad267 := (by injection e267); replace p267 := eq_true p267; replace q267 := eq_true q267; have p98 : 0 ≤ (x25_4 : Int) := of_decide_eq_true (by first | (with_reducible assumption) | assumption); have q98 : (x25_4 : Int) < ((x23_6.length : Int) : Int) := of_decide_eq_true (by first | (with_reducible assumption) | assumption); obtain ⟨hx98_0, hf98_0⟩ := Kd.R_celln 0 HO_23.out (x25_4 : Int) p98 q98; replace p98 := eq_true p98; replace q98 := eq_true q98; obtain ⟨hy102_, hz102_⟩ := Kd.R_celln 0 HO_23.out (x25_4 : Int) (of_decide_eq_true (by first | (with_reducible assumption) | assumption)) (of_decide_eq_true (by first | (with_reducible assumption) | assumption)); have HP102 := Kd.R_putg HO_23.out (x25_4 : Int) (rd x7_1 x25_4)) | ((with_reducible refine gate_store (t := 2) (p := 260) rfl ?_); (try (rw [drewN_self w101]; generalize hq_ : World.drewN w101 _ = w101; have n0_ := Aside0.mk (Kd.R_at hq_ HO_7.out); have n1_ := Aside0.mk (Kd.R_at hq_ HO_8.out); have n2_ := Aside0.mk (Kd.S_at hq_ HO_12.out); have n3_ := Aside0.mk (Kd.R_at hq_ HO_23.out); have n4_ := Aside0.mk (below_at hq_ HB.out); clear hq_ HO_7 HO_8 HO_12 HO_23 HB; have HO_7 := n0_; have HO_8 := n1_; have HO_12 := n2_; have HO_23 := n3_; have HB := n4_; clear n0_ n1_ n2_ n3_ n4_; (try (obtain ⟨hy102_, hz102_⟩ := Kd.R_celln 0 HO_23.out (x25_4 : Int) (of_decide_eq_true (by first | (with_reducible assumption) | assumption)) (of_decide_eq_true (by first | (with_reducible assumption) | assumption)))); (try (have HP102 := Kd.R_putg HO_23.out (x25_4 : Int) (rd x7_1 x25_4))))); refine store_event (t := 2) (p := 260) (v := ?vo_w103) (w1 := (w101.setCell ⟨go97, (x25_4 : Int).toNat, none⟩ (.int .i64 (rd x7_1 x25_4)))) ?hg ?ho ?hn ?hr ?_; (case ho => rfl); (case hg => rfl); (case hn => rfl); (case hr => first | (go_simp; done) | (go_simp; rfl)); intro w103 hw; have hg : w101.grownBy w103 (some go97) := (by rw [hw]; exact HP102.2); have hp_ : Kd.R (Kd.int .i64) 2 w103 w.heap.size (fun k_ => some k_ ≠ (.slice (some ad260) x7_1.length co25 : Value).ownBlock ∧ some k_ ≠ (.slice (some ad259) x8_1.length co26 : Value).ownBlock) (.slice (some ⟨go97, 0, none⟩) x23_6.length co99) y268 := (by rw [hw, Ny268.out]; exact HP102.1); clear HP102; have n0_ := Aside0.mk (Kd.R_after (v := (.slice (some ⟨go97, 0, none⟩) x23_6.length co99)) (v1 := (.slice (some ⟨go97, 0, none⟩) x23_6.length co99)) (ok := (fun k_ => some k_ ≠ (.slice (some ad259) x8_1.length co26 : Value).ownBlock)) (by (with_reducible repeat (first | apply Kd.R_alloc | apply Kd.R_drewN | apply Kd.R_drew)); exact HO_7.out) hg (.inl rfl)); have n1_ := Aside0.mk (Kd.R_after (v := (.slice (some ⟨go97, 0, none⟩) x23_6.length co99)) (v1 := (.slice (some ⟨go97, 0, none⟩) x23_6.length co99)) (ok := (fun k_ => some k_ ≠ (.slice (some ad260) x7_1.length co25 : Value).ownBlock)) (by (with_reducible repeat (first | apply Kd.R_alloc | apply Kd.R_drewN | apply Kd.R_drew)); exact HO_8.out) hg (.inl rfl)); have n2_ := Aside0.mk (Kd.S_after (v := (.slice (some ⟨go97, 0, none⟩) x23_6.length co99)) (v1 := (.slice (some ⟨go97, 0, none⟩) x23_6.length co99)) (ok := (fun k_ => some k_ ≠ (.slice (some ad260) x7_1.length co25 : Value).ownBlock ∧ some k_ ≠ (.slice (some ad259) x8_1.length co26 : Value).ownBlock)) (by (with_reducible repeat (first | apply Kd.S_alloc | apply Kd.S_drewN | apply Kd.S_drew)); exact HO_12.out) hg (.inl rfl)); have n3_ := Aside0.mk (hp_); have n4_ := Aside0.mk ((by rw [hw]; exact below_set (HB.out) GB97.out : Below w.heap.size w w103)); clear HO_7; clear HO_8; clear HO_12; clear HO_23; clear HB; have HO_7 := n0_; have HO_8 := n1_; have HO_12 := n2_; have HO_23 := n3_; have HB := n4_; clear n0_ n1_ n2_ n3_ n4_; clear hg hw hp_))
                                      repeat (go_quiet (first | ((with_reducible refine gate_store (t := 2) (p := 253) rfl ?_); (try (rw [drewN_self wc]; generalize hq_ : World.drewN wc _ = wc; have n0_ := Aside0.mk (Kd.R_at hq_ HO_7.out); have n1_ := Aside0.mk (Kd.R_at hq_ HO_8.out); have n2_ := Aside0.mk (Kd.S_at hq_ HO_12.out); have n3_ := Aside0.mk (Kd.R_at hq_ HO_23.out); have n4_ := Aside0.mk (below_at hq_ HB.out); clear hq_ HO_7 HO_8 HO_12 HO_23 HB; have HO_7 := n0_; have HO_8 := n1_; have HO_12 := n2_; have HO_23 := n3_; have HB := n4_; clear n0_ n1_ n2_ n3_ n4_; (try (have HP100 := Kd.R_putg HO_23.out (x26_6 : Int) (rd x23_6 x25_4))); obtain ⟨hx97_0, hf97_0⟩ := Kd.R_celln 0 HO_23.out (x26_6 : Int) (of_eq_true p97) (of_eq_true q97))); refine store_event (t := 2) (p := 253) (v := ?vo_w101) (w1 := (wc.setCell ⟨go97, (x26_6 : Int).toNat, none⟩ (.int .i64 (rd x23_6 x25_4)))) ?hg ?ho ?hn ?hr ?_; (case ho => rfl); (case hg => rfl); (case hn => rfl); (case hr => first | (go_simp; done) | (go_simp; rfl)); intro w101 hw; have hg : wc.grownBy w101 (some go97) := (by rw [hw]; exact HP100.2); have hp_ : Kd.R (Kd.int .i64) 2 w101 w.heap.size (fun k_ => some k_ ≠ (.slice (some ad260) x7_1.length co25 : Value).ownBlock ∧ some k_ ≠ (.slice (some ad259) x8_1.length co26 : Value).ownBlock) (.slice (some ⟨go97, 0, none⟩) x23_6.length co99) y266 := (by rw [hw, Ny266.out]; exact HP100.1); clear HP100; have n0_ := Aside0.mk (Kd.R_after (v := (.slice (some ⟨go97, 0, none⟩) x23_6.length co99)) (v1 := (.slice (some ⟨go97, 0, none⟩) x23_6.length co99)) (ok := (fun k_ => some k_ ≠ (.slice (some ad259) x8_1.length co26 : Value).ownBlock)) (by (with_reducible repeat (first | apply Kd.R_alloc | apply Kd.R_drewN | apply Kd.R_drew)); exact HO_7.out) hg (.inl rfl)); have n1_ := Aside0.mk (Kd.R_after (v := (.slice (some ⟨go97, 0, none⟩) x23_6.length co99)) (v1 := (.slice (some ⟨go97, 0, none⟩) x23_6.length co99)) (ok := (fun k_ => some k_ ≠ (.slice (some ad260) x7_1.length co25 : Value).ownBlock)) (by (with_reducible repeat (first | apply Kd.R_alloc | apply Kd.R_drewN | apply Kd.R_drew)); exact HO_8.out) hg (.inl rfl)); have n2_ := Aside0.mk (Kd.S_after (v := (.slice (some ⟨go97, 0, none⟩) x23_6.length co99)) (v1 := (.slice (some ⟨go97, 0, none⟩) x23_6.length co99)) (ok := (fun k_ => some k_ ≠ (.slice (some ad260) x7_1.length co25 : Value).ownBlock ∧ some k_ ≠ (.slice (some ad259) x8_1.length co26 : Value).ownBlock)) (by (with_reducible repeat (first | apply Kd.S_alloc | apply Kd.S_drewN | apply Kd.S_drew)); exact Kd.S_mono HO_12.out (fun _ hk => ⟨⟨hk.1, hk.2.1⟩, hk.2.2⟩)) hg (.inl rfl)); have n3_ := Aside0.mk (hp_); have n4_ := Aside0.mk ((by rw [hw]; exact below_set (HB.out) GB97.out : Below w.heap.size w w101)); clear HO_7; clear HO_8; clear HO_12; clear HO_23; clear HB; have HO_7 := n0_; have HO_8 := n1_; have HO_12 := n2_; have HO_23 := n3_; have HB := n4_; clear n0_ n1_ n2_ n3_ n4_; clear hg hw hp_; have p267 : 0 ≤ (x25_4 : Int) := of_decide_eq_true (by first | (with_reducible assumption) | assumption); have q267 : x25_4 < (x7_1.length : Int) := of_decide_eq_true (by first | (with_reducible assumption) | assumption); obtain ⟨ad267, e267, hx267_0⟩ := Kd.at_int (Kd.R_reads' HO_7.out).2.2 x25_4 p267 q267; obtain rfl : ad260 = ad267 := (by injection e267); replace p267 := eq_true p267; replace q267 := eq_true q267; have p98 : 0 ≤ (x25_4 : Int) := of_decide_eq_true (by first | (with_reducible assumption) | assumption); have q98 : (x25_4 : Int) < ((x23_6.length : Int) : Int) := of_decide_eq_true (by first | (with_reducible assumption) | assumption); obtain ⟨hx98_0, hf98_0⟩ := Kd.R_celln 0 HO_23.out (x25_4 : Int) p98 q98; replace p98 := eq_true p98; replace q98 := eq_true q98; obtain ⟨hy102_, hz102_⟩ := Kd.R_celln 0 HO_23.out (x25_4 : Int) (of_decide_eq_true (by first | (with_reducible assumption) | assumption)) (of_decide_eq_true (by first | (with_reducible assumption) | assumption)); have HP102 := Kd.R_putg HO_23.out (x25_4 : Int) (rd x7_1 x25_4)) | ((with_reducible refine gate_store (t := 2) (p := 260) rfl ?_); (try (rw [drewN_self w101]; generalize hq_ : World.drewN w101 _ = w101; have n0_ := Aside0.mk (Kd.R_at hq_ HO_7.out); have n1_ := Aside0.mk (Kd.R_at hq_ HO_8.out); have n2_ := Aside0.mk (Kd.S_at hq_ HO_12.out); have n3_ := Aside0.mk (Kd.R_at hq_ HO_23.out); have n4_ := Aside0.mk (below_at hq_ HB.out); clear hq_ HO_7 HO_8 HO_12 HO_23 HB; have HO_7 := n0_; have HO_8 := n1_; have HO_12 := n2_; have HO_23 := n3_; have HB := n4_; clear n0_ n1_ n2_ n3_ n4_; (try (obtain ⟨hy102_, hz102_⟩ := Kd.R_celln 0 HO_23.out (x25_4 : Int) (of_decide_eq_true (by first | (with_reducible assumption) | assumption)) (of_decide_eq_true (by first | (with_reducible assumption) | assumption)))); (try (have HP102 := Kd.R_putg HO_23.out (x25_4 : Int) (rd x7_1 x25_4))))); refine store_event (t := 2) (p := 260) (v := ?vo_w103) (w1 := (w101.setCell ⟨go97, (x25_4 : Int).toNat, none⟩ (.int .i64 (rd x7_1 x25_4)))) ?hg ?ho ?hn ?hr ?_; (case ho => rfl); (case hg => rfl); (case hn => rfl); (case hr => first | (go_simp; done) | (go_simp; rfl)); intro w103 hw; have hg : w101.grownBy w103 (some go97) := (by rw [hw]; exact HP102.2); have hp_ : Kd.R (Kd.int .i64) 2 w103 w.heap.size (fun k_ => some k_ ≠ (.slice (some ad260) x7_1.length co25 : Value).ownBlock ∧ some k_ ≠ (.slice (some ad259) x8_1.length co26 : Value).ownBlock) (.slice (some ⟨go97, 0, none⟩) x23_6.length co99) y268 := (by rw [hw, Ny268.out]; exact HP102.1); clear HP102; have n0_ := Aside0.mk (Kd.R_after (v := (.slice (some ⟨go97, 0, none⟩) x23_6.length co99)) (v1 := (.slice (some ⟨go97, 0, none⟩) x23_6.length co99)) (ok := (fun k_ => some k_ ≠ (.slice (some ad259) x8_1.length co26 : Value).ownBlock)) (by (with_reducible repeat (first | apply Kd.R_alloc | apply Kd.R_drewN | apply Kd.R_drew)); exact HO_7.out) hg (.inl rfl)); have n1_ := Aside0.mk (Kd.R_after (v := (.slice (some ⟨go97, 0, none⟩) x23_6.length co99)) (v1 := (.slice (some ⟨go97, 0, none⟩) x23_6.length co99)) (ok := (fun k_ => some k_ ≠ (.slice (some ad260) x7_1.length co25 : Value).ownBlock)) (by (with_reducible repeat (first | apply Kd.R_alloc | apply Kd.R_drewN | apply Kd.R_drew)); exact HO_8.out) hg (.inl rfl)); have n2_ := Aside0.mk (Kd.S_after (v := (.slice (some ⟨go97, 0, none⟩) x23_6.length co99)) (v1 := (.slice (some ⟨go97, 0, none⟩) x23_6.length co99)) (ok := (fun k_ => some k_ ≠ (.slice (some ad260) x7_1.length co25 : Value).ownBlock ∧ some k_ ≠ (.slice (some ad259) x8_1.length co26 : Value).ownBlock)) (by (with_reducible repeat (first | apply Kd.S_alloc | apply Kd.S_drewN | apply Kd.S_drew)); exact HO_12.out) hg (.inl rfl)); have n3_ := Aside0.mk (hp_); have n4_ := Aside0.mk ((by rw [hw]; exact below_set (HB.out) GB97.out : Below w.heap.size w w103)); clear HO_7; clear HO_8; clear HO_12; clear HO_23; clear HB; have HO_7 := n0_; have HO_8 := n1_; have HO_12 := n2_; have HO_23 := n3_; have HB := n4_; clear n0_ n1_ n2_ n3_ n4_; clear hg hw hp_)); try go_wp2_with (first | ((with_reducible refine gate_store (t := 2) (p := 253) rfl ?_); (try (rw [drewN_self wc]; generalize hq_ : World.drewN wc _ = wc; have n0_ := Aside0.mk (Kd.R_at hq_ HO_7.out); have n1_ := Aside0.mk (Kd.R_at hq_ HO_8.out); have n2_ := Aside0.mk (Kd.S_at hq_ HO_12.out); have n3_ := Aside0.mk (Kd.R_at hq_ HO_23.out); have n4_ := Aside0.mk (below_at hq_ HB.out); clear hq_ HO_7 HO_8 HO_12 HO_23 HB; have HO_7 := n0_; have HO_8 := n1_; have HO_12 := n2_; have HO_23 := n3_; have HB := n4_; clear n0_ n1_ n2_ n3_ n4_; (try (have HP100 := Kd.R_putg HO_23.out (x26_6 : Int) (rd x23_6 x25_4))); obtain ⟨hx97_0, hf97_0⟩ := Kd.R_celln 0 HO_23.out (x26_6 : Int) (of_eq_true p97) (of_eq_true q97))); refine store_event (t := 2) (p := 253) (v := ?vo_w101) (w1 := (wc.setCell ⟨go97, (x26_6 : Int).toNat, none⟩ (.int .i64 (rd x23_6 x25_4)))) ?hg ?ho ?hn ?hr ?_; (case ho => rfl); (case hg => rfl); (case hn => rfl); (case hr => first | (go_simp; done) | (go_simp; rfl)); intro w101 hw; have hg : wc.grownBy w101 (some go97) := (by rw [hw]; exact HP100.2); have hp_ : Kd.R (Kd.int .i64) 2 w101 w.heap.size (fun k_ => some k_ ≠ (.slice (some ad260) x7_1.length co25 : Value).ownBlock ∧ some k_ ≠ (.slice (some ad259) x8_1.length co26 : Value).ownBlock) (.slice (some ⟨go97, 0, none⟩) x23_6.length co99) y266 := (by rw [hw, Ny266.out]; exact HP100.1); clear HP100; have n0_ := Aside0.mk (Kd.R_after (v := (.slice (some ⟨go97, 0, none⟩) x23_6.length co99)) (v1 := (.slice (some ⟨go97, 0, none⟩) x23_6.length co99)) (ok := (fun k_ => some k_ ≠ (.slice (some ad259) x8_1.length co26 : Value).ownBlock)) (by (with_reducible repeat (first | apply Kd.R_alloc | apply Kd.R_drewN | apply Kd.R_drew)); exact HO_7.out) hg (.inl rfl)); have n1_ := Aside0.mk (Kd.R_after (v := (.slice (some ⟨go97, 0, none⟩) x23_6.length co99)) (v1 := (.slice (some ⟨go97, 0, none⟩) x23_6.length co99)) (ok := (fun k_ => some k_ ≠ (.slice (some ad260) x7_1.length co25 : Value).ownBlock)) (by (with_reducible repeat (first | apply Kd.R_alloc | apply Kd.R_drewN | apply Kd.R_drew)); exact HO_8.out) hg (.inl rfl)); have n2_ := Aside0.mk (Kd.S_after (v := (.slice (some ⟨go97, 0, none⟩) x23_6.length co99)) (v1 := (.slice (some ⟨go97, 0, none⟩) x23_6.length co99)) (ok := (fun k_ => some k_ ≠ (.slice (some ad260) x7_1.length co25 : Value).ownBlock ∧ some k_ ≠ (.slice (some ad259) x8_1.length co26 : Value).ownBlock)) (by (with_reducible repeat (first | apply Kd.S_alloc | apply Kd.S_drewN | apply Kd.S_drew)); exact Kd.S_mono HO_12.out (fun _ hk => ⟨⟨hk.1, hk.2.1⟩, hk.2.2⟩)) hg (.inl rfl)); have n3_ := Aside0.mk (hp_); have n4_ := Aside0.mk ((by rw [hw]; exact below_set (HB.out) GB97.out : Below w.heap.size w w101)); clear HO_7; clear HO_8; clear HO_12; clear HO_23; clear HB; have HO_7 := n0_; have HO_8 := n1_; have HO_12 := n2_; have HO_23 := n3_; have HB := n4_; clear n0_ n1_ n2_ n3_ n4_; clear hg hw hp_; have p267 : 0 ≤ (x25_4 : Int) := of_decide_eq_true (by first | (with_reducible assumption) | assumption); have q267 : x25_4 < (x7_1.length : Int) := of_decide_eq_true (by first | (with_reducible assumption) | assumption); obtain ⟨ad267, e267, hx267_0⟩ := Kd.at_int (Kd.R_reads' HO_7.out).2.2 x25_4 p267 q267; obtain rfl : ad260 = ad267 := (by injection e267); replace p267 := eq_true p267; replace q267 := eq_true q267; have p98 : 0 ≤ (x25_4 : Int) := of_decide_eq_true (by first | (with_reducible assumption) | assumption); have q98 : (x25_4 : Int) < ((x23_6.length : Int) : Int) := of_decide_eq_true (by first | (with_reducible assumption) | assumption); obtain ⟨hx98_0, hf98_0⟩ := Kd.R_celln 0 HO_23.out (x25_4 : Int) p98 q98; replace p98 := eq_true p98; replace q98 := eq_true q98; obtain ⟨hy102_, hz102_⟩ := Kd.R_celln 0 HO_23.out (x25_4 : Int) (of_decide_eq_true (by first | (with_reducible assumption) | assumption)) (of_decide_eq_true (by first | (with_reducible assumption) | assumption)); have HP102 := Kd.R_putg HO_23.out (x25_4 : Int) (rd x7_1 x25_4)) | ((with_reducible refine gate_store (t := 2) (p := 260) rfl ?_); (try (rw [drewN_self w101]; generalize hq_ : World.drewN w101 _ = w101; have n0_ := Aside0.mk (Kd.R_at hq_ HO_7.out); have n1_ := Aside0.mk (Kd.R_at hq_ HO_8.out); have n2_ := Aside0.mk (Kd.S_at hq_ HO_12.out); have n3_ := Aside0.mk (Kd.R_at hq_ HO_23.out); have n4_ := Aside0.mk (below_at hq_ HB.out); clear hq_ HO_7 HO_8 HO_12 HO_23 HB; have HO_7 := n0_; have HO_8 := n1_; have HO_12 := n2_; have HO_23 := n3_; have HB := n4_; clear n0_ n1_ n2_ n3_ n4_; (try (obtain ⟨hy102_, hz102_⟩ := Kd.R_celln 0 HO_23.out (x25_4 : Int) (of_decide_eq_true (by first | (with_reducible assumption) | assumption)) (of_decide_eq_true (by first | (with_reducible assumption) | assumption)))); (try (have HP102 := Kd.R_putg HO_23.out (x25_4 : Int) (rd x7_1 x25_4))))); refine store_event (t := 2) (p := 260) (v := ?vo_w103) (w1 := (w101.setCell ⟨go97, (x25_4 : Int).toNat, none⟩ (.int .i64 (rd x7_1 x25_4)))) ?hg ?ho ?hn ?hr ?_; (case ho => rfl); (case hg => rfl); (case hn => rfl); (case hr => first | (go_simp; done) | (go_simp; rfl)); intro w103 hw; have hg : w101.grownBy w103 (some go97) := (by rw [hw]; exact HP102.2); have hp_ : Kd.R (Kd.int .i64) 2 w103 w.heap.size (fun k_ => some k_ ≠ (.slice (some ad260) x7_1.length co25 : Value).ownBlock ∧ some k_ ≠ (.slice (some ad259) x8_1.length co26 : Value).ownBlock) (.slice (some ⟨go97, 0, none⟩) x23_6.length co99) y268 := (by rw [hw, Ny268.out]; exact HP102.1); clear HP102; have n0_ := Aside0.mk (Kd.R_after (v := (.slice (some ⟨go97, 0, none⟩) x23_6.length co99)) (v1 := (.slice (some ⟨go97, 0, none⟩) x23_6.length co99)) (ok := (fun k_ => some k_ ≠ (.slice (some ad259) x8_1.length co26 : Value).ownBlock)) (by (with_reducible repeat (first | apply Kd.R_alloc | apply Kd.R_drewN | apply Kd.R_drew)); exact HO_7.out) hg (.inl rfl)); have n1_ := Aside0.mk (Kd.R_after (v := (.slice (some ⟨go97, 0, none⟩) x23_6.length co99)) (v1 := (.slice (some ⟨go97, 0, none⟩) x23_6.length co99)) (ok := (fun k_ => some k_ ≠ (.slice (some ad260) x7_1.length co25 : Value).ownBlock)) (by (with_reducible repeat (first | apply Kd.R_alloc | apply Kd.R_drewN | apply Kd.R_drew)); exact HO_8.out) hg (.inl rfl)); have n2_ := Aside0.mk (Kd.S_after (v := (.slice (some ⟨go97, 0, none⟩) x23_6.length co99)) (v1 := (.slice (some ⟨go97, 0, none⟩) x23_6.length co99)) (ok := (fun k_ => some k_ ≠ (.slice (some ad260) x7_1.length co25 : Value).ownBlock ∧ some k_ ≠ (.slice (some ad259) x8_1.length co26 : Value).ownBlock)) (by (with_reducible repeat (first | apply Kd.S_alloc | apply Kd.S_drewN | apply Kd.S_drew)); exact HO_12.out) hg (.inl rfl)); have n3_ := Aside0.mk (hp_); have n4_ := Aside0.mk ((by rw [hw]; exact below_set (HB.out) GB97.out : Below w.heap.size w w103)); clear HO_7; clear HO_8; clear HO_12; clear HO_23; clear HB; have HO_7 := n0_; have HO_8 := n1_; have HO_12 := n2_; have HO_23 := n3_; have HB := n4_; clear n0_ n1_ n2_ n3_ n4_; clear hg hw hp_)))
                                      go_roundg kj83
                                      case measure => have := HK1.out; have := HJ23.out; have := HK3.out; have := HK4.out; have := HJ81.out; have := HK6.out; have := HJ83.out; omega
                                      case rel => exact ⟨(y268), (wrap64 (x24_6 + 1)), (wrap64 (x26_6 + 1)), (by first | rfl | (simp; done) | (simp [*]; done)), (by first | rfl | (simp; done) | (simp [*]; done)), H', ⟨by have := HK1.out; have := HJ23.out; have := HK3.out; have := HK4.out; have := HJ81.out; have := HK6.out; have := HJ83.out; omega⟩, ⟨by (with_reducible repeat (first | apply Kd.R_alloc | apply Kd.R_drewN | apply Kd.R_drew)); exact HO_7.out⟩, ⟨by (with_reducible repeat (first | apply Kd.R_alloc | apply Kd.R_drewN | apply Kd.R_drew)); exact HO_8.out⟩, ⟨by (with_reducible repeat (first | apply Kd.S_alloc | apply Kd.S_drewN | apply Kd.S_drew)); exact Kd.S_mono HO_12.out (fun _ hk => ⟨hk.1.1, ⟨hk.1.2, hk.2⟩⟩)⟩, ⟨by (with_reducible repeat (first | apply Kd.R_alloc | apply Kd.R_drewN | apply Kd.R_drew)); exact HO_23.out⟩, ⟨by repeat (first | (with_reducible first | exact HB.out | apply below_alloc | apply pw_below_drewN | apply below_drew1) | exact HB.out)⟩⟩
                                     ·rw [if_neg c96] at H
                                      exact absurd H (by simp)
                                    ·rw [if_neg c95] at H
                                     have c95b0 : ((rd x23_6 x26_6) == (rd x7_1 x25_4)) = false := beq_eq_false_iff_ne.mpr c95
                                     have c95b1 : ((rd x23_6 x26_6) != (rd x7_1 x25_4)) = true := bne_iff_ne.mpr c95
                                     have H' := Aside0.mk H
                                     clear H
                                     obtain ⟨Ao104, co104, eo104⟩ := Kd.R_slice HO_23.out
                                     subst eo104
                                     have p263 : 0 ≤ (x26_6 : Int) := of_decide_eq_true (by first | (with_reducible assumption) | assumption)
                                     have q263 : x26_6 < (x23_6.length : Int) := of_decide_eq_true (by first | (with_reducible assumption) | assumption)
                                     obtain ⟨ad263, e263, hx263_0⟩ := Kd.at_int (Kd.R_reads' HO_23.out).2.2 x26_6 p263 q263
                                     cases e263
                                     replace p263 := eq_true p263
                                     replace q263 := eq_true q263
                                     have p264 : 0 ≤ (x25_4 : Int) := of_decide_eq_true (by first | (with_reducible assumption) | assumption)
                                     have q264 : x25_4 < (x7_1.length : Int) := of_decide_eq_true (by first | (with_reducible assumption) | assumption)
                                     obtain ⟨ad264, e264, hx264_0⟩ := Kd.at_int (Kd.R_reads' HO_7.out).2.2 x25_4 p264 q264
                                     obtain rfl : ad260 = ad264 := (by injection e264)
                                     replace p264 := eq_true p264
                                     replace q264 := eq_true q264
                                     go_wp2
                                     repeat (go_quiet (fail); try go_wp2)
                                     go_roundg kj83
                                     case measure => have := HK1.out; have := HJ23.out; have := HK3.out; have := HK4.out; have := HJ81.out; have := HK6.out; have := HJ83.out; omega
                                     case rel => exact ⟨(x23_6), (x24_6), (wrap64 (x26_6 + 1)), (by first | rfl | (simp; done) | (simp [*]; done)), (by first | rfl | (simp; done) | (simp [*]; done)), H', ⟨by have := HK1.out; have := HJ23.out; have := HK3.out; have := HK4.out; have := HJ81.out; have := HK6.out; have := HJ83.out; omega⟩, ⟨by (with_reducible repeat (first | apply Kd.R_alloc | apply Kd.R_drewN | apply Kd.R_drew)); exact HO_7.out⟩, ⟨by (with_reducible repeat (first | apply Kd.R_alloc | apply Kd.R_drewN | apply Kd.R_drew)); exact HO_8.out⟩, ⟨by (with_reducible repeat (first | apply Kd.S_alloc | apply Kd.S_drewN | apply Kd.S_drew)); exact HO_12.out⟩, ⟨by (with_reducible repeat (first | apply Kd.R_alloc | apply Kd.R_drewN | apply Kd.R_drew)); exact HO_23.out⟩, ⟨by repeat (first | (with_reducible first | exact HB.out | apply below_alloc | apply pw_below_drewN | apply below_drew1) | exact HB.out)⟩⟩
                                   ·rw [if_neg c94] at H
                                    exact absurd H (by simp)
                                  ·rw [if_neg c93] at H
                                   exact absurd H (by simp)
                                 ·rw [if_neg c92] at H
                                  exact absurd H (by simp)
                                ·rw [if_neg c91] at H
                                 exact absurd H (by simp)
                               ·replace c90 := Bool.eq_false_iff.mpr c90
                                subst c90
                                have H1 : (laws_FnSwapped.l3 kj83 t205 x7_1 x8_1 t226 t232 x18_3 x22_81 x23_6 x24_6 (wrap64 (x25_4 + 1))) = some r := by rw [if_neg (show ¬ (false = true) by decide)] at H; exact H
                                clear H
                                have H := H1
                                clear H1
                                have H' := Aside0.mk H
                                clear H
                                go_wp2
                                repeat (go_quiet (fail); try go_wp2)
                                go_roundg kj83
                                case measure => have := HK1.out; have := HJ23.out; have := HK3.out; have := HK4.out; have := HJ81.out; have := HK6.out; have := HJ83.out; omega
                                case rel => exact ⟨(x22_81), (x23_6), (x24_6), (wrap64 (x25_4 + 1)), (by first | rfl | (simp; done) | (simp [*]; done)), (by first | rfl | (simp; done) | (simp [*]; done)), (by first | rfl | (simp; done) | (simp [*]; done)), H', ⟨by have := HK1.out; have := HJ23.out; have := HK3.out; have := HK4.out; have := HJ81.out; have := HK6.out; have := HJ83.out; omega⟩, ⟨by (with_reducible repeat (first | apply Kd.R_alloc | apply Kd.R_drewN | apply Kd.R_drew)); exact HO_7.out⟩, ⟨by (with_reducible repeat (first | apply Kd.R_alloc | apply Kd.R_drewN | apply Kd.R_drew)); exact HO_8.out⟩, ⟨by (with_reducible repeat (first | apply Kd.S_alloc | apply Kd.S_drewN | apply Kd.S_drew)); exact HO_12.out⟩, ⟨by (with_reducible repeat (first | apply Kd.R_alloc | apply Kd.R_drewN | apply Kd.R_drew)); exact HO_23.out⟩, ⟨by repeat (first | (with_reducible first | exact HB.out | apply below_alloc | apply pw_below_drewN | apply below_drew1) | exact HB.out)⟩⟩
                     ·rw [if_neg c81] at H
                      exact absurd H (by simp)
                    ·rw [if_neg c80] at H
                     exact absurd H (by simp)
                   ·rw [if_neg c79] at H
                    exact absurd H (by simp)
                  ·rw [if_neg c78] at H
                   have c78b0 : decide (x25_4 < t205) = false := decide_eq_false c78
                   clear c78
                   by_cases c105 : x22_4 = x18_3
                   ·rw [if_pos c105] at H
                    have c105b0 : (x22_4 == x18_3) = true := beq_iff_eq.mpr c105
                    have c105b1 : (x22_4 != x18_3) = false := bne_eq_false_iff_eq.mpr c105
                    clear c105
                    by_cases c106 : x24_4 = t232
                    ·rw [if_pos c106] at H
                     have c106b0 : (x24_4 == t232) = true := beq_iff_eq.mpr c106
                     have c106b1 : (x24_4 != t232) = false := bne_eq_false_iff_eq.mpr c106
                     clear c106
                     obtain rfl := Option.some.inj H
                     go_wp2
                     repeat (go_quiet (fail); try go_wp2)
                     go_ret
                     exact ⟨by first | rfl | (simp [errW_none, errW_some] <;> rfl) | (simp [*, errW_none, errW_some] <;> rfl), by repeat (first | (with_reducible first | exact HB.out | apply below_alloc | apply pw_below_drewN | apply below_drew1) | exact HB.out)⟩
                    ·rw [if_neg c106] at H
                     have c106b0 : (x24_4 == t232) = false := beq_eq_false_iff_ne.mpr c106
                     have c106b1 : (x24_4 != t232) = true := bne_iff_ne.mpr c106
                     obtain rfl := Option.some.inj H
                     go_wp2
                     repeat (go_quiet (fail); try go_wp2)
                     go_ret
                     exact ⟨by first | rfl | (simp [errW_none, errW_some] <;> rfl) | (simp [*, errW_none, errW_some] <;> rfl), by repeat (first | (with_reducible first | exact HB.out | apply below_alloc | apply pw_below_drewN | apply below_drew1) | exact HB.out)⟩
                   ·rw [if_neg c105] at H
                    have c105b0 : (x22_4 == x18_3) = false := beq_eq_false_iff_ne.mpr c105
                    have c105b1 : (x22_4 != x18_3) = true := bne_iff_ne.mpr c105
                    obtain rfl := Option.some.inj H
                    go_wp2
                    repeat (go_quiet (fail); try go_wp2)
                    go_ret
                    exact ⟨by first | rfl | (simp [errW_none, errW_some] <;> rfl) | (simp [*, errW_none, errW_some] <;> rfl), by repeat (first | (with_reducible first | exact HB.out | apply below_alloc | apply pw_below_drewN | apply below_drew1) | exact HB.out)⟩
              ·rw [if_neg c73] at H
               exact absurd H (by simp)

/-- THE ONE PURE STATEMENT of laws_FnSwapped: yours. -/
def laws_FnSwapped.Pure : Prop := ∀ (l0 : List Int) (l1 : List Int), l0.length ≤ maxLen → l0.length * 1 ≤ 140737488351232 → (∀ x ∈ l0, (Lit.int .u8 x).wf = true) → l1.length ≤ maxLen → l1.length * 1 ≤ 140737488351232 → (∀ x ∈ l1, (Lit.int .u8 x).wf = true) → ∃ k, laws_FnSwapped.f k l0 l1 = some true
theorem laws_FnSwapped.walk (P : laws_FnSwapped.Pure) (a0 : Option Addr) (len0 cap0 : Nat) (z0 : List Int) (a1 : Option Addr) (len1 cap1 : Nat) (z1 : List Int) (w : World) (w0 : (a0 = none ∧ len0 = 0 ∧ cap0 = 0 ∧ z0 = []) ∨ ∃ x, a0 = some x ∧ len0 ≤ cap0 ∧ cap0 ≤ maxLen ∧ z0.length = cap0 ∧ (∀ i, i < z0.length → w.cell? (x.add i) = some (.int .u8 (z0.getD i 0))) ∧ ∀ n ∈ z0, (Lit.int .u8 n).wf = true) (y0 : len0 * 1 ≤ 140737488351232) (w1 : (a1 = none ∧ len1 = 0 ∧ cap1 = 0 ∧ z1 = []) ∨ ∃ x, a1 = some x ∧ len1 ≤ cap1 ∧ cap1 ≤ maxLen ∧ z1.length = cap1 ∧ (∀ i, i < z1.length → w.cell? (x.add i) = some (.int .u8 (z1.getD i 0))) ∧ ∀ n ∈ z1, (Lit.int .u8 n).wf = true) (y1 : len1 * 1 ≤ 140737488351232) :
  Calls Try.prog 3 #[.slice a0 len0 cap0, .slice a1 len1 cap1] w fun e w' => e = .returned (.bool true) ∧ Below w.heap.size w w' := by
 obtain ⟨l0, rfl, hr0, hm0, hw0, hc0⟩ := ReadsInt.ofRowC w0
 obtain ⟨l1, rfl, hr1, hm1, hw1, hc1⟩ := ReadsInt.ofRowC w1
 obtain ⟨k, h⟩ := P l0 l1 hm0 y0 hw0 hm1 y1 hw1
 refine (laws_FnSwapped.calls k _ _ l0 _ _ l1 true w (Kd.C_of_reads (d := (0 : Int)) (h1 := fun _ => rfl) hr0) hc0 (Kd.C_of_reads (d := (0 : Int)) (h1 := fun _ => rfl) hr1) hc1 h).mono ?_
 rintro e w' ⟨rfl, hd⟩
 exact ⟨rfl, hd⟩

end Go.Proofs.Ytgjpnamckkedfaa.Q
