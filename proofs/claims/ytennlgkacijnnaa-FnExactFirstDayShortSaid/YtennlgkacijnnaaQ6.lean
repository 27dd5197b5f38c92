-- By a program of this session (wip/pr.py) that turns the kit's printer. Slimmed: slimmed to what one row names.
import Derived.Test.YtennlgkacijnnaaQ0
import Derived.Test.YtennlgkacijnnaaQ1
import Derived.Test.YtennlgkacijnnaaQ5
namespace Go.Proofs.Ytennlgkacijnnaa.Q
open Go.RowKit Go.Proofs.YtennlgkacijnnaaW.PrintWords Go.Proofs.YtennlgkacijnnaaW.PrintLast Go.Proofs.YtennlgkacijnnaaW.PrintMore
attribute [local go_sem] max2_int min2_int max_two min_two max_three min_three max_four min_four   -- for this text's walks alone
set_option linter.unusedVariables false
set_option linter.unusedSimpArgs false

/-! ### spec_l06Amount: function 90 -/
def spec_l06Amount.f (a0 : Int) : Option (Bool) := (spec_l00In.f a0 0 1000000).bind fun t375 => (some t375)
set_option maxHeartbeats 8000000 in
set_option maxRecDepth 100000 in
theorem spec_l06Amount.calls (a0 : Int) (r : Bool) (w : World) (h : spec_l06Amount.f a0 = some r) :
    Calls Try.prog 90 #[.int .i64 a0] w fun e w' => e = .returned (.bool r) ∧ Drawn0 w w' := by
  have H : ((spec_l00In.f a0 0 1000000).bind fun t375 => (some t375)) = some r := h
  clear h
  replace H := Option.bind_eq_some_iff.mp H
  obtain ⟨t375, A20, H⟩ := H
  replace H : (some t375) = some r := H
  have A2 := Aside0.mk A20
  clear A20
  obtain rfl := Option.some.inj H
  go_enter Try.func90, Try.ntmps90
  go_wp2_with (first | ((with_reducible refine gate_callee (f := 77) rfl ?_); refine goesL_ (some 4) rfl rfl Try.func77 (by kernel_rfl) rfl #[.int .i64 a0, .int .i64 0, .int .i64 1000000] rfl (by (try simp only [List.map_toArray, List.map_cons, List.map_nil]); first | done | rfl | (simp only [List.length_drop, List.length_take]; rfl)) ?_; (with_reducible refine (spec_l00In.calls a0 0 1000000 t375 _ A2.out).mono ?_); rintro e w' ⟨rfl, ⟨nd, rfl⟩⟩; refine ⟨_, rfl, ?_⟩))
  go_ret
  exact ⟨by first | rfl | (simp; done) | (simp [*]; done), by repeat (first | exact Drawn0.refl _ | apply Drawn0.step)⟩

/-! ### spec_l00Min: function 104 -/
def spec_l00Min.f (a0 : Int) (a1 : Int) : Option (Int) := if a0 < a1 then (some a0) else (some a1)
set_option maxHeartbeats 8000000 in
set_option maxRecDepth 100000 in
theorem spec_l00Min.calls (a0 : Int) (a1 : Int) (r : Int) (w : World) (h : spec_l00Min.f a0 a1 = some r) :
    Calls Try.prog 104 #[.int .i64 a0, .int .i64 a1] w fun e w' => e = .returned (.int .i64 r) ∧ Drawn0 w w' := by
  have H : (if a0 < a1 then (some a0) else (some a1)) = some r := h
  clear h
  by_cases c3 : a0 < a1
  · rw [if_pos c3] at H
    have c3b0 : decide (a0 < a1) = true := decide_eq_true c3
    clear c3
    obtain rfl := Option.some.inj H
    go_enter Try.func104, Try.ntmps104
    go_wp2
    go_ret
    exact ⟨by first | rfl | (simp; done) | (simp [*]; done), by repeat (first | exact Drawn0.refl _ | apply Drawn0.step)⟩
  · rw [if_neg c3] at H
    have c3b0 : decide (a0 < a1) = false := decide_eq_false c3
    clear c3
    obtain rfl := Option.some.inj H
    go_enter Try.func104, Try.ntmps104
    go_wp2
    go_ret
    exact ⟨by first | rfl | (simp; done) | (simp [*]; done), by repeat (first | exact Drawn0.refl _ | apply Drawn0.step)⟩

/-! ### spec_l06Pay: function 91 -/
mutual
def spec_l06Pay.l0 : Nat → Int → Int → List (S87) → List Bool → Option ((List (S87)) × Int)
  | 0, _, _, _, _ => none
  | k + 1, x1, x2, x8, x9 => if x2 > 0 then (spec_l06Pay.l1 k x1 x2 x8 x9 (-1) 0) else (some (x8, x2))
def spec_l06Pay.l1 : Nat → Int → Int → List (S87) → List Bool → Int → Int → Option ((List (S87)) × Int)
  | 0, _, _, _, _, _, _ => none
  | k + 1, x1, x2, x8, x9, x10, x11 => if x11 < (x8.length : Int) then (if 0 ≤ x11 then (if x11 < (x9.length : Int) then (if rdOf false x9 x11 = true then (spec_l06Pay.l1 k x1 x2 x8 x9 x10 (wrap64 (x11 + 1))) else (if (wrap64 ((rd_T87 x8 x11).f1)) ≥ x1 then (if x10 < 0 then (spec_l06Pay.l1 k x1 x2 x8 x9 x11 (wrap64 (x11 + 1))) else (if 0 ≤ x10 then (if x10 < (x8.length : Int) then (if ((rd_T87 x8 x11).f1) < ((rd_T87 x8 x10).f1) then (spec_l06Pay.l1 k x1 x2 x8 x9 x11 (wrap64 (x11 + 1))) else (spec_l06Pay.l1 k x1 x2 x8 x9 x10 (wrap64 (x11 + 1)))) else (none)) else (none))) else (spec_l06Pay.l1 k x1 x2 x8 x9 x10 (wrap64 (x11 + 1))))) else (none)) else (none)) else (if x10 < 0 then (some (x8, x2)) else (if 0 ≤ x10 then (if x10 < (x9.length : Int) then (if x10 < (x8.length : Int) then ((spec_l00Min.f x2 (wrap64 ((rd_T87 x8 x10).f0))).bind fun t391 => (spec_l06Pay.l0 k x1 (wrap64 (x2 - t391)) (x8.set (x10 : Int).toNat (⟨wrap32 (((rd_T87 x8 x10).f0) - (wrap32 (t391))), (rd_T87 x8 x10).f1⟩ : S87)) (x9.set (x10 : Int).toNat true))) else (none)) else (none)) else (none)))
end
def spec_l06Pay.f (k : Nat) (l0 : List (S87)) (a1 : Int) (a2 : Int) : Option ((List (S87)) × Int) := (some (([] : List (S87)) : List (S87))).bind fun y376 => (if y376.length + l0.length < 17592186044416 then (if 0 ≤ (l0.length : Int) then (if ((l0.length : Int) : Int).toNat ≤ 281474976710656 then (spec_l06Pay.l0 k a1 a2 (y376 ++ l0) (List.replicate ((l0.length : Int) : Int).toNat false)) else (none)) else (none)) else (none))
theorem spec_l06Pay.mono_l : ∀ k, (∀ y0 y1 y2 y3, LeO (spec_l06Pay.l0 k y0 y1 y2 y3) (spec_l06Pay.l0 (k + 1) y0 y1 y2 y3)) ∧ (∀ y0 y1 y2 y3 y4 y5, LeO (spec_l06Pay.l1 k y0 y1 y2 y3 y4 y5) (spec_l06Pay.l1 (k + 1) y0 y1 y2 y3 y4 y5))
  | 0 => ⟨fun _ _ _ _ r h => by simp [spec_l06Pay.l0] at h, fun _ _ _ _ _ _ r h => by simp [spec_l06Pay.l1] at h⟩
  | k + 1 => by
    obtain ⟨ih0, ih1⟩ := spec_l06Pay.mono_l k
    refine ⟨?_, ?_⟩
    · intro y0 y1 y2 y3
      unfold spec_l06Pay.l0
      repeat' first
      | (with_reducible exact ih0 _ _ _ _)
      | (with_reducible exact ih1 _ _ _ _ _ _)
      | (with_reducible exact LeO.refl _)
      | (with_reducible exact LeO.none _)
      | (with_reducible refine LeO.ite ?_ ?_)
      | (with_reducible refine LeO.bind ?_ (fun _ => ?_))
      | exact ih0 _ _ _ _
      | exact ih1 _ _ _ _ _ _
      | exact LeO.none _
      | refine LeO.ite ?_ ?_
      | refine LeO.bind ?_ (fun _ => ?_)
    · intro y0 y1 y2 y3 y4 y5
      unfold spec_l06Pay.l1
      repeat' first
      | (with_reducible exact ih0 _ _ _ _)
      | (with_reducible exact ih1 _ _ _ _ _ _)
      | (with_reducible exact LeO.refl _)
      | (with_reducible exact LeO.none _)
      | (with_reducible refine LeO.ite ?_ ?_)
      | (with_reducible refine LeO.bind ?_ (fun _ => ?_))
      | exact ih0 _ _ _ _
      | exact ih1 _ _ _ _ _ _
      | exact LeO.none _
      | refine LeO.ite ?_ ?_
      | refine LeO.bind ?_ (fun _ => ?_)
theorem spec_l06Pay.mono : ∀ a0 a1 a2 k, LeO (spec_l06Pay.f k a0 a1 a2) (spec_l06Pay.f (k + 1) a0 a1 a2) := by
  intro a0 a1 a2 k
  obtain ⟨ih0, ih1⟩ := spec_l06Pay.mono_l k
  unfold spec_l06Pay.f
  repeat' first
      | (with_reducible exact ih0 _ _ _ _)
      | (with_reducible exact ih1 _ _ _ _ _ _)
      | (with_reducible exact LeO.refl _)
      | (with_reducible exact LeO.none _)
      | (with_reducible refine LeO.ite ?_ ?_)
      | (with_reducible refine LeO.bind ?_ (fun _ => ?_))
      | exact ih0 _ _ _ _
      | exact ih1 _ _ _ _ _ _
      | exact LeO.none _
      | refine LeO.ite ?_ ?_
      | refine LeO.bind ?_ (fun _ => ?_)
set_option maxHeartbeats 8000000 in
set_option maxRecDepth 100000 in
theorem spec_l06Pay.calls (k : Nat) (A0 : Option Addr) (c0 : Nat) (l0 : List (S87)) (a1 : Int) (a2 : Int) (r1 : List (S87)) (r2 : Int) (w : World) (hr0 : Kd.C k87 w A0 l0.length l0) (hc0 : l0.length ≤ c0) (h : spec_l06Pay.f k l0 a1 a2 = some (r1, r2)) :
    Calls Try.prog 91 #[.slice A0 l0.length c0, .int .i64 a1, .int .i64 a2] w fun e w' => ∃ v0_ : Value, e = .returned (.tuple #[v0_, .int .i64 r2]) ∧ Kd.R k87 87 w' w.heap.size (fun _ => True) v0_ r1 ∧ Below w.heap.size w w' := by
  have HR0 := Aside0.mk hr0
  have HC0 := Aside0.mk hc0
  clear hr0 hc0
  have HB := Aside0.mk (Below.refl w.heap.size w)
  have H : ((some (([] : List (S87)) : List (S87))).bind fun y376 => (if y376.length + l0.length < 17592186044416 then (if 0 ≤ (l0.length : Int) then (if ((l0.length : Int) : Int).toNat ≤ 281474976710656 then (spec_l06Pay.l0 k a1 a2 (y376 ++ l0) (List.replicate ((l0.length : Int) : Int).toNat false)) else (none)) else (none)) else (none))) = some (r1, r2) := h
  clear h
  obtain ⟨y376, hy376⟩ : ∃ y_ : List (S87), y_ = (([] : List (S87))) := ⟨_, rfl⟩
  replace H : (if y376.length + l0.length < 17592186044416 then (if 0 ≤ (l0.length : Int) then (if ((l0.length : Int) : Int).toNat ≤ 281474976710656 then (spec_l06Pay.l0 k a1 a2 (y376 ++ l0) (List.replicate ((l0.length : Int) : Int).toNat false)) else (none)) else (none)) else (none)) = some (r1, r2) := by first | (rw [hy376]; with_reducible exact H) | (have H2_ := (Option.bind_some _ _).symm.trans H; rw [hy376]; with_reducible exact H2_) | (have H2_ := (Option.bind_some _ _).symm.trans H; with_reducible exact H2_) | with_reducible exact H | (rw [hy376]; exact H) | exact H
  have Ny376 := Aside0.mk hy376
  clear hy376
  by_cases c4 : y376.length + l0.length < 17592186044416
  · rw [if_pos c4] at H
    have LMc4 := Aside0.mk c4
    clear c4
    obtain ⟨y379, hy379⟩ : ∃ y_ : List (S87), y_ = (y376 ++ l0) := ⟨_, rfl⟩
    replace H : (if 0 ≤ (l0.length : Int) then (if ((l0.length : Int) : Int).toNat ≤ 281474976710656 then (spec_l06Pay.l0 k a1 a2 y379 (List.replicate ((l0.length : Int) : Int).toNat false)) else (none)) else (none)) = some (r1, r2) := by first | (rw [hy379]; with_reducible exact H) | (have H2_ := (Option.bind_some _ _).symm.trans H; rw [hy379]; with_reducible exact H2_) | (have H2_ := (Option.bind_some _ _).symm.trans H; with_reducible exact H2_) | with_reducible exact H | (rw [hy379]; exact H) | exact H
    have Ny379 := Aside0.mk hy379
    clear hy379
    by_cases c5 : 0 ≤ (l0.length : Int)
    · rw [if_pos c5] at H
      have c5b0 := eq_true c5
      have c5b1 : decide (0 ≤ (l0.length : Int)) = true := decide_eq_true c5
      clear c5
      by_cases c6 : ((l0.length : Int) : Int).toNat ≤ 281474976710656
      · rw [if_pos c6] at H
        have c6b0 := eq_true c6
        have c6b1 : decide (((l0.length : Int) : Int).toNat ≤ 281474976710656) = true := decide_eq_true c6
        clear c6
        obtain ⟨y382, hy382⟩ : ∃ y_ : List Bool, y_ = (List.replicate ((l0.length : Int) : Int).toNat false) := ⟨_, rfl⟩
        replace H : (spec_l06Pay.l0 k a1 a2 y379 y382) = some (r1, r2) := by first | (rw [hy382]; with_reducible exact H) | (have H2_ := (Option.bind_some _ _).symm.trans H; rw [hy382]; with_reducible exact H2_) | (have H2_ := (Option.bind_some _ _).symm.trans H; with_reducible exact H2_) | with_reducible exact H | (rw [hy382]; exact H) | exact H
        have Ny382 := Aside0.mk hy382
        clear hy382
        have H' := Aside0.mk H
        clear H
        go_enter Try.func91, Try.ntmps91
        go_wp2_with (first | ((with_reducible refine gate_dst (N := 13) rfl ?_); refine Kd.R_lit k87 _ 87 ?hg (N := 13) ?hd (xs := ([] : List (S87))) (inner := []) (ok := fun _ => True) (okp := fun _ => True) ?hr ?hp (fun _ hk => hk) trivial (Below.refl _ _) (Nat.le_refl _) (by simp) ?_; (case hd => rfl); (case hg => rfl); (case hr => first | (go_simp; done) | (go_simp; rfl)); (case hp => exact (Reps.none _ _)); intro v377 w7 ho8 hb hg_ hnew_; clear hg_ hnew_; (first | rw [← Ny376.out] at ho8 | (simp only [Int.reduceToNat] at ho8; rw [← Ny376.out] at ho8)); have n0_ := Aside0.mk (Kd.R_lower ho8 (below_size (by repeat (first | (with_reducible first | exact HB.out | apply below_alloc | apply pw_below_drewN | apply below_drew1) | exact HB.out)))); have n1_ := Aside0.mk (below_step (by repeat (first | (with_reducible first | exact HB.out | apply below_alloc | apply pw_below_drewN | apply below_drew1) | exact HB.out)) hb); clear HB; have HO378 := n0_; have HB := n1_; clear n0_ n1_; clear hb ho8) | ((with_reducible refine gate_builtin (b := .append) (xs := #[.tmp 13, .tmp 14]) rfl ?_); at_builtin; refine Kd.R_append_rows k87 (w0 := w) w.heap.size rfl (.tmp 13) (.tmp 14) 33 87 (.agg #[(.int .i32 0), (.int .i16 0)]) 8 rfl Try.underlying33 info87 rfl (by decide) (by omega) v377 y376 l0 _ _ _ (fun _ => True) (fun _ => False) rfl rfl ?aO ?aR (fun _ _ h => h) (fun _ h => h.elim) ?aF ?aB ?aS ?aL ?_; (case aR => repeat (first | exact (Kd.C_below HR0.out HB.out) | (with_reducible refine Kd.C_alloc ?_ _) | (with_reducible refine Kd.C_drewN ?_ _) | (with_reducible refine Kd.C_drew ?_))); (case aB => exact (by repeat (first | (with_reducible first | exact HB.out | apply below_alloc | apply pw_below_drewN | apply below_drew1) | exact HB.out))); (case aF => exact (fun _ _ => trivial)); (case aO => exact (by (with_reducible repeat (first | apply Kd.R_alloc | apply Kd.R_drewN | apply Kd.R_drew)); exact HO378.out)); (case aS => exact (below_size (by repeat (first | (with_reducible first | exact HB.out | apply below_alloc | apply pw_below_drewN | apply below_drew1) | exact HB.out)))); (case aL => have := LMc4.out; omega); intro v380 w9 ho hb hg hat; rw [← Ny379.out] at ho; have n0_ := Aside0.mk (hb); have n1_ := Aside0.mk (ho); clear HB; clear HO378; have HB := n0_; have HO381 := n1_; clear n0_ n1_; clear ho hb hg hat) | ((with_reducible refine gate_dst (N := 18) rfl ?_); refine Kd.R_make Kd.bool _ 4 rfl (N := 18) rfl 127 _ _ rfl (l0.length : Int) rfl rfl Try.underlying127 (.bool false) 1 info4 rfl (by decide) (by omega) false (ok := fun _ => True) (okp := fun _ => True) rfl (fun _ hk => hk) trivial (of_decide_eq_true (by first | (with_reducible assumption) | assumption)) (Nat.le_trans (Nat.mul_le_mul_right _ (of_decide_eq_true (by first | (with_reducible assumption) | assumption) : (l0.length : Int).toNat ≤ 281474976710656)) (by omega)) (Below.refl _ _) (Nat.le_refl _) ?_; intro v383 w10 ho11 hb hg_ hnew_; clear hg_ hnew_; (first | rw [← Ny382.out] at ho11 | (simp only [Int.reduceToNat] at ho11; rw [← Ny382.out] at ho11)); have n0_ := Aside0.mk (Kd.R_below (by (with_reducible repeat (first | apply Kd.R_alloc | apply Kd.R_drewN | apply Kd.R_drew)); exact HO381.out) hb); have n1_ := Aside0.mk (Kd.R_lower ho11 (below_size (by repeat (first | (with_reducible first | exact HB.out | apply below_alloc | apply pw_below_drewN | apply below_drew1) | exact HB.out)))); have n2_ := Aside0.mk (below_step (by repeat (first | (with_reducible first | exact HB.out | apply below_alloc | apply pw_below_drewN | apply below_drew1) | exact HB.out)) hb); clear HO381; clear HB; have HO381 := n0_; have HO384 := n1_; have HB := n2_; clear n0_ n1_ n2_; clear hb ho11))
        repeat (go_quiet (first | ((with_reducible refine gate_dst (N := 13) rfl ?_); refine Kd.R_lit k87 _ 87 ?hg (N := 13) ?hd (xs := ([] : List (S87))) (inner := []) (ok := fun _ => True) (okp := fun _ => True) ?hr ?hp (fun _ hk => hk) trivial (Below.refl _ _) (Nat.le_refl _) (by simp) ?_; (case hd => rfl); (case hg => rfl); (case hr => first | (go_simp; done) | (go_simp; rfl)); (case hp => exact (Reps.none _ _)); intro v377 w7 ho8 hb hg_ hnew_; clear hg_ hnew_; (first | rw [← Ny376.out] at ho8 | (simp only [Int.reduceToNat] at ho8; rw [← Ny376.out] at ho8)); have n0_ := Aside0.mk (Kd.R_lower ho8 (below_size (by repeat (first | (with_reducible first | exact HB.out | apply below_alloc | apply pw_below_drewN | apply below_drew1) | exact HB.out)))); have n1_ := Aside0.mk (below_step (by repeat (first | (with_reducible first | exact HB.out | apply below_alloc | apply pw_below_drewN | apply below_drew1) | exact HB.out)) hb); clear HB; have HO378 := n0_; have HB := n1_; clear n0_ n1_; clear hb ho8) | ((with_reducible refine gate_builtin (b := .append) (xs := #[.tmp 13, .tmp 14]) rfl ?_); at_builtin; refine Kd.R_append_rows k87 (w0 := w) w.heap.size rfl (.tmp 13) (.tmp 14) 33 87 (.agg #[(.int .i32 0), (.int .i16 0)]) 8 rfl Try.underlying33 info87 rfl (by decide) (by omega) v377 y376 l0 _ _ _ (fun _ => True) (fun _ => False) rfl rfl ?aO ?aR (fun _ _ h => h) (fun _ h => h.elim) ?aF ?aB ?aS ?aL ?_; (case aR => repeat (first | exact (Kd.C_below HR0.out HB.out) | (with_reducible refine Kd.C_alloc ?_ _) | (with_reducible refine Kd.C_drewN ?_ _) | (with_reducible refine Kd.C_drew ?_))); (case aB => exact (by repeat (first | (with_reducible first | exact HB.out | apply below_alloc | apply pw_below_drewN | apply below_drew1) | exact HB.out))); (case aF => exact (fun _ _ => trivial)); (case aO => exact (by (with_reducible repeat (first | apply Kd.R_alloc | apply Kd.R_drewN | apply Kd.R_drew)); exact HO378.out)); (case aS => exact (below_size (by repeat (first | (with_reducible first | exact HB.out | apply below_alloc | apply pw_below_drewN | apply below_drew1) | exact HB.out)))); (case aL => have := LMc4.out; omega); intro v380 w9 ho hb hg hat; rw [← Ny379.out] at ho; have n0_ := Aside0.mk (hb); have n1_ := Aside0.mk (ho); clear HB; clear HO378; have HB := n0_; have HO381 := n1_; clear n0_ n1_; clear ho hb hg hat) | ((with_reducible refine gate_dst (N := 18) rfl ?_); refine Kd.R_make Kd.bool _ 4 rfl (N := 18) rfl 127 _ _ rfl (l0.length : Int) rfl rfl Try.underlying127 (.bool false) 1 info4 rfl (by decide) (by omega) false (ok := fun _ => True) (okp := fun _ => True) rfl (fun _ hk => hk) trivial (of_decide_eq_true (by first | (with_reducible assumption) | assumption)) (Nat.le_trans (Nat.mul_le_mul_right _ (of_decide_eq_true (by first | (with_reducible assumption) | assumption) : (l0.length : Int).toNat ≤ 281474976710656)) (by omega)) (Below.refl _ _) (Nat.le_refl _) ?_; intro v383 w10 ho11 hb hg_ hnew_; clear hg_ hnew_; (first | rw [← Ny382.out] at ho11 | (simp only [Int.reduceToNat] at ho11; rw [← Ny382.out] at ho11)); have n0_ := Aside0.mk (Kd.R_below (by (with_reducible repeat (first | apply Kd.R_alloc | apply Kd.R_drewN | apply Kd.R_drew)); exact HO381.out) hb); have n1_ := Aside0.mk (Kd.R_lower ho11 (below_size (by repeat (first | (with_reducible first | exact HB.out | apply below_alloc | apply pw_below_drewN | apply below_drew1) | exact HB.out)))); have n2_ := Aside0.mk (below_step (by repeat (first | (with_reducible first | exact HB.out | apply below_alloc | apply pw_below_drewN | apply below_drew1) | exact HB.out)) hb); clear HO381; clear HB; have HO381 := n0_; have HO384 := n1_; have HB := n2_; clear n0_ n1_ n2_; clear hb ho11)); try go_wp2_with (first | ((with_reducible refine gate_dst (N := 13) rfl ?_); refine Kd.R_lit k87 _ 87 ?hg (N := 13) ?hd (xs := ([] : List (S87))) (inner := []) (ok := fun _ => True) (okp := fun _ => True) ?hr ?hp (fun _ hk => hk) trivial (Below.refl _ _) (Nat.le_refl _) (by simp) ?_; (case hd => rfl); (case hg => rfl); (case hr => first | (go_simp; done) | (go_simp; rfl)); (case hp => exact (Reps.none _ _)); intro v377 w7 ho8 hb hg_ hnew_; clear hg_ hnew_; (first | rw [← Ny376.out] at ho8 | (simp only [Int.reduceToNat] at ho8; rw [← Ny376.out] at ho8)); have n0_ := Aside0.mk (Kd.R_lower ho8 (below_size (by repeat (first | (with_reducible first | exact HB.out | apply below_alloc | apply pw_below_drewN | apply below_drew1) | exact HB.out)))); have n1_ := Aside0.mk (below_step (by repeat (first | (with_reducible first | exact HB.out | apply below_alloc | apply pw_below_drewN | apply below_drew1) | exact HB.out)) hb); clear HB; have HO378 := n0_; have HB := n1_; clear n0_ n1_; clear hb ho8) | ((with_reducible refine gate_builtin (b := .append) (xs := #[.tmp 13, .tmp 14]) rfl ?_); at_builtin; refine Kd.R_append_rows k87 (w0 := w) w.heap.size rfl (.tmp 13) (.tmp 14) 33 87 (.agg #[(.int .i32 0), (.int .i16 0)]) 8 rfl Try.underlying33 info87 rfl (by decide) (by omega) v377 y376 l0 _ _ _ (fun _ => True) (fun _ => False) rfl rfl ?aO ?aR (fun _ _ h => h) (fun _ h => h.elim) ?aF ?aB ?aS ?aL ?_; (case aR => repeat (first | exact (Kd.C_below HR0.out HB.out) | (with_reducible refine Kd.C_alloc ?_ _) | (with_reducible refine Kd.C_drewN ?_ _) | (with_reducible refine Kd.C_drew ?_))); (case aB => exact (by repeat (first | (with_reducible first | exact HB.out | apply below_alloc | apply pw_below_drewN | apply below_drew1) | exact HB.out))); (case aF => exact (fun _ _ => trivial)); (case aO => exact (by (with_reducible repeat (first | apply Kd.R_alloc | apply Kd.R_drewN | apply Kd.R_drew)); exact HO378.out)); (case aS => exact (below_size (by repeat (first | (with_reducible first | exact HB.out | apply below_alloc | apply pw_below_drewN | apply below_drew1) | exact HB.out)))); (case aL => have := LMc4.out; omega); intro v380 w9 ho hb hg hat; rw [← Ny379.out] at ho; have n0_ := Aside0.mk (hb); have n1_ := Aside0.mk (ho); clear HB; clear HO378; have HB := n0_; have HO381 := n1_; clear n0_ n1_; clear ho hb hg hat) | ((with_reducible refine gate_dst (N := 18) rfl ?_); refine Kd.R_make Kd.bool _ 4 rfl (N := 18) rfl 127 _ _ rfl (l0.length : Int) rfl rfl Try.underlying127 (.bool false) 1 info4 rfl (by decide) (by omega) false (ok := fun _ => True) (okp := fun _ => True) rfl (fun _ hk => hk) trivial (of_decide_eq_true (by first | (with_reducible assumption) | assumption)) (Nat.le_trans (Nat.mul_le_mul_right _ (of_decide_eq_true (by first | (with_reducible assumption) | assumption) : (l0.length : Int).toNat ≤ 281474976710656)) (by omega)) (Below.refl _ _) (Nat.le_refl _) ?_; intro v383 w10 ho11 hb hg_ hnew_; clear hg_ hnew_; (first | rw [← Ny382.out] at ho11 | (simp only [Int.reduceToNat] at ho11; rw [← Ny382.out] at ho11)); have n0_ := Aside0.mk (Kd.R_below (by (with_reducible repeat (first | apply Kd.R_alloc | apply Kd.R_drewN | apply Kd.R_drew)); exact HO381.out) hb); have n1_ := Aside0.mk (Kd.R_lower ho11 (below_size (by repeat (first | (with_reducible first | exact HB.out | apply below_alloc | apply pw_below_drewN | apply below_drew1) | exact HB.out)))); have n2_ := Aside0.mk (below_step (by repeat (first | (with_reducible first | exact HB.out | apply below_alloc | apply pw_below_drewN | apply below_drew1) | exact HB.out)) hb); clear HO381; clear HB; have HO381 := n0_; have HO384 := n1_; have HB := n2_; clear n0_ n1_ n2_; clear hb ho11)))
        go_loopg [2] k (fun kq v2 w' => ∃ (x2_1 : Int) (x8_1 : List (S87)) (x9_1 : List Bool), v2 = .int .i64 x2_1 ∧ Aside0 (spec_l06Pay.l0 kq a1 x2_1 x8_1 x9_1 = some (r1, r2)) ∧ Aside0 (kq ≤ k) ∧ Aside0 (Kd.R k87 87 w' w.heap.size (fun _ => True) v380 x8_1) ∧ Aside0 (Kd.R Kd.bool 4 w' w.heap.size (fun _ => True) v383 x9_1) ∧ Aside0 (Below w.heap.size w w'))
        case atStart => exact ⟨(a2), (y379), (y382), (by first | rfl | (simp; done) | (simp [*]; done)), H', ⟨Nat.le_refl _⟩, ⟨by (with_reducible repeat (first | apply Kd.R_alloc | apply Kd.R_drewN | apply Kd.R_drew)); exact HO381.out⟩, ⟨by (with_reducible repeat (first | apply Kd.R_alloc | apply Kd.R_drewN | apply Kd.R_drew)); exact HO384.out⟩, ⟨by repeat (first | (with_reducible first | exact HB.out | apply below_alloc | apply pw_below_drewN | apply below_drew1) | exact HB.out)⟩⟩
        case round =>
          clear H'
          try clear p2
          try clear c4
          try clear c5
          try clear c5b0
          try clear c5b1
          try clear c6
          try clear c6b0
          try clear c6b1
          try clear c9
          obtain ⟨x2_1, x8_1, x9_1, rfl, HA, HK1, HO_8, HO_9, HB⟩ := hrel
          cases gk with
          | zero => exact absurd HA.out (by simp [spec_l06Pay.l0])
          | succ k1 =>
            have H := HA.out
            clear HA
            simp only [spec_l06Pay.l0] at H
            by_cases c12 : x2_1 > 0
            · rw [if_pos c12] at H
              have c12b0 : decide (0 < x2_1) = true := decide_eq_true c12
              clear c12
              have H' := Aside0.mk H
              clear H
              go_wp2
              repeat (go_quiet (fail); try go_wp2)
              go_loopg [10, 11] k1 (fun kq v10 v11 w' => ∃ (x10_2 : Int) (x11_2 : Int), v10 = .int .i64 x10_2 ∧ v11 = .int .i64 x11_2 ∧ Aside0 (spec_l06Pay.l1 kq a1 x2_1 x8_1 x9_1 x10_2 x11_2 = some (r1, r2)) ∧ Aside0 (kq ≤ k1) ∧ Aside0 (Kd.R k87 87 w' w.heap.size (fun _ => True) v380 x8_1) ∧ Aside0 (Kd.R Kd.bool 4 w' w.heap.size (fun _ => True) v383 x9_1) ∧ Aside0 (Below w.heap.size w w'))
              case atStart => exact ⟨((-1)), (0), (by first | rfl | (simp; done) | (simp [*]; done)), (by first | rfl | (simp; done) | (simp [*]; done)), H', ⟨Nat.le_refl _⟩, ⟨by (with_reducible repeat (first | apply Kd.R_alloc | apply Kd.R_drewN | apply Kd.R_drew)); exact HO_8.out⟩, ⟨by (with_reducible repeat (first | apply Kd.R_alloc | apply Kd.R_drewN | apply Kd.R_drew)); exact HO_9.out⟩, ⟨by repeat (first | (with_reducible first | exact HB.out | apply below_alloc | apply pw_below_drewN | apply below_drew1) | exact HB.out)⟩⟩
              case round =>
                clear H'
                try clear c1
                try clear p2
                try clear c4
                try clear c5
                try clear c5b0
                try clear c5b1
                try clear c6
                try clear c6b0
                try clear c6b1
                try clear c9
                try clear c12
                try clear c12b0
                try clear p2
                obtain ⟨x10_2, x11_2, rfl, rfl, HA, HK2, HO_8, HO_9, HB⟩ := hrel
                cases gk with
                | zero => exact absurd HA.out (by simp [spec_l06Pay.l1])
                | succ k2 =>
                  have H := HA.out
                  clear HA
                  simp only [spec_l06Pay.l1] at H
                  by_cases c13 : x11_2 < (x8_1.length : Int)
                  · rw [if_pos c13] at H
                    have c13b0 : decide (x11_2 < (x8_1.length : Int)) = true := decide_eq_true c13
                    clear c13
                    by_cases c14 : 0 ≤ x11_2
                    · rw [if_pos c14] at H
                      have c14b0 : decide (0 ≤ x11_2) = true := decide_eq_true c14
                      clear c14
                      by_cases c15 : x11_2 < (x9_1.length : Int)
                      · rw [if_pos c15] at H
                        have c15b0 : decide (x11_2 < (x9_1.length : Int)) = true := decide_eq_true c15
                        clear c15
                        obtain ⟨bq16, hbq16⟩ : ∃ b_ : Bool, b_ = (rdOf false x9_1 x11_2) := ⟨_, rfl⟩
                        replace H : (if bq16 = true then (spec_l06Pay.l1 k2 a1 x2_1 x8_1 x9_1 x10_2 (wrap64 (x11_2 + 1))) else (if (wrap64 ((rd_T87 x8_1 x11_2).f1)) ≥ a1 then (if x10_2 < 0 then (spec_l06Pay.l1 k2 a1 x2_1 x8_1 x9_1 x11_2 (wrap64 (x11_2 + 1))) else (if 0 ≤ x10_2 then (if x10_2 < (x8_1.length : Int) then (if ((rd_T87 x8_1 x11_2).f1) < ((rd_T87 x8_1 x10_2).f1) then (spec_l06Pay.l1 k2 a1 x2_1 x8_1 x9_1 x11_2 (wrap64 (x11_2 + 1))) else (spec_l06Pay.l1 k2 a1 x2_1 x8_1 x9_1 x10_2 (wrap64 (x11_2 + 1)))) else (none)) else (none))) else (spec_l06Pay.l1 k2 a1 x2_1 x8_1 x9_1 x10_2 (wrap64 (x11_2 + 1))))) = some (r1, r2) := by rw [← hbq16] at H; exact H
                        have Nbq16 := Aside0.mk hbq16
                        clear hbq16
                        by_cases c17 : bq16 = true
                        · subst c17
                          have H1 : (spec_l06Pay.l1 k2 a1 x2_1 x8_1 x9_1 x10_2 (wrap64 (x11_2 + 1))) = some (r1, r2) := by rw [if_pos rfl] at H; exact H
                          clear H
                          have H := H1
                          clear H1
                          have H' := Aside0.mk H
                          clear H
                          obtain ⟨Ao18, co18, eo18⟩ := Kd.R_slice HO_8.out
                          subst eo18
                          obtain ⟨Ao19, co19, eo19⟩ := Kd.R_slice HO_9.out
                          subst eo19
                          have p385 : 0 ≤ (x11_2 : Int) := of_decide_eq_true (by first | (with_reducible assumption) | assumption)
                          have q385 : x11_2 < (x9_1.length : Int) := of_decide_eq_true (by first | (with_reducible assumption) | assumption)
                          obtain ⟨ad385, e385, hx385_0⟩ := Kd.at_bool (Kd.R_reads' HO_9.out).2.2 x11_2 p385 q385
                          (try rw [← Nbq16.out] at hx385_0)
                          cases e385
                          replace p385 := eq_true p385
                          replace q385 := eq_true q385
                          go_wp2
                          repeat (go_quiet (fail); try go_wp2)
                          go_roundg k2
                          case measure => have := HK1.out; have := HK2.out; omega
                          case rel => exact ⟨(x10_2), (wrap64 (x11_2 + 1)), (by first | rfl | (simp; done) | (simp [*]; done)), (by first | rfl | (simp; done) | (simp [*]; done)), H', ⟨by have := HK1.out; have := HK2.out; omega⟩, ⟨by (with_reducible repeat (first | apply Kd.R_alloc | apply Kd.R_drewN | apply Kd.R_drew)); exact HO_8.out⟩, ⟨by (with_reducible repeat (first | apply Kd.R_alloc | apply Kd.R_drewN | apply Kd.R_drew)); exact HO_9.out⟩, ⟨by repeat (first | (with_reducible first | exact HB.out | apply below_alloc | apply pw_below_drewN | apply below_drew1) | exact HB.out)⟩⟩
                        · replace c17 := Bool.eq_false_iff.mpr c17
                          subst c17
                          have H1 : (if (wrap64 ((rd_T87 x8_1 x11_2).f1)) ≥ a1 then (if x10_2 < 0 then (spec_l06Pay.l1 k2 a1 x2_1 x8_1 x9_1 x11_2 (wrap64 (x11_2 + 1))) else (if 0 ≤ x10_2 then (if x10_2 < (x8_1.length : Int) then (if ((rd_T87 x8_1 x11_2).f1) < ((rd_T87 x8_1 x10_2).f1) then (spec_l06Pay.l1 k2 a1 x2_1 x8_1 x9_1 x11_2 (wrap64 (x11_2 + 1))) else (spec_l06Pay.l1 k2 a1 x2_1 x8_1 x9_1 x10_2 (wrap64 (x11_2 + 1)))) else (none)) else (none))) else (spec_l06Pay.l1 k2 a1 x2_1 x8_1 x9_1 x10_2 (wrap64 (x11_2 + 1)))) = some (r1, r2) := by rw [if_neg (show ¬ (false = true) by decide)] at H; exact H
                          clear H
                          have H := H1
                          clear H1
                          by_cases c20 : (wrap64 ((rd_T87 x8_1 x11_2).f1)) ≥ a1
                          · rw [if_pos c20] at H
                            have c20b0 : decide (a1 ≤ (wrap64 ((rd_T87 x8_1 x11_2).f1))) = true := decide_eq_true c20
                            clear c20
                            by_cases c21 : x10_2 < 0
                            · rw [if_pos c21] at H
                              have c21b0 : decide (x10_2 < 0) = true := decide_eq_true c21
                              clear c21
                              have H' := Aside0.mk H
                              clear H
                              obtain ⟨Ao22, co22, eo22⟩ := Kd.R_slice HO_8.out
                              subst eo22
                              obtain ⟨Ao23, co23, eo23⟩ := Kd.R_slice HO_9.out
                              subst eo23
                              have p385 : 0 ≤ (x11_2 : Int) := of_decide_eq_true (by first | (with_reducible assumption) | assumption)
                              have q385 : x11_2 < (x9_1.length : Int) := of_decide_eq_true (by first | (with_reducible assumption) | assumption)
                              obtain ⟨ad385, e385, hx385_0⟩ := Kd.at_bool (Kd.R_reads' HO_9.out).2.2 x11_2 p385 q385
                              (try rw [← Nbq16.out] at hx385_0)
                              cases e385
                              replace p385 := eq_true p385
                              replace q385 := eq_true q385
                              have p386 : 0 ≤ (x11_2 : Int) := of_decide_eq_true (by first | (with_reducible assumption) | assumption)
                              have q386 : x11_2 < (x8_1.length : Int) := of_decide_eq_true (by first | (with_reducible assumption) | assumption)
                              obtain ⟨ad386, e386, hx386_0, hx386_1⟩ := at_T87 (Kd.R_reads' HO_8.out).2.2 x11_2 p386 q386
                              cases e386
                              replace p386 := eq_true p386
                              replace q386 := eq_true q386
                              go_wp2
                              repeat (go_quiet (fail); try go_wp2)
                              go_roundg k2
                              case measure => have := HK1.out; have := HK2.out; omega
                              case rel => exact ⟨(x11_2), (wrap64 (x11_2 + 1)), (by first | rfl | (simp; done) | (simp [*]; done)), (by first | rfl | (simp; done) | (simp [*]; done)), H', ⟨by have := HK1.out; have := HK2.out; omega⟩, ⟨by (with_reducible repeat (first | apply Kd.R_alloc | apply Kd.R_drewN | apply Kd.R_drew)); exact HO_8.out⟩, ⟨by (with_reducible repeat (first | apply Kd.R_alloc | apply Kd.R_drewN | apply Kd.R_drew)); exact HO_9.out⟩, ⟨by repeat (first | (with_reducible first | exact HB.out | apply below_alloc | apply pw_below_drewN | apply below_drew1) | exact HB.out)⟩⟩
                            · rw [if_neg c21] at H
                              have c21b0 : decide (x10_2 < 0) = false := decide_eq_false c21
                              clear c21
                              by_cases c24 : 0 ≤ x10_2
                              · rw [if_pos c24] at H
                                have c24b0 : decide (0 ≤ x10_2) = true := decide_eq_true c24
                                clear c24
                                by_cases c25 : x10_2 < (x8_1.length : Int)
                                · rw [if_pos c25] at H
                                  have c25b0 : decide (x10_2 < (x8_1.length : Int)) = true := decide_eq_true c25
                                  clear c25
                                  by_cases c26 : ((rd_T87 x8_1 x11_2).f1) < ((rd_T87 x8_1 x10_2).f1)
                                  · rw [if_pos c26] at H
                                    have c26b0 : decide (((rd_T87 x8_1 x11_2).f1) < ((rd_T87 x8_1 x10_2).f1)) = true := decide_eq_true c26
                                    clear c26
                                    have H' := Aside0.mk H
                                    clear H
                                    obtain ⟨Ao27, co27, eo27⟩ := Kd.R_slice HO_8.out
                                    subst eo27
                                    obtain ⟨Ao28, co28, eo28⟩ := Kd.R_slice HO_9.out
                                    subst eo28
                                    have p385 : 0 ≤ (x11_2 : Int) := of_decide_eq_true (by first | (with_reducible assumption) | assumption)
                                    have q385 : x11_2 < (x9_1.length : Int) := of_decide_eq_true (by first | (with_reducible assumption) | assumption)
                                    obtain ⟨ad385, e385, hx385_0⟩ := Kd.at_bool (Kd.R_reads' HO_9.out).2.2 x11_2 p385 q385
                                    (try rw [← Nbq16.out] at hx385_0)
                                    cases e385
                                    replace p385 := eq_true p385
                                    replace q385 := eq_true q385
                                    have p386 : 0 ≤ (x11_2 : Int) := of_decide_eq_true (by first | (with_reducible assumption) | assumption)
                                    have q386 : x11_2 < (x8_1.length : Int) := of_decide_eq_true (by first | (with_reducible assumption) | assumption)
                                    obtain ⟨ad386, e386, hx386_0, hx386_1⟩ := at_T87 (Kd.R_reads' HO_8.out).2.2 x11_2 p386 q386
                                    cases e386
                                    replace p386 := eq_true p386
                                    replace q386 := eq_true q386
                                    have p387 : 0 ≤ (x11_2 : Int) := of_decide_eq_true (by first | (with_reducible assumption) | assumption)
                                    have q387 : x11_2 < (x8_1.length : Int) := of_decide_eq_true (by first | (with_reducible assumption) | assumption)
                                    obtain ⟨ad387, e387, hx387_0, hx387_1⟩ := at_T87 (Kd.R_reads' HO_8.out).2.2 x11_2 p387 q387
                                    obtain rfl : ad386 = ad387 := (by injection e387)
                                    replace p387 := eq_true p387
                                    replace q387 := eq_true q387
                                    have p388 : 0 ≤ (x10_2 : Int) := of_decide_eq_true (by first | (with_reducible assumption) | assumption)
                                    have q388 : x10_2 < (x8_1.length : Int) := of_decide_eq_true (by first | (with_reducible assumption) | assumption)
                                    obtain ⟨ad388, e388, hx388_0, hx388_1⟩ := at_T87 (Kd.R_reads' HO_8.out).2.2 x10_2 p388 q388
                                    obtain rfl : ad386 = ad388 := (by injection e388)
                                    replace p388 := eq_true p388
                                    replace q388 := eq_true q388
                                    go_wp2
                                    repeat (go_quiet (fail); try go_wp2)
                                    go_roundg k2
                                    case measure => have := HK1.out; have := HK2.out; omega
                                    case rel => exact ⟨(x11_2), (wrap64 (x11_2 + 1)), (by first | rfl | (simp; done) | (simp [*]; done)), (by first | rfl | (simp; done) | (simp [*]; done)), H', ⟨by have := HK1.out; have := HK2.out; omega⟩, ⟨by (with_reducible repeat (first | apply Kd.R_alloc | apply Kd.R_drewN | apply Kd.R_drew)); exact HO_8.out⟩, ⟨by (with_reducible repeat (first | apply Kd.R_alloc | apply Kd.R_drewN | apply Kd.R_drew)); exact HO_9.out⟩, ⟨by repeat (first | (with_reducible first | exact HB.out | apply below_alloc | apply pw_below_drewN | apply below_drew1) | exact HB.out)⟩⟩
                                  · rw [if_neg c26] at H
                                    have c26b0 : decide (((rd_T87 x8_1 x11_2).f1) < ((rd_T87 x8_1 x10_2).f1)) = false := decide_eq_false c26
                                    clear c26
                                    have H' := Aside0.mk H
                                    clear H
                                    obtain ⟨Ao29, co29, eo29⟩ := Kd.R_slice HO_8.out
                                    subst eo29
                                    obtain ⟨Ao30, co30, eo30⟩ := Kd.R_slice HO_9.out
                                    subst eo30
                                    have p385 : 0 ≤ (x11_2 : Int) := of_decide_eq_true (by first | (with_reducible assumption) | assumption)
                                    have q385 : x11_2 < (x9_1.length : Int) := of_decide_eq_true (by first | (with_reducible assumption) | assumption)
                                    obtain ⟨ad385, e385, hx385_0⟩ := Kd.at_bool (Kd.R_reads' HO_9.out).2.2 x11_2 p385 q385
                                    (try rw [← Nbq16.out] at hx385_0)
                                    cases e385
                                    replace p385 := eq_true p385
                                    replace q385 := eq_true q385
                                    have p386 : 0 ≤ (x11_2 : Int) := of_decide_eq_true (by first | (with_reducible assumption) | assumption)
                                    have q386 : x11_2 < (x8_1.length : Int) := of_decide_eq_true (by first | (with_reducible assumption) | assumption)
                                    obtain ⟨ad386, e386, hx386_0, hx386_1⟩ := at_T87 (Kd.R_reads' HO_8.out).2.2 x11_2 p386 q386
                                    cases e386
                                    replace p386 := eq_true p386
                                    replace q386 := eq_true q386
                                    have p387 : 0 ≤ (x11_2 : Int) := of_decide_eq_true (by first | (with_reducible assumption) | assumption)
                                    have q387 : x11_2 < (x8_1.length : Int) := of_decide_eq_true (by first | (with_reducible assumption) | assumption)
                                    obtain ⟨ad387, e387, hx387_0, hx387_1⟩ := at_T87 (Kd.R_reads' HO_8.out).2.2 x11_2 p387 q387
                                    obtain rfl : ad386 = ad387 := (by injection e387)
                                    replace p387 := eq_true p387
                                    replace q387 := eq_true q387
                                    have p388 : 0 ≤ (x10_2 : Int) := of_decide_eq_true (by first | (with_reducible assumption) | assumption)
                                    have q388 : x10_2 < (x8_1.length : Int) := of_decide_eq_true (by first | (with_reducible assumption) | assumption)
                                    obtain ⟨ad388, e388, hx388_0, hx388_1⟩ := at_T87 (Kd.R_reads' HO_8.out).2.2 x10_2 p388 q388
                                    obtain rfl : ad386 = ad388 := (by injection e388)
                                    replace p388 := eq_true p388
                                    replace q388 := eq_true q388
                                    go_wp2
                                    repeat (go_quiet (fail); try go_wp2)
                                    go_roundg k2
                                    case measure => have := HK1.out; have := HK2.out; omega
                                    case rel => exact ⟨(x10_2), (wrap64 (x11_2 + 1)), (by first | rfl | (simp; done) | (simp [*]; done)), (by first | rfl | (simp; done) | (simp [*]; done)), H', ⟨by have := HK1.out; have := HK2.out; omega⟩, ⟨by (with_reducible repeat (first | apply Kd.R_alloc | apply Kd.R_drewN | apply Kd.R_drew)); exact HO_8.out⟩, ⟨by (with_reducible repeat (first | apply Kd.R_alloc | apply Kd.R_drewN | apply Kd.R_drew)); exact HO_9.out⟩, ⟨by repeat (first | (with_reducible first | exact HB.out | apply below_alloc | apply pw_below_drewN | apply below_drew1) | exact HB.out)⟩⟩
                                · rw [if_neg c25] at H
                                  exact absurd H (by simp)
                              · rw [if_neg c24] at H
                                exact absurd H (by simp)
                          · rw [if_neg c20] at H
                            have c20b0 : decide (a1 ≤ (wrap64 ((rd_T87 x8_1 x11_2).f1))) = false := decide_eq_false c20
                            clear c20
                            have H' := Aside0.mk H
                            clear H
                            obtain ⟨Ao31, co31, eo31⟩ := Kd.R_slice HO_8.out
                            subst eo31
                            obtain ⟨Ao32, co32, eo32⟩ := Kd.R_slice HO_9.out
                            subst eo32
                            have p385 : 0 ≤ (x11_2 : Int) := of_decide_eq_true (by first | (with_reducible assumption) | assumption)
                            have q385 : x11_2 < (x9_1.length : Int) := of_decide_eq_true (by first | (with_reducible assumption) | assumption)
                            obtain ⟨ad385, e385, hx385_0⟩ := Kd.at_bool (Kd.R_reads' HO_9.out).2.2 x11_2 p385 q385
                            (try rw [← Nbq16.out] at hx385_0)
                            cases e385
                            replace p385 := eq_true p385
                            replace q385 := eq_true q385
                            have p386 : 0 ≤ (x11_2 : Int) := of_decide_eq_true (by first | (with_reducible assumption) | assumption)
                            have q386 : x11_2 < (x8_1.length : Int) := of_decide_eq_true (by first | (with_reducible assumption) | assumption)
                            obtain ⟨ad386, e386, hx386_0, hx386_1⟩ := at_T87 (Kd.R_reads' HO_8.out).2.2 x11_2 p386 q386
                            cases e386
                            replace p386 := eq_true p386
                            replace q386 := eq_true q386
                            go_wp2
                            repeat (go_quiet (fail); try go_wp2)
                            go_roundg k2
                            case measure => have := HK1.out; have := HK2.out; omega
                            case rel => exact ⟨(x10_2), (wrap64 (x11_2 + 1)), (by first | rfl | (simp; done) | (simp [*]; done)), (by first | rfl | (simp; done) | (simp [*]; done)), H', ⟨by have := HK1.out; have := HK2.out; omega⟩, ⟨by (with_reducible repeat (first | apply Kd.R_alloc | apply Kd.R_drewN | apply Kd.R_drew)); exact HO_8.out⟩, ⟨by (with_reducible repeat (first | apply Kd.R_alloc | apply Kd.R_drewN | apply Kd.R_drew)); exact HO_9.out⟩, ⟨by repeat (first | (with_reducible first | exact HB.out | apply below_alloc | apply pw_below_drewN | apply below_drew1) | exact HB.out)⟩⟩
                      · rw [if_neg c15] at H
                        exact absurd H (by simp)
                    · rw [if_neg c14] at H
                      exact absurd H (by simp)
                  · rw [if_neg c13] at H
                    have c13b0 : decide (x11_2 < (x8_1.length : Int)) = false := decide_eq_false c13
                    clear c13
                    by_cases c33 : x10_2 < 0
                    · rw [if_pos c33] at H
                      have c33b0 : decide (x10_2 < 0) = true := decide_eq_true c33
                      clear c33
                      simp only [Option.some.injEq, Prod.mk.injEq] at H
                      obtain ⟨rfl, rfl⟩ := H
                      obtain ⟨Ao34, co34, eo34⟩ := Kd.R_slice HO_8.out
                      subst eo34
                      go_wp2
                      repeat (go_quiet (fail); try go_wp2)
                      go_ret2
                      exact ⟨_, by first | rfl | (simp [errW_none, errW_some] <;> rfl) | (simp [*, errW_none, errW_some] <;> rfl), by (with_reducible repeat (first | apply Kd.R_alloc | apply Kd.R_drewN | apply Kd.R_drew)); exact HO_8.out, by repeat (first | (with_reducible first | exact HB.out | apply below_alloc | apply pw_below_drewN | apply below_drew1) | exact HB.out)⟩
                    · rw [if_neg c33] at H
                      have c33b0 : decide (x10_2 < 0) = false := decide_eq_false c33
                      clear c33
                      by_cases c35 : 0 ≤ x10_2
                      · rw [if_pos c35] at H
                        have c35b0 : decide (0 ≤ x10_2) = true := decide_eq_true c35
                        clear c35
                        by_cases c36 : x10_2 < (x9_1.length : Int)
                        · rw [if_pos c36] at H
                          have c36b0 : decide (x10_2 < (x9_1.length : Int)) = true := decide_eq_true c36
                          clear c36
                          obtain ⟨y389, hy389⟩ : ∃ y_ : List Bool, y_ = (x9_1.set (x10_2 : Int).toNat true) := ⟨_, rfl⟩
                          replace H : (if x10_2 < (x8_1.length : Int) then ((spec_l00Min.f x2_1 (wrap64 ((rd_T87 x8_1 x10_2).f0))).bind fun t391 => (spec_l06Pay.l0 k2 a1 (wrap64 (x2_1 - t391)) (x8_1.set (x10_2 : Int).toNat (⟨wrap32 (((rd_T87 x8_1 x10_2).f0) - (wrap32 (t391))), (rd_T87 x8_1 x10_2).f1⟩ : S87)) y389)) else (none)) = some (r1, r2) := by first | (rw [hy389]; with_reducible exact H) | (have H2_ := (Option.bind_some _ _).symm.trans H; rw [hy389]; with_reducible exact H2_) | (have H2_ := (Option.bind_some _ _).symm.trans H; with_reducible exact H2_) | with_reducible exact H | (rw [hy389]; exact H) | exact H
                          have Ny389 := Aside0.mk hy389
                          clear hy389
                          by_cases c38 : x10_2 < (x8_1.length : Int)
                          · rw [if_pos c38] at H
                            have c38b0 : decide (x10_2 < (x8_1.length : Int)) = true := decide_eq_true c38
                            clear c38
                            replace H := Option.bind_eq_some_iff.mp H
                            obtain ⟨t391, A390, H⟩ := H
                            replace H : (spec_l06Pay.l0 k2 a1 (wrap64 (x2_1 - t391)) (x8_1.set (x10_2 : Int).toNat (⟨wrap32 (((rd_T87 x8_1 x10_2).f0) - (wrap32 (t391))), (rd_T87 x8_1 x10_2).f1⟩ : S87)) y389) = some (r1, r2) := H
                            have A39 := Aside0.mk A390
                            clear A390
                            obtain ⟨y393, hy393⟩ : ∃ y_ : List (S87), y_ = (x8_1.set (x10_2 : Int).toNat (⟨wrap32 (((rd_T87 x8_1 x10_2).f0) - (wrap32 (t391))), (rd_T87 x8_1 x10_2).f1⟩ : S87)) := ⟨_, rfl⟩
                            replace H : (spec_l06Pay.l0 k2 a1 (wrap64 (x2_1 - t391)) y393 y389) = some (r1, r2) := by first | (rw [hy393]; with_reducible exact H) | (have H2_ := (Option.bind_some _ _).symm.trans H; rw [hy393]; with_reducible exact H2_) | (have H2_ := (Option.bind_some _ _).symm.trans H; with_reducible exact H2_) | with_reducible exact H | (rw [hy393]; exact H) | exact H
                            have Ny393 := Aside0.mk hy393
                            clear hy393
                            have H' := Aside0.mk H
                            clear H
                            obtain ⟨Ao41, co41, eo41⟩ := Kd.R_slice HO_8.out
                            subst eo41
                            have p37 : 0 ≤ (x10_2 : Int) := of_decide_eq_true (by first | (with_reducible assumption) | assumption)
                            have q37 : (x10_2 : Int) < ((x9_1.length : Int) : Int) := of_decide_eq_true (by first | (with_reducible assumption) | assumption)
                            obtain ⟨go37, co37, eo37, gb37, gl37, cl37, HG37⟩ := Kd.R_form HO_9.out (by omega)
                            (first | cases eo37 | (injection eo37 with ea_ en_ ec_; (first | subst ea_ | (injection ea_ with ea_; subst ea_)); subst ec_; clear en_))
                            have GB37 := Aside0.mk gb37
                            have GG37 := Aside0.mk HG37
                            clear gb37 gl37 HG37
                            obtain ⟨hx37_0, hf37_0⟩ := Kd.R_celln false HO_9.out (x10_2 : Int) p37 q37
                            replace p37 := eq_true p37
                            replace q37 := eq_true q37
                            have HP42 := Kd.R_putg HO_9.out (x10_2 : Int) true
                            go_wp2_with (first | ((with_reducible refine gate_store (t := 4) (p := 64) rfl ?_); (try (rw [drewN_self wr]; generalize hq_ : World.drewN wr _ = wr; have n0_ := Aside0.mk (Kd.R_at hq_ HO_8.out); have n1_ := Aside0.mk (Kd.R_at hq_ HO_9.out); have n2_ := Aside0.mk (below_at hq_ HB.out); clear hq_ HO_8 HO_9 HB; have HO_8 := n0_; have HO_9 := n1_; have HB := n2_; clear n0_ n1_ n2_; (try (have HP42 := Kd.R_putg HO_9.out (x10_2 : Int) true)))); refine store_event (t := 4) (p := 64) (v := ?vo_w43) (w1 := (wr.setCell ⟨go37, (x10_2 : Int).toNat, none⟩ (.bool true))) ?hg ?ho ?hn ?hr ?_; (case ho => rfl); (case hg => rfl); (case hn => rfl); (case hr => first | (go_simp; done) | (go_simp; rfl)); intro w43 hw; have hg : wr.grownBy w43 (some go37) := (by rw [hw]; exact HP42.2); have hp_ : Kd.R Kd.bool 4 w43 w.heap.size (fun _ => True) (.slice (some ⟨go37, 0, none⟩) x9_1.length co37) y389 := (by rw [hw, Ny389.out]; exact HP42.1); clear HP42; have n0_ := Aside0.mk (Kd.R_over' (v := (.slice (some ⟨go37, 0, none⟩) x9_1.length co37)) (by (with_reducible repeat (first | apply Kd.R_alloc | apply Kd.R_drewN | apply Kd.R_drew)); exact HO_8.out) (Kd.R_typed HO_9.out) (by decide) hg); have n1_ := Aside0.mk (hp_); have n2_ := Aside0.mk ((by rw [hw]; exact below_set (HB.out) GB37.out : Below w.heap.size w w43)); clear HO_8; clear HO_9; clear HB; have HO_8 := n0_; have HO_9 := n1_; have HB := n2_; clear n0_ n1_ n2_; clear hg hw hp_; have p390 : 0 ≤ (x10_2 : Int) := of_decide_eq_true (by first | (with_reducible assumption) | assumption); have q390 : x10_2 < (x8_1.length : Int) := of_decide_eq_true (by first | (with_reducible assumption) | assumption); obtain ⟨ad390, e390, hx390_0, hx390_1⟩ := at_T87 (Kd.R_reads' HO_8.out).2.2 x10_2 p390 q390; cases e390; replace p390 := eq_true p390; replace q390 := eq_true q390) | (go_at_call 104; (with_reducible refine (spec_l00Min.calls x2_1 (wrap64 ((rd_T87 x8_1 x10_2).f0)) t391 _ A39.out).mono ?_); rintro e w' ⟨rfl, ⟨nd, rfl⟩⟩; (try first | exact ⟨rfl, _, World.drewN_drewN _ _ _⟩ | exact ⟨rfl, _, Eq.trans (World.drewN_drewN _ _ _) (congrArg (World.drewN _) (Nat.add_assoc _ _ _))⟩); have p392 : 0 ≤ (x10_2 : Int) := of_decide_eq_true (by first | (with_reducible assumption) | assumption); have q392 : x10_2 < (x8_1.length : Int) := of_decide_eq_true (by first | (with_reducible assumption) | assumption); obtain ⟨ad392, e392, hx392_0, hx392_1⟩ := at_T87 (Kd.R_reads' HO_8.out).2.2 x10_2 p392 q392; obtain rfl : ad390 = ad392 := (by injection e392); replace p392 := eq_true p392; replace q392 := eq_true q392; have p40 : 0 ≤ (x10_2 : Int) := of_decide_eq_true (by first | (with_reducible assumption) | assumption); have q40 : (x10_2 : Int) < ((x8_1.length : Int) : Int) := of_decide_eq_true (by first | (with_reducible assumption) | assumption); obtain ⟨go40, co40, eo40, gb40, gl40, cl40, HG40⟩ := Kd.R_form HO_8.out (by omega); (first | cases eo40 | (injection eo40 with ea_ en_ ec_; (first | subst ea_ | (injection ea_ with ea_; subst ea_)); subst ec_; clear en_)); have GB40 := Aside0.mk gb40; have GG40 := Aside0.mk HG40; clear gb40 gl40 HG40; (first | simp only [add_plain] at hx390_0 | skip); (first | simp only [add_plain] at hx390_1 | skip); (first | simp only [add_plain] at hx392_0 | skip); (first | simp only [add_plain] at hx392_1 | skip); obtain ⟨ce40, hcl40, hM40, hcc40, hfr40⟩ := Kd.R_elem HO_8.out z87 (x10_2 : Int) p40 q40; obtain rfl := k87_openM hM40; have hx40_0 : w43.cell? ⟨go40, (x10_2 : Int).toNat * 2, none⟩ = some (.int .i32 ((rd_T87 x8_1 x10_2).f0)) := hcc40 0 _ rfl; have hx40_1 : w43.cell? ⟨go40, (x10_2 : Int).toNat * 2 + 1, none⟩ = some (.int .i16 ((rd_T87 x8_1 x10_2).f1)) := hcc40 1 _ rfl; have hf40_0 : w43.frozen? ⟨go40, (x10_2 : Int).toNat * 2, none⟩ = false := hfr40 0; have hf40_1 : w43.frozen? ⟨go40, (x10_2 : Int).toNat * 2 + 1, none⟩ = false := hfr40 1; clear hcl40 hcc40 hfr40 hM40; replace p40 := eq_true p40; replace q40 := eq_true q40; have HX44 := Aside0.mk (show Kd.R k87 87 w43 w.heap.size (fun _ => True) (.slice (some ⟨go40, 0, none⟩) x8_1.length co41) x8_1 from (by (with_reducible repeat (first | apply Kd.R_alloc | apply Kd.R_drewN | apply Kd.R_drew)); exact HO_8.out)); obtain ⟨ce44, hcl44, hM44, hcc44, hfr44⟩ := Kd.R_elem HX44.out z87 (x10_2 : Int) (of_decide_eq_true (by first | (with_reducible assumption) | assumption)) (by have h_ : (x10_2 : Int) < ((x8_1.length : Int) : Int) := of_decide_eq_true (by first | (with_reducible assumption) | assumption); first | exact h_ | (have e_ := (Kd.R_reads' HO_8.out).1; omega) | simpa using h_); obtain rfl := k87_openM hM44; have HP44 := Kd.R_seg HX44.out (x10_2 : Int) (of_decide_eq_true (by first | (with_reducible assumption) | assumption)) (by have h_ : (x10_2 : Int) < ((x8_1.length : Int) : Int) := of_decide_eq_true (by first | (with_reducible assumption) | assumption); first | exact h_ | (have e_ := (Kd.R_reads' HO_8.out).1; omega) | simpa using h_) (seg := [.int .i32 (wrap32 (((rd_T87 x8_1 x10_2).f0) - (wrap32 (t391))))]) (j := 0) hcl44 hcc44 (show 1 ≤ 2 from by decide) (x' := (⟨wrap32 (((rd_T87 x8_1 x10_2).f0) - (wrap32 (t391))), (rd_T87 x8_1 x10_2).f1⟩ : S87)) (k87_mkM _ _ _ (⟨wrap32 (((rd_T87 x8_1 x10_2).f0) - (wrap32 (t391))), (rd_T87 x8_1 x10_2).f1⟩ : S87) ) (fun _ hk => hk); have hx44_0 := hcc44 0 _ rfl; (try simp only [show (k87).sz = 2 from rfl, Nat.mul_one, Nat.add_zero] at hx44_0); have hf44_0 := hfr44 0; (try simp only [show (k87).sz = 2 from rfl, Nat.mul_one, Nat.add_zero] at hf44_0); clear hcl44 hcc44 hfr44 hM44) | ((with_reducible refine gate_store (t := 21) (p := 82) rfl ?_); (try (rw [drewN_self w43]; generalize hq_ : World.drewN w43 _ = w43; have n0_ := Aside0.mk (Kd.R_at hq_ HO_8.out); have n1_ := Aside0.mk (Kd.R_at hq_ HO_9.out); have n2_ := Aside0.mk (below_at hq_ HB.out); clear hq_ HO_8 HO_9 HB; have HO_8 := n0_; have HO_9 := n1_; have HB := n2_; clear n0_ n1_ n2_; (try (have HX44 := Aside0.mk (show Kd.R k87 87 w43 w.heap.size (fun _ => True) (.slice (some ⟨go40, 0, none⟩) x8_1.length co41) x8_1 from (by (with_reducible repeat (first | apply Kd.R_alloc | apply Kd.R_drewN | apply Kd.R_drew)); exact HO_8.out)))); (try (obtain ⟨ce44, hcl44, hM44, hcc44, hfr44⟩ := Kd.R_elem HX44.out z87 (x10_2 : Int) (of_decide_eq_true (by first | (with_reducible assumption) | assumption)) (by have h_ : (x10_2 : Int) < ((x8_1.length : Int) : Int) := of_decide_eq_true (by first | (with_reducible assumption) | assumption); first | exact h_ | (have e_ := (Kd.R_reads' HO_8.out).1; omega) | simpa using h_))); (try (obtain rfl := k87_openM hM44)); (try (have HP44 := Kd.R_seg HX44.out (x10_2 : Int) (of_decide_eq_true (by first | (with_reducible assumption) | assumption)) (by have h_ : (x10_2 : Int) < ((x8_1.length : Int) : Int) := of_decide_eq_true (by first | (with_reducible assumption) | assumption); first | exact h_ | (have e_ := (Kd.R_reads' HO_8.out).1; omega) | simpa using h_) (seg := [.int .i32 (wrap32 (((rd_T87 x8_1 x10_2).f0) - (wrap32 (t391))))]) (j := 0) hcl44 hcc44 (show 1 ≤ 2 from by decide) (x' := (⟨wrap32 (((rd_T87 x8_1 x10_2).f0) - (wrap32 (t391))), (rd_T87 x8_1 x10_2).f1⟩ : S87)) (k87_mkM _ _ _ (⟨wrap32 (((rd_T87 x8_1 x10_2).f0) - (wrap32 (t391))), (rd_T87 x8_1 x10_2).f1⟩ : S87) ) (fun _ hk => hk))); (try (have hx44_0 := hcc44 0 _ rfl)); (try (try simp only [show (k87).sz = 2 from rfl, Nat.mul_one, Nat.add_zero] at hx44_0)); (try (have hf44_0 := hfr44 0)); (try (try simp only [show (k87).sz = 2 from rfl, Nat.mul_one, Nat.add_zero] at hf44_0)); (try (clear hcl44 hcc44 hfr44 hM44)))); refine store_event (t := 21) (p := 82) (v := ?vo_w45) (w1 := (w43.setCell ⟨go40, (x10_2 : Int).toNat * 2, none⟩ (.int .i32 (wrap32 (((rd_T87 x8_1 x10_2).f0) - (wrap32 (t391))))))) ?hg ?ho ?hn ?hr ?_; (case ho => rfl); (case hg => rfl); (case hn => rfl); (case hr => first | (go_simp; done) | (go_simp; rfl)); intro w45 hw; have hg : w43.grownBy w45 (some go40) := (by rw [hw]; exact HP44.2); have hp_ : Kd.R k87 87 w45 w.heap.size (fun _ => True) (.slice (some ⟨go40, 0, none⟩) x8_1.length co41) y393 := (by rw [hw, Ny393.out]; exact HP44.1); clear HP44; have n0_ := Aside0.mk (hp_); have n1_ := Aside0.mk (Kd.R_over' (v := (.slice (some ⟨go40, 0, none⟩) x8_1.length co41)) (by (with_reducible repeat (first | apply Kd.R_alloc | apply Kd.R_drewN | apply Kd.R_drew)); exact HO_9.out) (Kd.R_typed HO_8.out) (by decide) hg); have n2_ := Aside0.mk ((by rw [hw]; exact below_set (HB.out) GB40.out : Below w.heap.size w w45)); clear HO_8; clear HO_9; clear HB; have HO_8 := n0_; have HO_9 := n1_; have HB := n2_; clear n0_ n1_ n2_; clear hg hw hp_))
                            repeat (go_quiet (first | ((with_reducible refine gate_store (t := 4) (p := 64) rfl ?_); (try (rw [drewN_self wr]; generalize hq_ : World.drewN wr _ = wr; have n0_ := Aside0.mk (Kd.R_at hq_ HO_8.out); have n1_ := Aside0.mk (Kd.R_at hq_ HO_9.out); have n2_ := Aside0.mk (below_at hq_ HB.out); clear hq_ HO_8 HO_9 HB; have HO_8 := n0_; have HO_9 := n1_; have HB := n2_; clear n0_ n1_ n2_; (try (have HP42 := Kd.R_putg HO_9.out (x10_2 : Int) true)))); refine store_event (t := 4) (p := 64) (v := ?vo_w43) (w1 := (wr.setCell ⟨go37, (x10_2 : Int).toNat, none⟩ (.bool true))) ?hg ?ho ?hn ?hr ?_; (case ho => rfl); (case hg => rfl); (case hn => rfl); (case hr => first | (go_simp; done) | (go_simp; rfl)); intro w43 hw; have hg : wr.grownBy w43 (some go37) := (by rw [hw]; exact HP42.2); have hp_ : Kd.R Kd.bool 4 w43 w.heap.size (fun _ => True) (.slice (some ⟨go37, 0, none⟩) x9_1.length co37) y389 := (by rw [hw, Ny389.out]; exact HP42.1); clear HP42; have n0_ := Aside0.mk (Kd.R_over' (v := (.slice (some ⟨go37, 0, none⟩) x9_1.length co37)) (by (with_reducible repeat (first | apply Kd.R_alloc | apply Kd.R_drewN | apply Kd.R_drew)); exact HO_8.out) (Kd.R_typed HO_9.out) (by decide) hg); have n1_ := Aside0.mk (hp_); have n2_ := Aside0.mk ((by rw [hw]; exact below_set (HB.out) GB37.out : Below w.heap.size w w43)); clear HO_8; clear HO_9; clear HB; have HO_8 := n0_; have HO_9 := n1_; have HB := n2_; clear n0_ n1_ n2_; clear hg hw hp_; have p390 : 0 ≤ (x10_2 : Int) := of_decide_eq_true (by first | (with_reducible assumption) | assumption); have q390 : x10_2 < (x8_1.length : Int) := of_decide_eq_true (by first | (with_reducible assumption) | assumption); obtain ⟨ad390, e390, hx390_0, hx390_1⟩ := at_T87 (Kd.R_reads' HO_8.out).2.2 x10_2 p390 q390; cases e390; replace p390 := eq_true p390; replace q390 := eq_true q390) | (go_at_call 104; (with_reducible refine (spec_l00Min.calls x2_1 (wrap64 ((rd_T87 x8_1 x10_2).f0)) t391 _ A39.out).mono ?_); rintro e w' ⟨rfl, ⟨nd, rfl⟩⟩; (try first | exact ⟨rfl, _, World.drewN_drewN _ _ _⟩ | exact ⟨rfl, _, Eq.trans (World.drewN_drewN _ _ _) (congrArg (World.drewN _) (Nat.add_assoc _ _ _))⟩); have p392 : 0 ≤ (x10_2 : Int) := of_decide_eq_true (by first | (with_reducible assumption) | assumption); have q392 : x10_2 < (x8_1.length : Int) := of_decide_eq_true (by first | (with_reducible assumption) | assumption); obtain ⟨ad392, e392, hx392_0, hx392_1⟩ := at_T87 (Kd.R_reads' HO_8.out).2.2 x10_2 p392 q392; obtain rfl : ad390 = ad392 := (by injection e392); replace p392 := eq_true p392; replace q392 := eq_true q392; have p40 : 0 ≤ (x10_2 : Int) := of_decide_eq_true (by first | (with_reducible assumption) | assumption); have q40 : (x10_2 : Int) < ((x8_1.length : Int) : Int) := of_decide_eq_true (by first | (with_reducible assumption) | assumption); obtain ⟨go40, co40, eo40, gb40, gl40, cl40, HG40⟩ := Kd.R_form HO_8.out (by omega); (first | cases eo40 | (injection eo40 with ea_ en_ ec_; (first | subst ea_ | (injection ea_ with ea_; subst ea_)); subst ec_; clear en_)); have GB40 := Aside0.mk gb40; have GG40 := Aside0.mk HG40; clear gb40 gl40 HG40; (first | simp only [add_plain] at hx390_0 | skip); (first | simp only [add_plain] at hx390_1 | skip); (first | simp only [add_plain] at hx392_0 | skip); (first | simp only [add_plain] at hx392_1 | skip); obtain ⟨ce40, hcl40, hM40, hcc40, hfr40⟩ := Kd.R_elem HO_8.out z87 (x10_2 : Int) p40 q40; obtain rfl := k87_openM hM40; have hx40_0 : w43.cell? ⟨go40, (x10_2 : Int).toNat * 2, none⟩ = some (.int .i32 ((rd_T87 x8_1 x10_2).f0)) := hcc40 0 _ rfl; have hx40_1 : w43.cell? ⟨go40, (x10_2 : Int).toNat * 2 + 1, none⟩ = some (.int .i16 ((rd_T87 x8_1 x10_2).f1)) := hcc40 1 _ rfl; have hf40_0 : w43.frozen? ⟨go40, (x10_2 : Int).toNat * 2, none⟩ = false := hfr40 0; have hf40_1 : w43.frozen? ⟨go40, (x10_2 : Int).toNat * 2 + 1, none⟩ = false := hfr40 1; clear hcl40 hcc40 hfr40 hM40; replace p40 := eq_true p40; replace q40 := eq_true q40; have HX44 := Aside0.mk (show Kd.R k87 87 w43 w.heap.size (fun _ => True) (.slice (some ⟨go40, 0, none⟩) x8_1.length co41) x8_1 from (by (with_reducible repeat (first | apply Kd.R_alloc | apply Kd.R_drewN | apply Kd.R_drew)); exact HO_8.out)); obtain ⟨ce44, hcl44, hM44, hcc44, hfr44⟩ := Kd.R_elem HX44.out z87 (x10_2 : Int) (of_decide_eq_true (by first | (with_reducible assumption) | assumption)) (by have h_ : (x10_2 : Int) < ((x8_1.length : Int) : Int) := of_decide_eq_true (by first | (with_reducible assumption) | assumption); first | exact h_ | (have e_ := (Kd.R_reads' HO_8.out).1; omega) | simpa using h_); obtain rfl := k87_openM hM44; have HP44 := Kd.R_seg HX44.out (x10_2 : Int) (of_decide_eq_true (by first | (with_reducible assumption) | assumption)) (by have h_ : (x10_2 : Int) < ((x8_1.length : Int) : Int) := of_decide_eq_true (by first | (with_reducible assumption) | assumption); first | exact h_ | (have e_ := (Kd.R_reads' HO_8.out).1; omega) | simpa using h_) (seg := [.int .i32 (wrap32 (((rd_T87 x8_1 x10_2).f0) - (wrap32 (t391))))]) (j := 0) hcl44 hcc44 (show 1 ≤ 2 from by decide) (x' := (⟨wrap32 (((rd_T87 x8_1 x10_2).f0) - (wrap32 (t391))), (rd_T87 x8_1 x10_2).f1⟩ : S87)) (k87_mkM _ _ _ (⟨wrap32 (((rd_T87 x8_1 x10_2).f0) - (wrap32 (t391))), (rd_T87 x8_1 x10_2).f1⟩ : S87) ) (fun _ hk => hk); have hx44_0 := hcc44 0 _ rfl; (try simp only [show (k87).sz = 2 from rfl, Nat.mul_one, Nat.add_zero] at hx44_0); have hf44_0 := hfr44 0; (try simp only [show (k87).sz = 2 from rfl, Nat.mul_one, Nat.add_zero] at hf44_0); clear hcl44 hcc44 hfr44 hM44) | ((with_reducible refine gate_store (t := 21) (p := 82) rfl ?_); (try (rw [drewN_self w43]; generalize hq_ : World.drewN w43 _ = w43; have n0_ := Aside0.mk (Kd.R_at hq_ HO_8.out); have n1_ := Aside0.mk (Kd.R_at hq_ HO_9.out); have n2_ := Aside0.mk (below_at hq_ HB.out); clear hq_ HO_8 HO_9 HB; have HO_8 := n0_; have HO_9 := n1_; have HB := n2_; clear n0_ n1_ n2_; (try (have HX44 := Aside0.mk (show Kd.R k87 87 w43 w.heap.size (fun _ => True) (.slice (some ⟨go40, 0, none⟩) x8_1.length co41) x8_1 from (by (with_reducible repeat (first | apply Kd.R_alloc | apply Kd.R_drewN | apply Kd.R_drew)); exact HO_8.out)))); (try (obtain ⟨ce44, hcl44, hM44, hcc44, hfr44⟩ := Kd.R_elem HX44.out z87 (x10_2 : Int) (of_decide_eq_true (by first | (with_reducible assumption) | assumption)) (by have h_ : (x10_2 : Int) < ((x8_1.length : Int) : Int) := of_decide_eq_true (by first | (with_reducible assumption) | assumption); first | exact h_ | (have e_ := (Kd.R_reads' HO_8.out).1; omega) | simpa using h_))); (try (obtain rfl := k87_openM hM44)); (try (have HP44 := Kd.R_seg HX44.out (x10_2 : Int) (of_decide_eq_true (by first | (with_reducible assumption) | assumption)) (by have h_ : (x10_2 : Int) < ((x8_1.length : Int) : Int) := of_decide_eq_true (by first | (with_reducible assumption) | assumption); first | exact h_ | (have e_ := (Kd.R_reads' HO_8.out).1; omega) | simpa using h_) (seg := [.int .i32 (wrap32 (((rd_T87 x8_1 x10_2).f0) - (wrap32 (t391))))]) (j := 0) hcl44 hcc44 (show 1 ≤ 2 from by decide) (x' := (⟨wrap32 (((rd_T87 x8_1 x10_2).f0) - (wrap32 (t391))), (rd_T87 x8_1 x10_2).f1⟩ : S87)) (k87_mkM _ _ _ (⟨wrap32 (((rd_T87 x8_1 x10_2).f0) - (wrap32 (t391))), (rd_T87 x8_1 x10_2).f1⟩ : S87) ) (fun _ hk => hk))); (try (have hx44_0 := hcc44 0 _ rfl)); (try (try simp only [show (k87).sz = 2 from rfl, Nat.mul_one, Nat.add_zero] at hx44_0)); (try (have hf44_0 := hfr44 0)); (try (try simp only [show (k87).sz = 2 from rfl, Nat.mul_one, Nat.add_zero] at hf44_0)); (try (clear hcl44 hcc44 hfr44 hM44)))); refine store_event (t := 21) (p := 82) (v := ?vo_w45) (w1 := (w43.setCell ⟨go40, (x10_2 : Int).toNat * 2, none⟩ (.int .i32 (wrap32 (((rd_T87 x8_1 x10_2).f0) - (wrap32 (t391))))))) ?hg ?ho ?hn ?hr ?_; (case ho => rfl); (case hg => rfl); (case hn => rfl); (case hr => first | (go_simp; done) | (go_simp; rfl)); intro w45 hw; have hg : w43.grownBy w45 (some go40) := (by rw [hw]; exact HP44.2); have hp_ : Kd.R k87 87 w45 w.heap.size (fun _ => True) (.slice (some ⟨go40, 0, none⟩) x8_1.length co41) y393 := (by rw [hw, Ny393.out]; exact HP44.1); clear HP44; have n0_ := Aside0.mk (hp_); have n1_ := Aside0.mk (Kd.R_over' (v := (.slice (some ⟨go40, 0, none⟩) x8_1.length co41)) (by (with_reducible repeat (first | apply Kd.R_alloc | apply Kd.R_drewN | apply Kd.R_drew)); exact HO_9.out) (Kd.R_typed HO_8.out) (by decide) hg); have n2_ := Aside0.mk ((by rw [hw]; exact below_set (HB.out) GB40.out : Below w.heap.size w w45)); clear HO_8; clear HO_9; clear HB; have HO_8 := n0_; have HO_9 := n1_; have HB := n2_; clear n0_ n1_ n2_; clear hg hw hp_)); try go_wp2_with (first | ((with_reducible refine gate_store (t := 4) (p := 64) rfl ?_); (try (rw [drewN_self wr]; generalize hq_ : World.drewN wr _ = wr; have n0_ := Aside0.mk (Kd.R_at hq_ HO_8.out); have n1_ := Aside0.mk (Kd.R_at hq_ HO_9.out); have n2_ := Aside0.mk (below_at hq_ HB.out); clear hq_ HO_8 HO_9 HB; have HO_8 := n0_; have HO_9 := n1_; have HB := n2_; clear n0_ n1_ n2_; (try (have HP42 := Kd.R_putg HO_9.out (x10_2 : Int) true)))); refine store_event (t := 4) (p := 64) (v := ?vo_w43) (w1 := (wr.setCell ⟨go37, (x10_2 : Int).toNat, none⟩ (.bool true))) ?hg ?ho ?hn ?hr ?_; (case ho => rfl); (case hg => rfl); (case hn => rfl); (case hr => first | (go_simp; done) | (go_simp; rfl)); intro w43 hw; have hg : wr.grownBy w43 (some go37) := (by rw [hw]; exact HP42.2); have hp_ : Kd.R Kd.bool 4 w43 w.heap.size (fun _ => True) (.slice (some ⟨go37, 0, none⟩) x9_1.length co37) y389 := (by rw [hw, Ny389.out]; exact HP42.1); clear HP42; have n0_ := Aside0.mk (Kd.R_over' (v := (.slice (some ⟨go37, 0, none⟩) x9_1.length co37)) (by (with_reducible repeat (first | apply Kd.R_alloc | apply Kd.R_drewN | apply Kd.R_drew)); exact HO_8.out) (Kd.R_typed HO_9.out) (by decide) hg); have n1_ := Aside0.mk (hp_); have n2_ := Aside0.mk ((by rw [hw]; exact below_set (HB.out) GB37.out : Below w.heap.size w w43)); clear HO_8; clear HO_9; clear HB; have HO_8 := n0_; have HO_9 := n1_; have HB := n2_; clear n0_ n1_ n2_; clear hg hw hp_; have p390 : 0 ≤ (x10_2 : Int) := of_decide_eq_true (by first | (with_reducible assumption) | assumption); have q390 : x10_2 < (x8_1.length : Int) := of_decide_eq_true (by first | (with_reducible assumption) | assumption); obtain ⟨ad390, e390, hx390_0, hx390_1⟩ := at_T87 (Kd.R_reads' HO_8.out).2.2 x10_2 p390 q390; cases e390; replace p390 := eq_true p390; replace q390 := eq_true q390) | (go_at_call 104; (with_reducible refine (spec_l00Min.calls x2_1 (wrap64 ((rd_T87 x8_1 x10_2).f0)) t391 _ A39.out).mono ?_); rintro e w' ⟨rfl, ⟨nd, rfl⟩⟩; (try first | exact ⟨rfl, _, World.drewN_drewN _ _ _⟩ | exact ⟨rfl, _, Eq.trans (World.drewN_drewN _ _ _) (congrArg (World.drewN _) (Nat.add_assoc _ _ _))⟩); have p392 : 0 ≤ (x10_2 : Int) := of_decide_eq_true (by first | (with_reducible assumption) | assumption); have q392 : x10_2 < (x8_1.length : Int) := of_decide_eq_true (by first | (with_reducible assumption) | assumption); obtain ⟨ad392, e392, hx392_0, hx392_1⟩ := at_T87 (Kd.R_reads' HO_8.out).2.2 x10_2 p392 q392; obtain rfl : ad390 = ad392 := (by injection e392); replace p392 := eq_true p392; replace q392 := eq_true q392; have p40 : 0 ≤ (x10_2 : Int) := of_decide_eq_true (by first | (with_reducible assumption) | assumption); have q40 : (x10_2 : Int) < ((x8_1.length : Int) : Int) := of_decide_eq_true (by first | (with_reducible assumption) | assumption); obtain ⟨go40, co40, eo40, gb40, gl40, cl40, HG40⟩ := Kd.R_form HO_8.out (by omega); (first | cases eo40 | (injection eo40 with ea_ en_ ec_; (first | subst ea_ | (injection ea_ with ea_; subst ea_)); subst ec_; clear en_)); have GB40 := Aside0.mk gb40; have GG40 := Aside0.mk HG40; clear gb40 gl40 HG40; (first | simp only [add_plain] at hx390_0 | skip); (first | simp only [add_plain] at hx390_1 | skip); (first | simp only [add_plain] at hx392_0 | skip); (first | simp only [add_plain] at hx392_1 | skip); obtain ⟨ce40, hcl40, hM40, hcc40, hfr40⟩ := Kd.R_elem HO_8.out z87 (x10_2 : Int) p40 q40; obtain rfl := k87_openM hM40; have hx40_0 : w43.cell? ⟨go40, (x10_2 : Int).toNat * 2, none⟩ = some (.int .i32 ((rd_T87 x8_1 x10_2).f0)) := hcc40 0 _ rfl; have hx40_1 : w43.cell? ⟨go40, (x10_2 : Int).toNat * 2 + 1, none⟩ = some (.int .i16 ((rd_T87 x8_1 x10_2).f1)) := hcc40 1 _ rfl; have hf40_0 : w43.frozen? ⟨go40, (x10_2 : Int).toNat * 2, none⟩ = false := hfr40 0; have hf40_1 : w43.frozen? ⟨go40, (x10_2 : Int).toNat * 2 + 1, none⟩ = false := hfr40 1; clear hcl40 hcc40 hfr40 hM40; replace p40 := eq_true p40; replace q40 := eq_true q40; have HX44 := Aside0.mk (show Kd.R k87 87 w43 w.heap.size (fun _ => True) (.slice (some ⟨go40, 0, none⟩) x8_1.length co41) x8_1 from (by (with_reducible repeat (first | apply Kd.R_alloc | apply Kd.R_drewN | apply Kd.R_drew)); exact HO_8.out)); obtain ⟨ce44, hcl44, hM44, hcc44, hfr44⟩ := Kd.R_elem HX44.out z87 (x10_2 : Int) (of_decide_eq_true (by first | (with_reducible assumption) | assumption)) (by have h_ : (x10_2 : Int) < ((x8_1.length : Int) : Int) := of_decide_eq_true (by first | (with_reducible assumption) | assumption); first | exact h_ | (have e_ := (Kd.R_reads' HO_8.out).1; omega) | simpa using h_); obtain rfl := k87_openM hM44; have HP44 := Kd.R_seg HX44.out (x10_2 : Int) (of_decide_eq_true (by first | (with_reducible assumption) | assumption)) (by have h_ : (x10_2 : Int) < ((x8_1.length : Int) : Int) := of_decide_eq_true (by first | (with_reducible assumption) | assumption); first | exact h_ | (have e_ := (Kd.R_reads' HO_8.out).1; omega) | simpa using h_) (seg := [.int .i32 (wrap32 (((rd_T87 x8_1 x10_2).f0) - (wrap32 (t391))))]) (j := 0) hcl44 hcc44 (show 1 ≤ 2 from by decide) (x' := (⟨wrap32 (((rd_T87 x8_1 x10_2).f0) - (wrap32 (t391))), (rd_T87 x8_1 x10_2).f1⟩ : S87)) (k87_mkM _ _ _ (⟨wrap32 (((rd_T87 x8_1 x10_2).f0) - (wrap32 (t391))), (rd_T87 x8_1 x10_2).f1⟩ : S87) ) (fun _ hk => hk); have hx44_0 := hcc44 0 _ rfl; (try simp only [show (k87).sz = 2 from rfl, Nat.mul_one, Nat.add_zero] at hx44_0); have hf44_0 := hfr44 0; (try simp only [show (k87).sz = 2 from rfl, Nat.mul_one, Nat.add_zero] at hf44_0); clear hcl44 hcc44 hfr44 hM44) | ((with_reducible refine gate_store (t := 21) (p := 82) rfl ?_); (try (rw [drewN_self w43]; generalize hq_ : World.drewN w43 _ = w43; have n0_ := Aside0.mk (Kd.R_at hq_ HO_8.out); have n1_ := Aside0.mk (Kd.R_at hq_ HO_9.out); have n2_ := Aside0.mk (below_at hq_ HB.out); clear hq_ HO_8 HO_9 HB; have HO_8 := n0_; have HO_9 := n1_; have HB := n2_; clear n0_ n1_ n2_; (try (have HX44 := Aside0.mk (show Kd.R k87 87 w43 w.heap.size (fun _ => True) (.slice (some ⟨go40, 0, none⟩) x8_1.length co41) x8_1 from (by (with_reducible repeat (first | apply Kd.R_alloc | apply Kd.R_drewN | apply Kd.R_drew)); exact HO_8.out)))); (try (obtain ⟨ce44, hcl44, hM44, hcc44, hfr44⟩ := Kd.R_elem HX44.out z87 (x10_2 : Int) (of_decide_eq_true (by first | (with_reducible assumption) | assumption)) (by have h_ : (x10_2 : Int) < ((x8_1.length : Int) : Int) := of_decide_eq_true (by first | (with_reducible assumption) | assumption); first | exact h_ | (have e_ := (Kd.R_reads' HO_8.out).1; omega) | simpa using h_))); (try (obtain rfl := k87_openM hM44)); (try (have HP44 := Kd.R_seg HX44.out (x10_2 : Int) (of_decide_eq_true (by first | (with_reducible assumption) | assumption)) (by have h_ : (x10_2 : Int) < ((x8_1.length : Int) : Int) := of_decide_eq_true (by first | (with_reducible assumption) | assumption); first | exact h_ | (have e_ := (Kd.R_reads' HO_8.out).1; omega) | simpa using h_) (seg := [.int .i32 (wrap32 (((rd_T87 x8_1 x10_2).f0) - (wrap32 (t391))))]) (j := 0) hcl44 hcc44 (show 1 ≤ 2 from by decide) (x' := (⟨wrap32 (((rd_T87 x8_1 x10_2).f0) - (wrap32 (t391))), (rd_T87 x8_1 x10_2).f1⟩ : S87)) (k87_mkM _ _ _ (⟨wrap32 (((rd_T87 x8_1 x10_2).f0) - (wrap32 (t391))), (rd_T87 x8_1 x10_2).f1⟩ : S87) ) (fun _ hk => hk))); (try (have hx44_0 := hcc44 0 _ rfl)); (try (try simp only [show (k87).sz = 2 from rfl, Nat.mul_one, Nat.add_zero] at hx44_0)); (try (have hf44_0 := hfr44 0)); (try (try simp only [show (k87).sz = 2 from rfl, Nat.mul_one, Nat.add_zero] at hf44_0)); (try (clear hcl44 hcc44 hfr44 hM44)))); refine store_event (t := 21) (p := 82) (v := ?vo_w45) (w1 := (w43.setCell ⟨go40, (x10_2 : Int).toNat * 2, none⟩ (.int .i32 (wrap32 (((rd_T87 x8_1 x10_2).f0) - (wrap32 (t391))))))) ?hg ?ho ?hn ?hr ?_; (case ho => rfl); (case hg => rfl); (case hn => rfl); (case hr => first | (go_simp; done) | (go_simp; rfl)); intro w45 hw; have hg : w43.grownBy w45 (some go40) := (by rw [hw]; exact HP44.2); have hp_ : Kd.R k87 87 w45 w.heap.size (fun _ => True) (.slice (some ⟨go40, 0, none⟩) x8_1.length co41) y393 := (by rw [hw, Ny393.out]; exact HP44.1); clear HP44; have n0_ := Aside0.mk (hp_); have n1_ := Aside0.mk (Kd.R_over' (v := (.slice (some ⟨go40, 0, none⟩) x8_1.length co41)) (by (with_reducible repeat (first | apply Kd.R_alloc | apply Kd.R_drewN | apply Kd.R_drew)); exact HO_9.out) (Kd.R_typed HO_8.out) (by decide) hg); have n2_ := Aside0.mk ((by rw [hw]; exact below_set (HB.out) GB40.out : Below w.heap.size w w45)); clear HO_8; clear HO_9; clear HB; have HO_8 := n0_; have HO_9 := n1_; have HB := n2_; clear n0_ n1_ n2_; clear hg hw hp_)))
                            go_roundg k2
                            case measure => have := HK1.out; have := HK2.out; omega
                            case rel => exact ⟨(wrap64 (x2_1 - t391)), (y393), (y389), (by first | rfl | (simp; done) | (simp [*]; done)), H', ⟨by have := HK1.out; have := HK2.out; omega⟩, ⟨by (with_reducible repeat (first | apply Kd.R_alloc | apply Kd.R_drewN | apply Kd.R_drew)); exact HO_8.out⟩, ⟨by (with_reducible repeat (first | apply Kd.R_alloc | apply Kd.R_drewN | apply Kd.R_drew)); exact HO_9.out⟩, ⟨by repeat (first | (with_reducible first | exact HB.out | apply below_alloc | apply pw_below_drewN | apply below_drew1) | exact HB.out)⟩⟩
                          · rw [if_neg c38] at H
                            exact absurd H (by simp)
                        · rw [if_neg c36] at H
                          exact absurd H (by simp)
                      · rw [if_neg c35] at H
                        exact absurd H (by simp)
            · rw [if_neg c12] at H
              have c12b0 : decide (0 < x2_1) = false := decide_eq_false c12
              clear c12
              simp only [Option.some.injEq, Prod.mk.injEq] at H
              obtain ⟨rfl, rfl⟩ := H
              go_wp2
              repeat (go_quiet (fail); try go_wp2)
              go_ret2
              exact ⟨_, by first | rfl | (simp [errW_none, errW_some] <;> rfl) | (simp [*, errW_none, errW_some] <;> rfl), by (with_reducible repeat (first | apply Kd.R_alloc | apply Kd.R_drewN | apply Kd.R_drew)); exact HO_8.out, by repeat (first | (with_reducible first | exact HB.out | apply below_alloc | apply pw_below_drewN | apply below_drew1) | exact HB.out)⟩
      · rw [if_neg c6] at H
        exact absurd H (by simp)
    · rw [if_neg c5] at H
      exact absurd H (by simp)
  · rw [if_neg c4] at H
    exact absurd H (by simp)

end Go.Proofs.Ytennlgkacijnnaa.Q
