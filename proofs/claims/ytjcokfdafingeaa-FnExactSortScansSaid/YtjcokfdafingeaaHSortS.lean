/- impl's SortScans: its comparison, and itself. -/
import Derived.Test.YtjcokfdafingeaaSortScan
import Derived.Test.YtjcokfdafingeaaHBad
import Derived.Test.YtjcokfdafingeaaCloneScan
set_option linter.unusedVariables false
set_option linter.unusedSimpArgs false
namespace Go.Proofs.Ytjcokfdafingeaa.Q
open Go.RowKit Go.Proofs.YtjcokfdafingeaaW.PrintWords Go.Proofs.YtjcokfdafingeaaW.PrintLast Go.Proofs.YtjcokfdafingeaaW.PrintMore
def cmpI (x y : Int) : Int := if x < y then -1 else if y < x then 1 else 0
theorem cmp16_is (x y : Int) (w : World) : Calls Try.prog 83 #[.int .i16 x, .int .i16 y] w fun e w' => e = .returned (.int .i64 (cmpI x y)) ∧ w' = w := by
  unfold cmpI
  by_cases h1 : x < y
  · rw [if_pos h1]
    go_enter Try.func83, Try.ntmps83
    go_wp2
    go_ret
    exact ⟨rfl, rfl⟩
  · rw [if_neg h1]
    by_cases h2 : y < x
    · rw [if_pos h2]
      go_enter Try.func83, Try.ntmps83
      go_wp2
      go_ret
      exact ⟨rfl, rfl⟩
    · rw [if_neg h2]
      go_enter Try.func83, Try.ntmps83
      go_wp2
      go_ret
      exact ⟨rfl, rfl⟩
theorem cmp8_is (x y : Int) (w : World) : Calls Try.prog 84 #[.int .i8 x, .int .i8 y] w fun e w' => e = .returned (.int .i64 (cmpI x y)) ∧ w' = w := by
  unfold cmpI
  by_cases h1 : x < y
  · rw [if_pos h1]
    go_enter Try.func84, Try.ntmps84
    go_wp2
    go_ret
    exact ⟨rfl, rfl⟩
  · rw [if_neg h1]
    by_cases h2 : y < x
    · rw [if_pos h2]
      go_enter Try.func84, Try.ntmps84
      go_wp2
      go_ret
      exact ⟨rfl, rfl⟩
    · rw [if_neg h2]
      go_enter Try.func84, Try.ntmps84
      go_wp2
      go_ret
      exact ⟨rfl, rfl⟩
def orV (x y : Int) : Int := if x = 0 then y else x
theorem or_is (b : Nat) (x y : Int) (w : World) (h0 : w.cell? ⟨b, 0, none⟩ = some (.int .i64 x)) (h1 : w.cell? ⟨b, 1, none⟩ = some (.int .i64 y)) :
    Calls Try.prog 82 #[.slice (some ⟨b, 0, none⟩) 2 2] w fun e w' => e = .returned (.int .i64 (orV x y)) ∧ w' = w := by
  have E : Aside0 (orV x y = if x = 0 then y else x) := ⟨rfl⟩
  go_enter Try.func82, Try.ntmps82
  go_wp2
  go_loopg [8] 3 (fun gg v8 wr => ∃ k : Nat, k ≤ 2 ∧ 3 - k ≤ gg ∧ v8 = .int .i64 k ∧ (0 < k → x = 0) ∧ (1 < k → y = 0) ∧ wr = w)
  case atStart => exact ⟨0, by omega, by omega, rfl, by omega, by omega, rfl⟩
  case round =>
    obtain ⟨k, hk, hgg, rfl, hx, hy, rfl⟩ := hrel
    have hc : k = 0 ∨ k = 1 ∨ k = 2 := by omega
    rcases hc with rfl | rfl | rfl
    · by_cases hx0 : x = 0
      · have ER : Aside0 (orV x y = y) := ⟨by rw [E.out, if_pos hx0]⟩
        have hz : (x != 0) = false := by simp [hx0]
        clear hx hy
        go_wp2
        go_roundg 2
        case measure => omega
        case rel => exact ⟨1, by omega, by omega, rfl, fun _ => hx0, by omega, rfl⟩
      · have ER : Aside0 (orV x y = x) := ⟨by rw [E.out, if_neg hx0]⟩
        have hz : (x != 0) = true := by simp [hx0]
        clear hx hy
        go_wp2
        go_ret
        rw [ER.out]
        exact ⟨rfl, rfl⟩
    · have hx0 := hx (by omega)
      have ER : Aside0 (orV x y = y) := ⟨by rw [E.out, if_pos hx0]⟩
      by_cases hy0 : y = 0
      · have hz : (y != 0) = false := by simp [hy0]
        clear hx hy
        go_wp2
        go_roundg 1
        case measure => omega
        case rel => exact ⟨2, by omega, by omega, rfl, fun _ => hx0, fun _ => hy0, rfl⟩
      · have hz : (y != 0) = true := by simp [hy0]
        clear hx hy
        go_wp2
        go_ret
        rw [ER.out]
        exact ⟨rfl, rfl⟩
    · have hx0 := hx (by omega)
      have hy0 := hy (by omega)
      have ER : Aside0 (orV x y = 0) := ⟨by rw [E.out, if_pos hx0, hy0]⟩
      clear hx hy
      go_wp2
      go_ret
      rw [ER.out]
      exact ⟨rfl, rfl⟩
/-- The order of scans: by their hours, then by their stations. -/
def cfS (x y : S47) : Int := orV (cmpI x.f1 y.f1) (cmpI x.f0 y.f0)
theorem cells4n {V W : World} {p0 p1 p2 p3 : Addr} {v0 v1 v2 v3 : Value} (q0 : V.cell? p0 = some v0) (q1 : V.cell? p1 = some v1) (q2 : V.cell? p2 = some v2) (q3 : V.cell? p3 = some v3) (hB : Below V.heap.size V W) : W.cell? p0 = some v0 ∧ W.cell? p1 = some v1 ∧ W.cell? p2 = some v2 ∧ W.cell? p3 = some v3 ∧ Below V.heap.size V W := ⟨pw_cell_below hB q0, pw_cell_below hB q1, pw_cell_below hB q2, pw_cell_below hB q3, hB⟩
set_option maxHeartbeats 8000000 in
set_option maxRecDepth 100000 in
theorem cfS_is : CmpS 81 #[] cfS := by
  intro w x y
  obtain ⟨a, b⟩ := x
  obtain ⟨c, d⟩ := y
  simp only [List.append_toArray, List.cons_append, List.nil_append]
  have E : Aside0 (cfS ⟨a, b⟩ ⟨c, d⟩ = orV (cmpI b d) (cmpI a c)) := ⟨rfl⟩
  go_enter Try.func81, Try.ntmps81
  go_wp2
  obtain ⟨V, hV⟩ : ∃ V, V = (w.alloc (.cells #[.int .i8 a, .int .i16 b] 47)).alloc (.cells #[.int .i8 c, .int .i16 d] 47) := ⟨_, rfl⟩
  have q0 : V.cell? ⟨w.heap.size, 0, none⟩ = some (.int .i8 a) := by rw [hV]; go_simp
  have q1 : V.cell? ⟨w.heap.size, 1, none⟩ = some (.int .i16 b) := by rw [hV]; go_simp
  have q2 : V.cell? ⟨w.heap.size + 1, 0, none⟩ = some (.int .i8 c) := by rw [hV]; go_simp
  have q3 : V.cell? ⟨w.heap.size + 1, 1, none⟩ = some (.int .i16 d) := by rw [hV]; go_simp
  have HBV : Aside0 (Below w.heap.size w V) := ⟨by rw [hV]; exact ((Below.refl _ _).alloc (Nat.le_refl _) _).alloc (by simp) _⟩
  have hbr : Below V.heap.size V V := Below.refl _ _
  rw [← hV]
  clear hV
  obtain ⟨c1, hc1⟩ : ∃ c1, cmpI b d = c1 := ⟨_, rfl⟩
  obtain ⟨c2, hc2⟩ : ∃ c2, cmpI a c = c2 := ⟨_, rfl⟩
  have K1 := fun W => cmp16_is b d W
  have K2 := fun W => cmp8_is a c W
  rw [hc1, hc2] at E
  simp only [hc1] at K1
  simp only [hc2] at K2
  clear hc1 hc2
  go_region_held_law (fun w' => w'.cell? ⟨w.heap.size, 0, none⟩ = some (.int .i8 a) ∧ w'.cell? ⟨w.heap.size, 1, none⟩ = some (.int .i16 b) ∧ w'.cell? ⟨w.heap.size + 1, 0, none⟩ = some (.int .i8 c) ∧ w'.cell? ⟨w.heap.size + 1, 1, none⟩ = some (.int .i16 d) ∧ Below V.heap.size V w')
    ((first | assumption | (refine cells4n q0 q1 q2 q3 ?_; first | exact hbr.drew | exact hbr.drew.alloc (Nat.le_refl _) _ | assumption)))
    (first
      | (go_at_call 83; refine (K1 _).mono ?_; rintro e wz ⟨rfl, rfl⟩)
      | (go_at_call 84; refine (K2 _).mono ?_; rintro e wz ⟨rfl, rfl⟩)
      | (go_at_call 82; refine (or_is _ c1 c2 _ (by go_simp) (by go_simp)).mono ?_; rintro e wz ⟨rfl, rfl⟩))
  all_goals
    go_wp2
    go_ret
    rw [E.out]
    exact ⟨rfl, HBV.out.trans ((hbr.drew.alloc (Nat.le_refl _) _).mono HBV.out.size)⟩
def sortedS (ss : List S47) : List S47 := outerS cfS (ss.length - 1) 1 ss
def sortRes (s t : Int) (l : List S71) (ss : List S47) : List S47 × Int := coded (scansCodeB s t l ss) [] (sortedS ss)
theorem cfS_enters : ∀ args w, (callFunc 81 args).run Try.prog w = .ok (.enter 81 args) w := enters_of Try.func81 (by kernel_rfl) rfl
set_option maxHeartbeats 8000000 in
set_option maxRecDepth 100000 in
theorem SortScans_any (s t : Int) (A : Option Addr) (c : Nat) (l : List S71) (A1 : Option Addr) (c1 : Nat) (ss : List S47) (w : World) (hr : Kd.C k71 w A l.length l) (hc : l.length ≤ c) (hok : okNet s t l = true)
    (hr1 : Kd.C k47 w A1 ss.length ss) (hc1 : ss.length ≤ c1) (hl1 : ss.length ≤ 1048576) (hsc : ∀ x ∈ ss, okScan x = true) :
    Calls Try.prog 44 #[.agg #[.int .i8 s, .int .i16 t, .slice A l.length c], .slice A1 ss.length c1] w fun e w' =>
      ∃ v : Value, e = .returned (.tuple #[v, .int .i64 (sortRes s t l ss).2]) ∧ Kd.R k47 47 w' w.heap.size (fun _ => True) v (sortRes s t l ss).1 ∧ Below w.heap.size w w' := by
  have HR := Aside0.mk hr
  have HR1 := Aside0.mk hr1
  have OK := Aside0.mk hok
  have HSC := Aside0.mk hsc
  clear hr hr1 hok hsc
  go_enter Try.func44, Try.ntmps44
  go_wp2_with fail
  refine (scansCode_is s t A c l A1 c1 ss _ (Kd.C_alloc HR.out _) hc OK.out (Kd.C_alloc HR1.out _) hc1 hl1 HSC.out).mono ?_
  rintro e w1 ⟨rfl, hb⟩
  have hb1 : Aside0 (Below w.heap.size w w1) := ⟨below_call hb⟩
  clear hb
  by_cases h0 : scansCodeB s t l ss = 0
  · obtain ⟨h1, h2, h3⟩ := scansCodeB_zero h0
    have ER : Aside0 (sortRes s t l ss = (sortedS ss, 0)) := ⟨by unfold sortRes coded; rw [if_pos h0]⟩
    rw [h0]
    clear h0 h1 h2
    go_wp2_with fail
    refine (clone_Scan A1 c1 ss w1 (Kd.C_below HR1.out hb1.out) hc1 (by omega)).mono ?_
    rintro e w2 ⟨v2, rfl, hO2, hb2⟩
    have HO2 := Aside0.mk hO2
    have HB2 := Aside0.mk hb2
    clear hO2 hb2
    by_cases hz : ss.length = 0
    · obtain ⟨A2, c2, rfl, hc2, _⟩ := Kd.R_reads HO2.out
      have hss : ss = [] := List.eq_nil_of_length_eq_zero hz
      subst hss
      simp only [List.length_nil] at *
      go_wp2_with fail
      refine (sortFuncS_none 81 #[] A2 c2 w2).mono ?_
      rintro e w3 ⟨rfl, rfl⟩
      go_wp2
      go_ret2
      rw [ER.out]
      exact ⟨_, rfl, Kd.R_lower HO2.out hb1.out.size, hb1.out.trans (HB2.out.mono hb1.out.size)⟩
    · obtain ⟨g, cap, rfl, hgb, hgl, _⟩ := Kd.R_form HO2.out (by omega)
      go_wp2_with fail
      refine (sortFuncS_is cfS 81 #[] w1.heap.size g cap ss ss.length w2 rfl cfS_enters cfS_is HO2.out HB2.out.size hgb hgl h3).mono ?_
      rintro e w3 ⟨rfl, hO3, hb3⟩
      have HO3 := Aside0.mk hO3
      have HB3 := Aside0.mk hb3
      clear hO3 hb3
      go_wp2
      go_ret2
      rw [ER.out]
      exact ⟨_, rfl, Kd.R_lower HO3.out hb1.out.size, hb1.out.trans ((HB2.out.trans HB3.out).mono hb1.out.size)⟩
  · have hne : (scansCodeB s t l ss != 0) = true := by simp [h0]
    have ER : Aside0 (sortRes s t l ss = ([], scansCodeB s t l ss)) := ⟨by unfold sortRes coded; rw [if_neg h0]⟩
    clear h0
    generalize hcd : scansCodeB s t l ss = cd at *
    go_wp2
    go_ret2
    rw [ER.out]
    exact ⟨_, rfl, Kd.R_nil _ _ _ _ _, hb1.out⟩
def impl_SortScans.f (a0_0 : Int) (a0_1 : Int) (l0_2 : List (S71)) (l1 : List (S47)) : Option ((List (S47)) × Int) :=
  if okNet a0_0 a0_1 l0_2 = true ∧ l1.length ≤ 1048576 ∧ l1.all okScan = true then some (sortRes a0_0 a0_1 l0_2 l1) else none
theorem impl_SortScans.calls (a0_0 : Int) (a0_1 : Int) (A0_2 : Option Addr) (c0_2 : Nat) (l0_2 : List (S71)) (A1 : Option Addr) (c1 : Nat) (l1 : List (S47)) (r1 : List (S47)) (r2 : Int) (w : World) (hr0_2 : Kd.C k71 w A0_2 l0_2.length l0_2) (hc0_2 : l0_2.length ≤ c0_2) (hr1 : Kd.C k47 w A1 l1.length l1) (hc1 : l1.length ≤ c1) (h : impl_SortScans.f a0_0 a0_1 l0_2 l1 = some (r1, r2)) :
    Calls Try.prog 44 #[.agg #[.int .i8 a0_0, .int .i16 a0_1, .slice A0_2 l0_2.length c0_2], .slice A1 l1.length c1] w fun e w' => ∃ v0_ : Value, e = .returned (.tuple #[v0_, .int .i64 r2]) ∧ Kd.R k47 47 w' w.heap.size (fun _ => True) v0_ r1 ∧ Below w.heap.size w w' := by
  unfold impl_SortScans.f at h
  split at h
  · injection h with h
    have h1 : (sortRes a0_0 a0_1 l0_2 l1).1 = r1 := by rw [h]
    have h2 : (sortRes a0_0 a0_1 l0_2 l1).2 = r2 := by rw [h]
    rw [← h1, ← h2]
    rename_i hh
    exact SortScans_any _ _ _ _ _ _ _ _ w hr0_2 hc0_2 hh.1 hr1 hc1 hh.2.1 (List.all_eq_true.1 hh.2.2)
  · cases h
end Go.Proofs.Ytjcokfdafingeaa.Q
