/- spec's RouteTimes. -/
import Derived.Test.YtkcfniilinokgaaHSRoute
import Derived.Lib.QuietBelow
set_option linter.unusedVariables false
set_option linter.unusedSimpArgs false
namespace Go.Proofs.Ytkcfniilinokgaa.Q
open Go.RowKit Go.Proofs.YtkcfniilinokgaaW.PrintWords Go.Proofs.YtkcfniilinokgaaW.PrintLast Go.Proofs.YtkcfniilinokgaaW.PrintMore
open Go.Sort (grow)
def finB (s : Int) (route : List Int) (hour : Int) : Bool := inB hour 0 300 && allIn route 0 (s - 1)
theorem fin_start (s : Int) (route : List Int) (hour : Int) : (inB hour 0 300 && (route.drop 0).all fun n => inB n 0 (s - 1)) = finB s route hour := by rw [List.drop_zero]; rfl
theorem routeR_code (s t : Int) (l : List S55) (route : List Int) (hour : Int) (h : ¬ codeB (netB s t l) (finB s route hour) = 0) : routeR s t l route hour = ([], codeB (netB s t l) (finB s route hour)) := by
  unfold routeR
  rw [if_neg (show ¬ routeC s t l route hour = 0 from h)]
  rfl
theorem routeR_long (s t : Int) (l : List S55) (route : List Int) (hour : Int) (h : codeB (netB s t l) (finB s route hour) = 0) (hl : 12 < route.length) : routeR s t l route hour = ([], 3) := by
  unfold routeR
  rw [if_pos (show routeC s t l route hour = 0 from h), if_pos hl]
theorem routeR_times (s t : Int) (l : List S55) (route : List Int) (hour : Int) (h : codeB (netB s t l) (finB s route hour) = 0) (hl : ¬ 12 < route.length) : routeR s t l route hour = timesR l t hour route := by
  unfold routeR
  rw [if_pos (show routeC s t l route hour = 0 from h), if_neg hl]
theorem code_zero {n f : Bool} (h : codeB n f = 0) : n = true ∧ f = true := by
  unfold codeB at h
  cases n <;> cases f <;> simp at h ⊢
theorem net_stay {s t : Int} {l : List S55} (h : netB s t l = true) : 0 ≤ t ∧ t ≤ 40 := by
  unfold netB at h
  rw [Bool.and_eq_true, Bool.and_eq_true] at h
  exact inB_true.1 h.2.1
set_option maxHeartbeats 16000000 in
theorem sRoute_is (s t : Int) (A : Option Addr) (c : Nat) (l : List S55) (A1 : Option Addr) (c1 : Nat) (route : List Int) (hour : Int) (w : World) (hr : Kd.C k55 w A l.length l) (hc : l.length ≤ c) (hr1 : Kd.C (Kd.int .i64) w A1 route.length route) (hc1 : route.length ≤ c1) (hok : okNet s t l = true) :
    Calls Try.prog 5 #[.agg #[.int .i8 s, .int .i16 t, .slice A l.length c], .slice A1 route.length c1, .int .i64 hour] w fun e w' => ∃ v : Value, e = .returned (.tuple #[v, .int .i64 (routeR s t l route hour).2]) ∧ Kd.R k51 51 w' w.heap.size (fun _ => True) v (routeR s t l route hour).1 ∧ Below w.heap.size w w' := by
  have hbig : route.length ≤ 9223372036854775807 := hr1.2.1
  have HR1 := Aside0.mk hr1
  have OK := Aside0.mk hok
  have HN0 := Aside0.mk (NetAt.new (s := s) (t := t) hr hc 34)
  clear hr hr1 hok
  go_enter Try.func5, Try.ntmps5
  go_wp2_with fail
  have B01 : Aside0 (Below w.heap.size w (w.alloc (.cells #[.int .i8 s, .int .i16 t, .slice A l.length c] 34))) := ⟨(Below.refl _ w).alloc (Nat.le_refl _) _⟩
  have HN1 := HN0
  have hs1 : (w.alloc (.cells #[.int .i8 s, .int .i16 t, .slice A l.length c] 34)).heap.size = w.heap.size + 1 := by simp
  generalize w.alloc (.cells #[.int .i8 s, .int .i16 t, .slice A l.length c] 34) = w1 at *
  have HOa : Aside0 (Kd.R k51 51 (w1.alloc (.cells #[] 51)) (w.heap.size + 1) (fun _ => True) (.slice (some ⟨w.heap.size + 1, 0, none⟩) 0 0) ([] : List Two2)) := ⟨R_empty k51 51 _ (w.heap.size + 1) (fun _ => True) _ (by omega) (by omega) trivial⟩
  have B1a : Aside0 (Below (w.heap.size + 1) w1 (w1.alloc (.cells #[] 51))) := ⟨(Below.refl _ w1).alloc (by omega) _⟩
  have BWa : Aside0 (Below w.heap.size w (w1.alloc (.cells #[] 51))) := ⟨B01.out.trans (B1a.out.mono (by omega))⟩
  have HNa := Aside0.mk (HN0.out.alloc (.cells #[] 51))
  generalize w1.alloc (.cells #[] 51) = W at *
  refine (l07Hour_is hour _).mono ?_
  rintro e w' ⟨rfl, rfl⟩
  go_wp2_with fail
  go_loopg [9, 10] route.length (fun gg v9 v10 wr => ∃ (kk : Nat) (fine : Bool), kk ≤ route.length ∧ route.length - kk ≤ gg ∧ v9 = .bool fine ∧ v10 = .int .i64 kk ∧ Aside0 (Below W.heap.size W wr) ∧ Aside0 ((fine && (route.drop kk).all fun n => inB n 0 (s - 1)) = finB s route hour))
  case atStart => exact ⟨0, inB hour 0 300, Nat.zero_le _, by omega, rfl, rfl, ⟨Below.refl _ _⟩, ⟨fin_start s route hour⟩⟩
  case round =>
    obtain ⟨kk, fine, hkk, hg, rfl, rfl, BW, HA⟩ := hrel
    have BWW : Aside0 (Below w.heap.size w wr) := ⟨BWa.out.trans (BW.out.mono BWa.out.size)⟩
    by_cases hlt : kk < route.length
    · have hltz : (kk : Int) < (route.length : Int) := by omega
      obtain ⟨ad, e, hx0⟩ := at_int64 (Kd.C_below HR1.out BWW.out) kk hlt
      have e1 := drop_cons_of route 0 kk hlt
      subst e
      generalize hy : route.getD kk 0 = y at hx0 e1
      have HD : Aside0 ((fine && (inB y 0 (s - 1) && (route.drop (kk + 1)).all fun n => inB n 0 (s - 1))) = finB s route hour) := ⟨by rw [← HA.out, e1, List.all_cons]⟩
      clear e1 HA hy
      cases fine with
      | false =>
        have HD2 : Aside0 ((false && (route.drop (kk + 1)).all fun n => inB n 0 (s - 1)) = finB s route hour) := ⟨by rw [← HD.out]; simp⟩
        go_wp2
        go_roundg (route.length - (kk + 1))
        case measure => omega
        case rel => exact ⟨kk + 1, false, by omega, by omega, rfl, by go_num, BW, HD2⟩
      | true =>
        go_wp2_with fail
        refine (l07Station_at (HNa.out.below BW.out) OK.out y).mono ?_
        rintro e w2 ⟨rfl, rfl⟩
        have HD2 : Aside0 ((inB y 0 (s - 1) && (route.drop (kk + 1)).all fun n => inB n 0 (s - 1)) = finB s route hour) := ⟨by rw [← HD.out]; simp⟩
        generalize inB y 0 (s - 1) = fn at *
        go_wp2
        go_roundg (route.length - (kk + 1))
        case measure => omega
        case rel => exact ⟨kk + 1, fn, by omega, by omega, rfl, by go_num, BW, HD2⟩
    · have hltz : ¬ (kk : Int) < (route.length : Int) := by omega
      have HF : fine = finB s route hour := by rw [← HA.out, List.drop_of_length_le (by omega)]; simp
      subst HF
      go_wp2_with fail
      refine (l07Asked_at (HNa.out.below BW.out) OK.out (finB s route hour)).mono ?_
      rintro e w2 ⟨rfl, hb2⟩
      have BW2 : Aside0 (Below W.heap.size W w2) := ⟨BW.out.trans (hb2.mono BW.out.size)⟩
      have BWW2 : Aside0 (Below w.heap.size w w2) := ⟨BWa.out.trans (BW2.out.mono BWa.out.size)⟩
      have HO2 := Aside0.mk (Kd.R_below HOa.out BW2.out)
      have HN2 := Aside0.mk (HNa.out.below BW2.out)
      have HX2 : Aside0 (Below (w.heap.size + 1) w1 w2) := ⟨B1a.out.trans (BW2.out.mono (by have := B1a.out.size; omega))⟩
      clear hb2 HOa HNa BW BWW BW2 HA
      by_cases hC : codeB (netB s t l) (finB s route hour) = 0
      · obtain ⟨hnet, hfin⟩ := code_zero hC
        obtain ⟨t0, t1⟩ := net_stay hnet
        have hho : 0 ≤ hour ∧ hour ≤ 300 := by
          unfold finB at hfin
          rw [Bool.and_eq_true] at hfin
          exact inB_true.1 hfin.1
        have HSM := Aside0.mk (small_lanes hnet)
        have hl20 := netB_len hnet
        have HLong := Aside0.mk (routeR_long s t l route hour hC)
        have HTimes := Aside0.mk (routeR_times s t l route hour hC)
        rw [hC]
        clear hC hnet hfin
        by_cases h12 : 12 < route.length
        · have ER := Aside0.mk (HLong.out h12)
          have h12z : (12 : Int) < (route.length : Int) := by omega
          go_wp2
          go_ret2
          rw [ER.out]
          exact ⟨_, rfl, Kd.R_lower HO2.out (Nat.le_succ _), BWW2.out⟩
        · have ER := Aside0.mk (HTimes.out h12)
          have h12z : ¬ (12 : Int) < (route.length : Int) := by omega
          go_wp2_with fail
          have hlen12 : route.length ≤ 12 := by omega
          have HAT0 := Aside0.mk (AtR.start (l := l) (stay := t) (hour := hour) (route := route))
          obtain ⟨RR, hRR⟩ : ∃ RR, timesR l t hour route = RR := ⟨_, rfl⟩
          rw [hRR] at HAT0 ER
          clear hRR HTimes HLong
          go_loopg [8, 12, 13, 14] route.length (fun gg v8 v12 v13 v14 wr => ∃ (k : Nat) (lo hi : Int) (acc : List Two2), k ≤ route.length ∧ route.length - k ≤ gg ∧ 0 ≤ lo ∧ lo ≤ 300 ∧ 0 ≤ hi ∧ hi ≤ 300 + 150 * (k : Int) ∧ acc.length = k ∧ v12 = .int .i64 lo ∧ v13 = .int .i64 hi ∧ v14 = .int .i64 k ∧ Aside0 (Kd.R k51 51 wr (w.heap.size + 1) (fun _ => True) v8 acc) ∧ Aside0 (Below (w.heap.size + 1) w1 wr) ∧ Aside0 (AtR l t hour route k lo hi acc RR))
          case atStart => exact ⟨0, hour, hour, [], by omega, by omega, hho.1, hho.2, hho.1, by omega, rfl, rfl, rfl, rfl, HO2, HX2, HAT0⟩
          case round =>
            obtain ⟨k, lo, hi, acc, hk, hg, l0, l1, h0, h1, ha, rfl, rfl, rfl, HO, BX, HT⟩ := hrel
            have BW : Aside0 (Below w.heap.size w wr) := ⟨B01.out.trans (BX.out.mono (by omega))⟩
            have hszr : w.heap.size + 1 ≤ wr.heap.size := by have := BX.out.size; omega
            by_cases hlt : k < route.length
            · have hltz : (k : Int) < (route.length : Int) := by omega
              by_cases hk0 : k = 0
              · have hkz : ¬ (0 : Int) < (k : Int) := by omega
                have HT2 : Aside0 (AtR l t hour route (k + 1) lo hi (acc ++ [⟨lo, hi⟩]) RR) := ⟨by
                  obtain ⟨_, e1, e2, _⟩ := HT.out.2.resolve_right (fun h => by omega)
                  subst hk0
                  have := HT.out.first hlt
                  rw [e1, e2]
                  exact this⟩
                clear hk0 HT
                go_wp2_with (at_builtin; refine Kd.R_append k51 (w0 := w1) (w.heap.size + 1) rfl (.tmp 86) (.tmp 90) 29 51 (.agg #[.int .i64 0, .int .i64 0]) 16 rfl Try.underlying29 infoA2 rfl (by decide) (by omega) _ acc (⟨lo, hi⟩ : Two2) [.int .i64 lo, .int .i64 hi] (fun _ => True) (fun _ => False) rfl rfl (k51_mkM _ _ _ _) (fun _ h => h.elim) (fun _ _ => trivial) HO.out BX.out hszr (by omega) ?_; intro v9 w9 hR9 hB9 hg9 hat9)
                go_roundg (route.length - (k + 1))
                case measure => omega
                case rel => exact ⟨k + 1, _, _, _, by omega, by omega, l0, l1, h0, by omega, by simp [ha], rfl, rfl, by go_num, ⟨hR9⟩, ⟨hB9⟩, HT2⟩
              · have hkz : (0 : Int) < (k : Int) := by omega
                have hk1 : k - 1 < route.length := by omega
                obtain ⟨ad, e, hx0⟩ := at_int64 (Kd.C_below HR1.out BW.out) (k - 1) hk1
                obtain ⟨ad2, e2, hx1⟩ := at_int64 (Kd.C_below HR1.out BW.out) k hlt
                subst e
                obtain rfl : ad = ad2 := by simpa using e2
                have hHNr := HN1.out.below (BX.out.mono (by omega))
                have hns := next_small (route.getD (k - 1) 0) (route.getD k 0) HSM.out l (fun _ h => h)
                have HST := Aside0.mk (fun hb => HT.out.stop (by omega) hlt hb)
                have HNX := Aside0.mk (fun hb => HT.out.next (by omega) hlt hb)
                generalize route.getD (k - 1) 0 = x0 at *
                generalize route.getD k 0 = x1 at *
                have hN := fun d os => l07Next_at (hHNr.below (below_regrown wr d os)) OK.out HSM.out hl20 x0 x1
                obtain ⟨N, hNe⟩ : ∃ N, nextR l x0 x1 = N := ⟨_, rfl⟩
                simp only [hNe] at hns HST HNX hN
                clear hNe HT
                obtain ⟨le, mo, fd⟩ := N
                simp only at hns HST HNX hN
                obtain ⟨n1, n2, n3, n4⟩ := hns
                have cN : ∀ d os, Calls Try.prog 20 #[.pointer (some ⟨w.heap.size, 0, none⟩), .int .i64 x0, .int .i64 x1] (grow (redrawn wr d) os) fun e w'' => e = .returned (.tuple #[.int .i64 le, .int .i64 mo, .bool fd]) ∧ ∃ p : Regrown, w'' = grow (redrawn wr p.d) p.os := fun d os => Calls.regrown_of (hN d os)
                have hx0' := cell_regrown hx0
                have hx1' := cell_regrown hx1
                have hwk : IntKind.i64.wrap ((k : Int) - 1) = ((k - 1 : Nat) : Int) := by rw [i64_w]; unfold wrap64; omega
                clear hx0 hx1 hN e2 hk0
                go_wp2_with fail
                refine wp_region_quiet_below (by kernel_rfl) (by kernel_rfl) ?_
                repeat (quiet_step ((go_at_call 20; with_reducible exact cN _ _)))
                refine wpQuiet_nil ?_
                intro _ hw'
                obtain ⟨⟨dq, osq⟩, hw''⟩ := hw'
                subst hw''
                have BX5 : Aside0 (Below (w.heap.size + 1) w1 (grow (redrawn wr dq) osq)) := ⟨BX.out.trans ((below_regrown wr dq osq).mono hszr)⟩
                have HO5 := Aside0.mk (Kd.R_below HO.out (below_regrown wr dq osq))
                obtain ⟨_, _, _, _, _, htc, _⟩ := (hHNr.below (below_regrown wr dq osq)).out
                generalize grow (redrawn wr dq) osq = w5 at *
                have hsz5 : w.heap.size + 1 ≤ w5.heap.size := by have := BX5.out.size; omega
                have hs1' : IntKind.i64.wrap (lo + le) = lo + le := by rw [i64_w]; unfold wrap64; omega
                have hs2 : IntKind.i64.wrap t = t := by rw [i64_w]; unfold wrap64; omega
                have hs3 : IntKind.i64.wrap (mo + t) = mo + t := by rw [i64_w]; unfold wrap64; omega
                have hs4 : IntKind.i64.wrap (hi + (mo + t)) = hi + (mo + t) := by rw [i64_w]; unfold wrap64; omega
                clear cN hx0' hx1' hHNr HO BX
                cases fd with
                | false =>
                  have ER2 := Aside0.mk (HST.out (Or.inl rfl))
                  go_wp2_with fail
                  go_ret2
                  rw [ER.out, ER2.out]
                  exact ⟨_, rfl, R_empty k51 51 _ w.heap.size (fun _ => True) _ rfl (by omega) trivial, (B01.out.trans (BX5.out.mono (by omega))).alloc (by omega) _⟩
                | true =>
                  by_cases hb : (300 : Int) < lo + le
                  · have ER2 := Aside0.mk (HST.out (Or.inr hb))
                    go_wp2_with fail
                    go_ret2
                    rw [ER.out, ER2.out]
                    exact ⟨_, rfl, R_empty k51 51 _ w.heap.size (fun _ => True) _ rfl (by omega) trivial, (B01.out.trans (BX5.out.mono (by omega))).alloc (by omega) _⟩
                  · have HT2 := Aside0.mk (HNX.out (by simp; omega))
                    go_wp2_with (at_builtin; refine Kd.R_append k51 (w0 := w1) (w.heap.size + 1) rfl (.tmp 86) (.tmp 90) 29 51 (.agg #[.int .i64 0, .int .i64 0]) 16 rfl Try.underlying29 infoA2 rfl (by decide) (by omega) _ acc (⟨lo + le, hi + (mo + t)⟩ : Two2) [.int .i64 (lo + le), .int .i64 (hi + (mo + t))] (fun _ => True) (fun _ => False) rfl rfl (k51_mkM _ _ _ _) (fun _ h => h.elim) (fun _ _ => trivial) HO5.out BX5.out hsz5 (by omega) ?_; intro v9 w9 hR9 hB9 hg9 hat9)
                    go_roundg (route.length - (k + 1))
                    case measure => omega
                    case rel => exact ⟨k + 1, _, _, _, by omega, by omega, by omega, by omega, by omega, by omega, by simp [ha], rfl, rfl, by go_num, ⟨hR9⟩, ⟨hB9⟩, HT2⟩
            · have hltz : ¬ (k : Int) < (route.length : Int) := by omega
              have ER2 := Aside0.mk (HT.out.done (by omega))
              go_wp2_with fail
              go_ret2
              rw [ER.out, ER2.out]
              exact ⟨_, rfl, Kd.R_lower HO.out (Nat.le_succ _), BW.out⟩
      · have ER := Aside0.mk (routeR_code s t l route hour hC)
        generalize codeB (netB s t l) (finB s route hour) = C at *
        have hnb : (C != 0) = true := by simp [hC]
        clear hC
        go_wp2
        go_ret2
        rw [ER.out]
        exact ⟨_, rfl, Kd.R_lower HO2.out (Nat.le_succ _), BWW2.out⟩
def spec_RouteTimes.f (a0_0 : Int) (a0_1 : Int) (l0_2 : List (S55)) (l1 : List Int) (a2 : Int) : Option ((List (S51)) × Int) := if okNet a0_0 a0_1 l0_2 = true then some (routeR a0_0 a0_1 l0_2 l1 a2) else none
theorem spec_RouteTimes.calls (a0_0 : Int) (a0_1 : Int) (A0_2 : Option Addr) (c0_2 : Nat) (l0_2 : List (S55)) (A1 : Option Addr) (c1 : Nat) (l1 : List Int) (a2 : Int) (r1 : List (S51)) (r2 : Int) (w : World) (hr0_2 : Kd.C k55 w A0_2 l0_2.length l0_2) (hc0_2 : l0_2.length ≤ c0_2) (hr1 : Kd.C (Kd.int .i64) w A1 l1.length l1) (hc1 : l1.length ≤ c1) (h : spec_RouteTimes.f a0_0 a0_1 l0_2 l1 a2 = some (r1, r2)) :
    Calls Try.prog 5 #[.agg #[.int .i8 a0_0, .int .i16 a0_1, .slice A0_2 l0_2.length c0_2], .slice A1 l1.length c1, .int .i64 a2] w fun e w' => ∃ v0_ : Value, e = .returned (.tuple #[v0_, .int .i64 r2]) ∧ Kd.R k51 51 w' w.heap.size (fun _ => True) v0_ r1 ∧ Below w.heap.size w w' := by
  unfold spec_RouteTimes.f at h
  split at h
  · rename_i hok
    injection h with h
    have := sRoute_is a0_0 a0_1 A0_2 c0_2 l0_2 A1 c1 l1 a2 w hr0_2 hc0_2 hr1 hc1 hok
    rw [h] at this
    exact this
  · exact absurd h (by simp)
end Go.Proofs.Ytkcfniilinokgaa.Q
