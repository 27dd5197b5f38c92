/- impl's RouteTimes. -/
import Derived.Test.YtkcfniilinokgaaHSRoute2
set_option linter.unusedVariables false
set_option linter.unusedSimpArgs false
namespace Go.Proofs.Ytkcfniilinokgaa.Q
open Go.RowKit Go.Proofs.YtkcfniilinokgaaW.PrintWords Go.Proofs.YtkcfniilinokgaaW.PrintLast Go.Proofs.YtkcfniilinokgaaW.PrintMore
open Go.Sort (grow)
attribute [local go_sem] max2_int min2_int max_two min_two
/-- A slice of one whole number, just made. -/
theorem one_reads' (w : World) (b : Nat) (hb : b = w.heap.size) (n : Int) : Kd.C (Kd.int .i64) (w.alloc (.cells #[.int .i64 n] 2)) (some ⟨b, 0, none⟩) [n].length [n] := by
  subst hb
  refine ⟨rfl, by simp, fun _ => ⟨_, rfl, fun j p hj => ⟨[.int .i64 p], rfl, rfl, fun i u hu => ?_⟩⟩⟩
  have hsz : (Kd.int .i64).sz = 1 := rfl
  rw [hsz]
  match j, i, hj, hu with
  | 0, 0, hj, hu => simp at hj hu; subst hj hu; go_simp
  | 0, i + 1, hj, hu => simp at hu
  | j + 1, _, hj, hu => simp at hj
theorem fin_impl (s : Int) (route : List Int) (hour : Int) : (allIn route 0 (s - 1) && allIn [hour] 0 300) = finB s route hour := by
  unfold finB
  rw [Bool.and_comm]
  congr 1
  unfold allIn
  simp
/-- The inner loop: the least and the most, -1 as long as no lane is found. -/
def InR (l : List S55) (k : Nat) (p q a b : Int) : Prop :=
  (a = -1 ∧ b = -1 ∧ nextR (l.take k) p q = (0, 0, false)) ∨ (1 ≤ a ∧ a ≤ 100 ∧ 0 ≤ b ∧ b ≤ 100 ∧ nextR (l.take k) p q = (a, b, true))
theorem InR.start (l : List S55) (p q : Int) : InR l 0 p q (-1) (-1) := Or.inl ⟨rfl, rfl, rfl⟩
theorem InR.bounds {l : List S55} {k : Nat} {p q a b : Int} (h : InR l k p q a b) : -1 ≤ a ∧ a ≤ 100 ∧ -1 ≤ b ∧ b ≤ 100 := by
  rcases h with ⟨h1, h2, _⟩ | ⟨h1, h2, h3, h4, _⟩ <;> omega
theorem InR.lower {l : List S55} {k : Nat} {p q a b : Int} (h : InR l k p q a b) (hk : k < l.length) (hs : smallL l) (he : (l.getD k z55).f0 = p ∧ (l.getD k z55).f1 = q) (hb : a < 0 ∨ (l.getD k z55).f2 < a) : InR l (k + 1) p q (l.getD k z55).f2 (max b (l.getD k z55).f3) := by
  have hm : l.getD k z55 ∈ l := by rw [List.getD_eq_getElem?_getD, List.getElem?_eq_getElem hk]; exact List.getElem_mem hk
  have hx := hs _ hm
  refine Or.inr ⟨hx.1, hx.2.1, by omega, ?_, ?_⟩
  · have := h.bounds
    omega
  · rw [next_take p q l k hk]
    rcases h with ⟨h1, h2, h3⟩ | ⟨h1, h2, h3, h4, h5⟩
    · rw [h3]
      unfold nextS
      rw [if_pos he, if_pos (Or.inl rfl), h2]
      simp only [Prod.mk.injEq, true_and, and_true]
      omega
    · rw [h5]
      unfold nextS
      rw [if_pos he, if_pos (Or.inr (hb.resolve_left (by omega)))]
theorem InR.keep {l : List S55} {k : Nat} {p q a b : Int} (h : InR l k p q a b) (hk : k < l.length) (hs : smallL l) (he : (l.getD k z55).f0 = p ∧ (l.getD k z55).f1 = q) (hb : ¬ (a < 0 ∨ (l.getD k z55).f2 < a)) : InR l (k + 1) p q a (max b (l.getD k z55).f3) := by
  have hm : l.getD k z55 ∈ l := by rw [List.getD_eq_getElem?_getD, List.getElem?_eq_getElem hk]; exact List.getElem_mem hk
  have hx := hs _ hm
  rcases h with ⟨h1, h2, h3⟩ | ⟨h1, h2, h3, h4, h5⟩
  · exact absurd (Or.inl (by omega)) hb
  · refine Or.inr ⟨h1, h2, by omega, by omega, ?_⟩
    rw [next_take p q l k hk, h5]
    unfold nextS
    rw [if_pos he, if_neg (fun h => hb (Or.inr (h.resolve_left (by simp))))]
theorem InR.other {l : List S55} {k : Nat} {p q a b : Int} (h : InR l k p q a b) (hk : k < l.length) (he : ¬ ((l.getD k z55).f0 = p ∧ (l.getD k z55).f1 = q)) : InR l (k + 1) p q a b := by
  unfold InR
  rw [next_take p q l k hk, show nextS p q (nextR (l.take k) p q) (l.getD k z55) = nextR (l.take k) p q by unfold nextS; rw [if_neg he]]
  exact h
theorem InR.none {l : List S55} {p q a b : Int} (h : InR l l.length p q a b) (ha : a < 0) : (nextR l p q).2.2 = false := by
  unfold InR at h
  rw [List.take_length] at h
  rcases h with ⟨h1, h2, h3⟩ | ⟨h1, h2, h3, h4, h5⟩
  · rw [h3]
  · omega
theorem InR.some {l : List S55} {p q a b : Int} (h : InR l l.length p q a b) (ha : ¬ a < 0) : nextR l p q = (a, b, true) := by
  unfold InR at h
  rw [List.take_length] at h
  rcases h with ⟨h1, h2, h3⟩ | ⟨h1, h2, h3, h4, h5⟩
  · omega
  · exact h5
theorem InR.pos {l : List S55} {k : Nat} {p q a b : Int} (h : InR l k p q a b) (ha : ¬ a < 0) : 0 ≤ b := by
  rcases h with ⟨h1, h2, h3⟩ | ⟨h1, h2, h3, h4, h5⟩ <;> omega
theorem R_none {α : Type} (d : Kd α) (e : Nat) (W : World) (base : Nat) (ok : Nat → Prop) : d.R e W base ok (.slice none 0 0) ([] : List α) := by
  exact ⟨fun k hk => by simp [Value.ownBlock] at hk, OwnRow.none_ _ _ _ _ _⟩
set_option maxRecDepth 100000 in
set_option maxHeartbeats 16000000 in
theorem iRoute_is (s t : Int) (A : Option Addr) (c : Nat) (l : List S55) (A1 : Option Addr) (c1 : Nat) (route : List Int) (hour : Int) (w : World) (hr : Kd.C k55 w A l.length l) (hc : l.length ≤ c) (hr1 : Kd.C (Kd.int .i64) w A1 route.length route) (hc1 : route.length ≤ c1) (hok : okNet s t l = true) :
    Calls Try.prog 8 #[.agg #[.int .i8 s, .int .i16 t, .slice A l.length c], .slice A1 route.length c1, .int .i64 hour] w fun e w' => ∃ v : Value, e = .returned (.tuple #[v, .int .i64 (routeR s t l route hour).2]) ∧ Kd.R k51 51 w' w.heap.size (fun _ => True) v (routeR s t l route hour).1 ∧ Below w.heap.size w w' := by
  have hbig : route.length ≤ 9223372036854775807 := hr1.2.1
  have HR := Aside0.mk hr
  have HR1 := Aside0.mk hr1
  have OK := Aside0.mk hok
  have HL := Aside0.mk (okNet_iff.1 hok).2
  clear hr hr1 hok
  go_enter Try.func8, Try.ntmps8
  go_wp2_with fail
  have B01 : Aside0 (Below w.heap.size w (w.alloc (.cells #[.int .i8 s, .int .i16 t, .slice A l.length c] 34))) := ⟨(Below.refl _ w).alloc (Nat.le_refl _) _⟩
  have hs1 : (w.alloc (.cells #[.int .i8 s, .int .i16 t, .slice A l.length c] 34)).heap.size = w.heap.size + 1 := by simp
  have n0 : (w.alloc (.cells #[.int .i8 s, .int .i16 t, .slice A l.length c] 34)).cell? ⟨w.heap.size, 0, none⟩ = some (.int .i8 s) := by go_simp
  have n1 : (w.alloc (.cells #[.int .i8 s, .int .i16 t, .slice A l.length c] 34)).cell? ⟨w.heap.size, 1, none⟩ = some (.int .i16 t) := by go_simp
  have n2 : (w.alloc (.cells #[.int .i8 s, .int .i16 t, .slice A l.length c] 34)).cell? ⟨w.heap.size, 2, none⟩ = some (.slice A l.length c) := by go_simp
  have N1 := Aside0.mk n1
  have N2 := Aside0.mk n2
  generalize w.alloc (.cells #[.int .i8 s, .int .i16 t, .slice A l.length c] 34) = w1 at *
  refine (netCode_is s t A c l A1 c1 route (some ⟨w.heap.size + 1, 0, none⟩) 1 [hour] _ (Kd.C_alloc (Kd.C_below HR.out B01.out) _) hc OK.out (Kd.C_alloc (Kd.C_below HR1.out B01.out) _) hc1 (one_reads' _ _ (by omega) hour) (by simp)).mono ?_
  rintro e w2 ⟨rfl, hb2⟩
  rw [fin_impl]
  have BX : Aside0 (Below (w.heap.size + 1) w1 w2) := ⟨((Below.refl _ w1).alloc (by omega) _).trans (hb2.mono (by simp; omega))⟩
  have BW : Aside0 (Below w.heap.size w w2) := ⟨B01.out.trans (BX.out.mono (by omega))⟩
  clear hb2 n0 n1 n2
  by_cases hC : codeB (netB s t l) (finB s route hour) = 0
  · obtain ⟨hnet, hfin⟩ := code_zero hC
    obtain ⟨t0, t1⟩ := net_stay hnet
    have hho : 0 ≤ hour ∧ hour ≤ 300 := by
      unfold finB at hfin
      rw [Bool.and_eq_true] at hfin
      exact inB_true.1 hfin.1
    have HSM := Aside0.mk (small_lanes hnet)
    have hl20 := netB_len hnet
    have HLong := Aside0.mk (routeR_long s t l route hour hC)
    have HTimes := Aside0.mk (routeR_times s t l route hour hC)
    rw [hC]
    clear hC hnet hfin
    by_cases h12 : 12 < route.length
    · have ER := Aside0.mk (HLong.out h12)
      have h12z : (12 : Int) < (route.length : Int) := by omega
      go_wp2
      go_ret2
      rw [ER.out]
      exact ⟨_, rfl, R_none _ _ _ _ _, BW.out⟩
    · have ER := Aside0.mk (HTimes.out h12)
      have h12z : ¬ (12 : Int) < (route.length : Int) := by omega
      go_wp2_with fail
      have hlen12 : route.length ≤ 12 := by omega
      have HAT0 := Aside0.mk (AtR.start (l := l) (stay := t) (hour := hour) (route := route))
      obtain ⟨RR, hRR⟩ : ∃ RR, timesR l t hour route = RR := ⟨_, rfl⟩
      rw [hRR] at HAT0 ER
      clear hRR HTimes HLong
      have hsz2 := BX.out.size
      have HO0 : Aside0 (Kd.R k51 51 (w2.alloc (.cells #[] 51)) (w.heap.size + 1) (fun _ => True) (.slice (some ⟨w2.heap.size, 0, none⟩) 0 0) ([] : List Two2)) := ⟨R_empty k51 51 _ (w.heap.size + 1) (fun _ => True) _ rfl (by omega) trivial⟩
      have BX0 : Aside0 (Below (w.heap.size + 1) w1 (w2.alloc (.cells #[] 51))) := ⟨BX.out.alloc (by omega) _⟩
      clear BW BX
      generalize w2.alloc (.cells #[] 51) = w3 at *
      go_loopg [9, 30] route.length (fun gg v9 v30 wr => ∃ (k : Nat) (lo hi : Int) (acc : List Two2), k ≤ route.length ∧ route.length - k ≤ gg ∧ 0 ≤ lo ∧ lo ≤ 300 ∧ 0 ≤ hi ∧ hi ≤ 300 + 150 * (k : Int) ∧ acc.length = k ∧ v30 = .int .i64 k ∧ Aside0 (Kd.R k51 51 wr (w.heap.size + 1) (fun _ => True) v9 acc) ∧ Aside0 (Below (w.heap.size + 1) w1 wr) ∧ Aside0 (AtR l t hour route k lo hi acc RR))
      case atStart => exact ⟨0, hour, hour, [], by omega, by omega, hho.1, hho.2, hho.1, by omega, rfl, rfl, HO0, BX0, HAT0⟩
      case round =>
        obtain ⟨k, lo, hi, acc, hk, hg, l0, l1, h0, h1, ha, rfl, HO, BX, HT⟩ := hrel
        have BW : Aside0 (Below w.heap.size w wr) := ⟨B01.out.trans (BX.out.mono (by omega))⟩
        have hszr : w.heap.size + 1 ≤ wr.heap.size := by have := BX.out.size; omega
        by_cases hlt : k < route.length
        · have hltz : (k : Int) < (route.length : Int) := by omega
          by_cases hk0 : k = 0
          · have hkz : (k : Int) = 0 := by omega
            have HT2 : Aside0 (AtR l t hour route (k + 1) hour hour (acc ++ [⟨hour, hour⟩]) RR) := ⟨by
              subst hk0
              exact HT.out.first hlt⟩
            clear hk0 HT
            go_wp2_with (at_builtin; refine Kd.R_append k51 (w0 := w1) (w.heap.size + 1) rfl (.tmp 35) (.tmp 39) 29 51 (.agg #[.int .i64 0, .int .i64 0]) 16 rfl Try.underlying29 infoA2 rfl (by decide) (by omega) _ acc (⟨hour, hour⟩ : Two2) [.int .i64 hour, .int .i64 hour] (fun _ => True) (fun _ => False) rfl rfl (k51_mkM _ _ _ _) (fun _ h => h.elim) (fun _ _ => trivial) HO.out BX.out hszr (by omega) ?_; intro v9 w9 hR9 hB9 hg9 hat9)
            go_roundg (route.length - (k + 1))
            case measure => omega
            case rel => exact ⟨k + 1, _, _, _, by omega, by omega, hho.1, hho.2, hho.1, by omega, by simp [ha], by go_num, ⟨hR9⟩, ⟨hB9⟩, HT2⟩
          · have hkz : ¬ (k : Int) = 0 := by omega
            have hk1 : k - 1 < route.length := by omega
            have HK0 := Aside0.mk hk0
            have HX0 := Aside0.mk (at_int64 HR1.out (k - 1) hk1)
            have HX1 := Aside0.mk (at_int64 HR1.out k hlt)
            have HST := Aside0.mk (fun hb => HT.out.stop (by omega) hlt hb)
            have HNX := Aside0.mk (fun hb => HT.out.next (by omega) hlt hb)
            generalize route.getD (k - 1) 0 = x0 at *
            generalize route.getD k 0 = x1 at *
            have hwk : IntKind.i64.wrap ((k : Int) - 1) = ((k - 1 : Nat) : Int) := by rw [i64_w]; unfold wrap64; omega
            have n2 := (BX.out.cell (p := ⟨w.heap.size, 2, none⟩) (Nat.lt_succ_self _)).trans N2.out
            clear hk0
            go_wp2_with fail
            clear hkz
            generalize Value.bool ((k : Int) == 0) = u34v
            obtain ⟨wo, hwo⟩ : ∃ wo : World, wo = wr := ⟨_, rfl⟩
            subst hwo
            go_loopg [11, 12, 44] l.length (fun gg v11 v12 v44 wr => ∃ (kk : Nat) (a b : Int), kk ≤ l.length ∧ l.length - kk ≤ gg ∧ v11 = .int .i64 a ∧ v12 = .int .i64 b ∧ v44 = .int .i64 kk ∧ Aside0 (InR l kk x0 x1 a b) ∧ Aside0 (Below wo.heap.size wo wr))
            case atStart => exact ⟨0, -1, -1, by omega, by omega, rfl, rfl, rfl, ⟨InR.start l x0 x1⟩, ⟨Below.refl _ _⟩⟩
            case round =>
              obtain ⟨kk, a, b, hkk, hgg, rfl, rfl, rfl, HI, BI⟩ := hrel
              by_cases hl2 : kk < l.length
              · have hl2z : (kk : Int) < (l.length : Int) := by omega
                have BWI : Aside0 (Below w.heap.size w wr) := ⟨BW.out.trans (BI.out.mono (by omega))⟩
                obtain ⟨ad, e, y0, y1, y2, y3⟩ := at_T55 (Kd.C_below HR.out BWI.out) (kk : Int) (by omega) hl2z
                have hmem : l.getD kk z55 ∈ l := by rw [List.getD_eq_getElem?_getD, List.getElem?_eq_getElem hl2]; exact List.getElem_mem hl2
                obtain ⟨a1, a2, a3, a4, a5, a6, a7, a8⟩ := okLane_iff.1 (HL.out _ hmem)
                have hib := HI.out.bounds
                have HLo := Aside0.mk (fun he hb => HI.out.lower hl2 HSM.out he hb)
                have HKe := Aside0.mk (fun he hb => HI.out.keep hl2 HSM.out he hb)
                have HOt := Aside0.mk (fun he => HI.out.other hl2 he)
                have hsx := HSM.out _ hmem
                simp only [rd_T55, Int.toNat_natCast] at y0 y1 y2 y3
                subst e
                generalize l.getD kk z55 = y at y0 y1 y2 y3 a1 a2 a3 a4 a5 a6 a7 a8 hsx HLo HKe HOt
                clear hmem HI
                obtain ⟨p, q, m, n⟩ := y
                simp only at a1 a2 a3 a4 a5 a6 a7 a8 y0 y1 y2 y3 hsx HLo HKe HOt
                obtain ⟨s1, s2, s3, s4⟩ := hsx
                obtain ⟨b1, b2, b3, b4⟩ := hib
                have ep : IntKind.i64.wrap p = p := by rw [i64_w]; unfold wrap64; omega
                have eq : IntKind.i64.wrap q = q := by rw [i64_w]; unfold wrap64; omega
                have em : IntKind.i64.wrap m = m := by rw [i64_w]; unfold wrap64; omega
                have en : IntKind.i64.wrap n = n := by rw [i64_w]; unfold wrap64; omega
                go_wp2_with fail
                have BI4 : Aside0 (Below wo.heap.size wo (wr.alloc (.cells #[.int .i8 p, .int .i8 q, .int .i16 m, .int .i16 n] 55))) := ⟨BI.out.alloc BI.out.size _⟩
                have BW4 : Aside0 (Below w.heap.size w (wr.alloc (.cells #[.int .i8 p, .int .i8 q, .int .i16 m, .int .i16 n] 55))) := ⟨BWI.out.alloc BWI.out.size _⟩
                have d0 : (wr.alloc (.cells #[.int .i8 p, .int .i8 q, .int .i16 m, .int .i16 n] 55)).cell? ⟨wr.heap.size, 0, none⟩ = some (.int .i8 p) := by go_simp
                have d1 : (wr.alloc (.cells #[.int .i8 p, .int .i8 q, .int .i16 m, .int .i16 n] 55)).cell? ⟨wr.heap.size, 1, none⟩ = some (.int .i8 q) := by go_simp
                have d2 : (wr.alloc (.cells #[.int .i8 p, .int .i8 q, .int .i16 m, .int .i16 n] 55)).cell? ⟨wr.heap.size, 2, none⟩ = some (.int .i16 m) := by go_simp
                have d3 : (wr.alloc (.cells #[.int .i8 p, .int .i8 q, .int .i16 m, .int .i16 n] 55)).cell? ⟨wr.heap.size, 3, none⟩ = some (.int .i16 n) := by go_simp
                clear y0 y1 y2 y3 BWI BI
                obtain ⟨g4, hg4⟩ : ∃ g4, wr.heap.size = g4 := ⟨_, rfl⟩
                rw [hg4] at d0 d1 d2 d3 ⊢
                generalize wr.alloc (.cells #[.int .i8 p, .int .i8 q, .int .i16 m, .int .i16 n] 55) = w4 at *
                obtain ⟨ad0, e0, hx0⟩ := HX0.out
                obtain ⟨ad1, e1, hx1⟩ := HX1.out
                subst e0
                obtain rfl : ad0 = ad1 := by simpa using e1
                have hx0 := pw_cell_below BW4.out hx0
                have hx1 := pw_cell_below BW4.out hx1
                clear e1 hg4
                by_cases hpf : p = x0
                · have hpf' : (p == x0) = true := by simp [hpf]
                  by_cases hqg : q = x1
                  · have hqg' : (q == x1) = true := by simp [hqg]
                    have HE := Aside0.mk (And.intro hpf hqg)
                    clear hpf hqg
                    go_quiet (fail)
                    have d2 := (World.cell?_drewN w4 nq ⟨g4, 2, none⟩).trans d2
                    have d3 := (World.cell?_drewN w4 nq ⟨g4, 3, none⟩).trans d3
                    have BI5 : Aside0 (Below wo.heap.size wo (w4.drewN nq)) := ⟨pw_below_drewN BI4.out nq⟩
                    clear BI4 BW4 hx0 hx1 hpf' hqg' d0 d1
                    generalize w4.drewN nq = w5 at *
                    by_cases ha0 : a < 0
                    · have HI2 := Aside0.mk (HLo.out HE.out (Or.inl ha0))
                      by_cases hbn : b < n
                      · have HI3 : Aside0 (InR l (kk + 1) x0 x1 m n) := ⟨by have := HI2.out; rwa [show max b n = n by omega] at this⟩
                        clear HI2
                        go_wp2
                        go_roundg (l.length - (kk + 1))
                        case measure => omega
                        case rel => exact ⟨kk + 1, _, _, by omega, by omega, rfl, rfl, by go_num, HI3, BI5⟩
                      · have HI3 : Aside0 (InR l (kk + 1) x0 x1 m b) := ⟨by have := HI2.out; rwa [show max b n = b by omega] at this⟩
                        clear HI2
                        go_wp2
                        go_roundg (l.length - (kk + 1))
                        case measure => omega
                        case rel => exact ⟨kk + 1, _, _, by omega, by omega, rfl, rfl, by go_num, HI3, BI5⟩
                    · by_cases hma : m < a
                      · have HI2 := Aside0.mk (HLo.out HE.out (Or.inr hma))
                        by_cases hbn : b < n
                        · have HI3 : Aside0 (InR l (kk + 1) x0 x1 m n) := ⟨by have := HI2.out; rwa [show max b n = n by omega] at this⟩
                          clear HI2
                          go_wp2
                          go_roundg (l.length - (kk + 1))
                          case measure => omega
                          case rel => exact ⟨kk + 1, _, _, by omega, by omega, rfl, rfl, by go_num, HI3, BI5⟩
                        · have HI3 : Aside0 (InR l (kk + 1) x0 x1 m b) := ⟨by have := HI2.out; rwa [show max b n = b by omega] at this⟩
                          clear HI2
                          go_wp2
                          go_roundg (l.length - (kk + 1))
                          case measure => omega
                          case rel => exact ⟨kk + 1, _, _, by omega, by omega, rfl, rfl, by go_num, HI3, BI5⟩
                      · have HI2 := Aside0.mk (HKe.out HE.out (by omega))
                        by_cases hbn : b < n
                        · have HI3 : Aside0 (InR l (kk + 1) x0 x1 a n) := ⟨by have := HI2.out; rwa [show max b n = n by omega] at this⟩
                          clear HI2
                          go_wp2
                          go_roundg (l.length - (kk + 1))
                          case measure => omega
                          case rel => exact ⟨kk + 1, _, _, by omega, by omega, rfl, rfl, by go_num, HI3, BI5⟩
                        · have HI3 : Aside0 (InR l (kk + 1) x0 x1 a b) := ⟨by have := HI2.out; rwa [show max b n = b by omega] at this⟩
                          clear HI2
                          go_wp2
                          go_roundg (l.length - (kk + 1))
                          case measure => omega
                          case rel => exact ⟨kk + 1, _, _, by omega, by omega, rfl, rfl, by go_num, HI3, BI5⟩
                  · have hqg' : (q == x1) = false := by simp [hqg]
                    have HI2 := Aside0.mk (HOt.out (fun h => hqg h.2))
                    clear hpf hqg
                    go_quiet (fail)
                    have BI5 : Aside0 (Below wo.heap.size wo (w4.drewN nq)) := ⟨pw_below_drewN BI4.out nq⟩
                    go_wp2
                    go_roundg (l.length - (kk + 1))
                    case measure => omega
                    case rel => exact ⟨kk + 1, _, _, by omega, by omega, rfl, rfl, by go_num, HI2, BI5⟩
                · have hpf' : (p == x0) = false := by simp [hpf]
                  have HI2 := Aside0.mk (HOt.out (fun h => hpf h.1))
                  clear hpf
                  go_quiet (fail)
                  have BI5 : Aside0 (Below wo.heap.size wo (w4.drewN nq)) := ⟨pw_below_drewN BI4.out nq⟩
                  go_wp2
                  go_roundg (l.length - (kk + 1))
                  case measure => omega
                  case rel => exact ⟨kk + 1, _, _, by omega, by omega, rfl, rfl, by go_num, HI2, BI5⟩
              · have hl2z : ¬ (kk : Int) < (l.length : Int) := by omega
                obtain rfl : kk = l.length := by omega
                have hib := HI.out.bounds
                obtain ⟨b1, b2, b3, b4⟩ := hib
                have HO4 := Aside0.mk (Kd.R_below HO.out BI.out)
                have BX4 : Aside0 (Below (w.heap.size + 1) w1 wr) := ⟨BX.out.trans (BI.out.mono (by omega))⟩
                have hsz4 : w.heap.size + 1 ≤ wr.heap.size := by have := BX4.out.size; omega
                obtain ⟨A3, c3, e3, hc3, hC3⟩ := Kd.R_reads HO4.out
                have hLast : Aside0 (acc.getD (k - 1) z51 = ⟨lo, hi⟩) := ⟨(HT.out.2.resolve_left (fun h => HK0.out h.1)).2.1⟩
                have hk1z : ((k - 1 : Nat) : Int) < (acc.length : Int) := by have := HK0.out; omega
                obtain ⟨ad3, e4, z0, z1⟩ := at_T51 hC3 ((k - 1 : Nat) : Int) (by omega) hk1z
                simp only [rd_T51, Int.toNat_natCast] at z0 z1
                rw [hLast.out] at z0 z1
                simp only at z0 z1
                subst e4
                subst e3
                have n1 := (BX4.out.cell (p := ⟨w.heap.size, 1, none⟩) (Nat.lt_succ_self _)).trans N1.out
                have hw1 : IntKind.i64.wrap (lo + a) = lo + a := by rw [i64_w]; unfold wrap64; omega
                have hw2 : IntKind.i64.wrap t = t := by rw [i64_w]; unfold wrap64; omega
                have hw3 : IntKind.i64.wrap (hi + t) = hi + t := by rw [i64_w]; unfold wrap64; omega
                have hw4 : IntKind.i64.wrap (hi + t + b) = hi + t + b := by rw [i64_w]; unfold wrap64; omega
                have hlt0 : w.heap.size < wr.heap.size := by omega
                have hlt3 := block_lt_of_cell z0
                have hkk1 : k - 1 < k := by have := HK0.out; omega
                clear hC3
                go_wp2_with fail
                go_cut [15] from 85 to 105 (fun v15 wx => v15 = .pointer (some ⟨wr.heap.size, 0, none⟩) ∧ wx.cell? ⟨wr.heap.size, 0, none⟩ = some (.int .i64 (lo + a)) ∧ wx.cell? ⟨wr.heap.size, 1, none⟩ = some (.int .i64 (hi + t + b)) ∧ Aside0 (Below wr.heap.size wr wx))
                case first =>
                  go_region
                  all_goals
                    go_wp2_with fail
                    go_meet
                    exact ⟨rfl, by go_simp, by go_simp, ⟨((Below.refl _ wr).alloc (Nat.le_refl _) _).drew⟩⟩
                case rest =>
                  obtain ⟨rfl, o0, o1, BI5⟩ := hcut
                  have HO6 : Aside0 (Kd.R k51 51 wc (w.heap.size + 1) (fun _ => True) (.slice (some ad3) k c3) acc) := ⟨by have := Kd.R_below HO4.out BI5.out; rwa [ha] at this⟩
                  have BX6 : Aside0 (Below (w.heap.size + 1) w1 wc) := ⟨BX4.out.trans (BI5.out.mono hsz4)⟩
                  have hsz6 : w.heap.size + 1 ≤ wc.heap.size := by have := BX6.out.size; omega
                  have BW6 : Aside0 (Below w.heap.size w wc) := ⟨B01.out.trans (BX6.out.mono (by omega))⟩
                  by_cases ha0 : a < 0
                  · have ER2 := Aside0.mk (HST.out (Or.inl (HI.out.none ha0)))
                    go_wp2_with fail
                    go_ret2
                    rw [ER.out, ER2.out]
                    exact ⟨_, rfl, R_none _ _ _ _ _, BW6.out⟩
                  · have HNS := HI.out.some ha0
                    have hb0 := HI.out.pos ha0
                    by_cases h300 : 300 < lo + a
                    · have ER2 := Aside0.mk (HST.out (Or.inr (by rw [HNS]; exact h300)))
                      clear HNS
                      go_wp2_with fail
                      go_ret2
                      rw [ER.out, ER2.out]
                      exact ⟨_, rfl, R_none _ _ _ _ _, BW6.out⟩
                    · have HT2 : Aside0 (AtR l t hour route (k + 1) (lo + a) (hi + t + b) (acc ++ [⟨lo + a, hi + t + b⟩]) RR) := ⟨by
                        have := HNX.out (by rw [HNS]; simp; omega)
                        rw [HNS, show hi + (b + t) = hi + t + b by omega] at this
                        exact this⟩
                      clear HNS
                      go_wp2_with (at_builtin; refine Kd.R_append k51 (w0 := w1) (w.heap.size + 1) rfl (.tmp 113) (.tmp 115) 29 51 (.agg #[.int .i64 0, .int .i64 0]) 16 rfl Try.underlying29 infoA2 rfl (by decide) (by omega) _ acc (⟨lo + a, hi + t + b⟩ : Two2) [.int .i64 (lo + a), .int .i64 (hi + t + b)] (fun _ => True) (fun _ => False) rfl rfl (k51_mkM _ _ _ _) (fun _ h => h.elim) (fun _ _ => trivial) HO6.out BX6.out hsz6 (by omega) ?_; intro v9 w9 hR9 hB9 hg9 hat9)
                      go_roundg (route.length - (k + 1))
                      case measure => omega
                      case rel => exact ⟨k + 1, _, _, _, by omega, by omega, by omega, by omega, by omega, by omega, by simp [ha], by go_num, ⟨hR9⟩, ⟨hB9⟩, HT2⟩
        · have hltz : ¬ (k : Int) < (route.length : Int) := by omega
          have ER2 := Aside0.mk (HT.out.done (by omega))
          go_wp2_with fail
          go_ret2
          rw [ER.out, ER2.out]
          exact ⟨_, rfl, Kd.R_lower HO.out (Nat.le_succ _), BW.out⟩
  · have ER := Aside0.mk (routeR_code s t l route hour hC)
    generalize codeB (netB s t l) (finB s route hour) = C at *
    have hnb : (C != 0) = true := by simp [hC]
    clear hC
    go_wp2
    go_ret2
    rw [ER.out]
    exact ⟨_, rfl, R_none _ _ _ _ _, BW.out⟩
def impl_RouteTimes.f (a0_0 : Int) (a0_1 : Int) (l0_2 : List (S55)) (l1 : List Int) (a2 : Int) : Option ((List (S51)) × Int) := if okNet a0_0 a0_1 l0_2 = true then some (routeR a0_0 a0_1 l0_2 l1 a2) else none
theorem impl_RouteTimes.calls (a0_0 : Int) (a0_1 : Int) (A0_2 : Option Addr) (c0_2 : Nat) (l0_2 : List (S55)) (A1 : Option Addr) (c1 : Nat) (l1 : List Int) (a2 : Int) (r1 : List (S51)) (r2 : Int) (w : World) (hr0_2 : Kd.C k55 w A0_2 l0_2.length l0_2) (hc0_2 : l0_2.length ≤ c0_2) (hr1 : Kd.C (Kd.int .i64) w A1 l1.length l1) (hc1 : l1.length ≤ c1) (h : impl_RouteTimes.f a0_0 a0_1 l0_2 l1 a2 = some (r1, r2)) :
    Calls Try.prog 8 #[.agg #[.int .i8 a0_0, .int .i16 a0_1, .slice A0_2 l0_2.length c0_2], .slice A1 l1.length c1, .int .i64 a2] w fun e w' => ∃ v0_ : Value, e = .returned (.tuple #[v0_, .int .i64 r2]) ∧ Kd.R k51 51 w' w.heap.size (fun _ => True) v0_ r1 ∧ Below w.heap.size w w' := by
  unfold impl_RouteTimes.f at h
  split at h
  · rename_i hok
    injection h with h
    have := iRoute_is a0_0 a0_1 A0_2 c0_2 l0_2 A1 c1 l1 a2 w hr0_2 hc0_2 hr1 hc1 hok
    rw [h] at this
    exact this
  · exact absurd h (by simp)
end Go.Proofs.Ytkcfniilinokgaa.Q
