/- impl's matches: what it returns is runI. -/
import Derived.Test.YtlefddghiiigeaaHMat0
import Derived.Test.YtlefddghiiigeaaRows2
set_option linter.unusedVariables false
set_option linter.unusedSimpArgs false
namespace Go.Proofs.Ytlefddghiiigeaa.Q
open Go.RowKit Go.Proofs.YtlefddghiiigeaaW.PrintWords Go.Proofs.YtlefddghiiigeaaW.PrintLast Go.Proofs.YtlefddghiiigeaaW.PrintMore
open Go.Sort (Holds putRow mapBlock holds_putRow grow)
attribute [local go_sem] max2_int min2_int max_two min_two
set_option maxHeartbeats 2000000 in
set_option maxRecDepth 100000 in
/-- The comparison of matches. -/
theorem matCmp_is (B : Nat) (A : Option Addr) (c : Nat) (l : List S55) (a b : Nat) (W : World) (hB : W.cell? ⟨B, 0, none⟩ = some (.slice A l.length c)) (hC : Kd.C k55 W A l.length l) (ha : a < l.length) (hb : b < l.length) (hl : l.length ≤ 1048576) :
    Calls Try.prog 44 #[.int .i64 a, .int .i64 b, .pointer (some ⟨B, 0, none⟩)] W fun e w' => e = .returned (.int .i64 (cmpI (l.getD a z55).f4 (l.getD b z55).f4)) ∧ ∃ q, w' = W.drewN q := by
  obtain ⟨ad, e, hx0, hx1, hx2, hx3, hx4⟩ := at_T55 hC (a : Int) (by omega) (by omega)
  obtain ⟨ad', e', hy0, hy1, hy2, hy3, hy4⟩ := at_T55 hC (b : Int) (by omega) (by omega)
  rw [e] at e'
  injection e' with e'
  subst e' e
  simp only [rd_T55, Int.toNat_natCast] at hx4 hy4
  generalize (l.getD a z55).f4 = x at *
  generalize (l.getD b z55).f4 = y at *
  have i1 : (a : Int) < (l.length : Int) := by omega
  have i2 : (b : Int) < (l.length : Int) := by omega
  clear hC hx0 hx1 hx2 hx3 hy0 hy1 hy2 hy3
  go_enter Try.func44, Try.ntmps44
  go_wp2
  go_quiet ((go_at_call 45; exact Calls.quiet_of_same (compare16_is _ _ _)))
  go_wp2
  go_ret
  exact ⟨rfl, _, rfl⟩
set_option maxHeartbeats 40000000 in
set_option maxRecDepth 1000000 in
theorem matches_any (A : Option Addr) (c : Nat) (l : List S55) (A1 : Option Addr) (c1 : Nat) (m : List S50) (days : Int) (w : World) (hr : Kd.C k55 w A l.length l) (hc : l.length ≤ c) (hr1 : Kd.C k50 w A1 m.length m) (hc1 : m.length ≤ c1)
    (hl : l.length ≤ 40) (hm : m.length ≤ 40) (hlo : ∀ x ∈ l, okOrder x = true ∧ 0 ≤ x.f2 ∧ x.f2 ≤ 100) (hmo : ∀ x ∈ m, okReturn x = true ∧ 0 ≤ x.f2 ∧ x.f2 ≤ 100) :
    Calls Try.prog 29 #[.slice A l.length c, .slice A1 m.length c1, .int .i64 days] w fun e w' => ∃ v0 v1 : Value, e = .returned (.tuple #[v0, v1]) ∧ Kd.R k53 53 w' w.heap.size (fun _ => True) v0 (runI l m days).1.o ∧ Kd.R (Kd.int .i64) 2 w' w.heap.size (fun _ => True) v1 (runI l m days).2 ∧ Below w.heap.size w w' := by
  have HR := Aside0.mk hr
  have HR1 := Aside0.mk hr1
  have HLO := Aside0.mk hlo
  have HMO := Aside0.mk hmo
  clear hr hr1 hlo hmo
  go_enter Try.func29, Try.ntmps29
  obtain ⟨V, hV⟩ : ∃ V, V = w.alloc (.cells #[.slice A l.length c] 29) := ⟨_, rfl⟩
  have HBW : Aside0 (Below w.heap.size w V) := ⟨by rw [hV]; exact (Below.refl _ _).alloc (Nat.le_refl _) _⟩
  have hzV : Aside0 (V.heap.size = w.heap.size + 1) := ⟨by rw [hV]; simp⟩
  have q0 : V.cell? ⟨w.heap.size, 0, none⟩ = some (.slice A l.length c) := by rw [hV]; go_simp
  have HV := Aside0.mk hV
  have HRV := Aside0.mk (Kd.C_below HR.out HBW.out)
  have Q0 := Aside0.mk q0
  clear hV q0
  go_upto_region 2 with ((go_at_call 42; rw [← HV.out]; refine (indices_is l.length (by omega) _).mono ?_; rintro e w1 ⟨v8, rfl, hO8, hb8⟩))
  have HO9 := Aside0.mk hO8
  have HX := Aside0.mk hb8
  have k0 := pw_cell_below hb8 Q0.out
  clear hO8 hb8
  have hil := idxL_length l.length
  go_cut [8] from 23 to 25 (fun v8 wx => ∃ (A8 : Option Addr) (c8 g8 : Nat), v8 = .slice A8 l.length c8 ∧ Aside0 (0 < l.length → A8 = some ⟨g8, 0, none⟩ ∧ g8 < wx.heap.size ∧ V.heap.size ≤ g8) ∧ Aside0 (∀ j, j < l.length → wx.cell? ⟨g8, j, none⟩ = some (.int .i64 (((ordL l).getD j 0 : Nat) : Int))) ∧ wx.cell? ⟨w.heap.size, 0, none⟩ = some (.slice A l.length c) ∧ Aside0 (Below V.heap.size V wx))
  case first =>
    by_cases hl0 : l.length = 0
    · have hv : ∃ A9 c9, v8 = .slice A9 l.length c9 := by
        rcases HO9.out.2 with ⟨h, _⟩ | ⟨g, cap, cur, h, _⟩
        · exact ⟨none, 0, by rw [h, hl0]⟩
        · exact ⟨_, _, by rw [h, hil]⟩
      obtain ⟨A9, c9, rfl⟩ := hv
      have SN : Calls Try.prog 43 #[.slice A9 l.length c9, .func (.func 44) #[] #[.pointer (some ⟨w.heap.size, 0, none⟩)]] w1 fun e w' => e = .returned (.tuple #[]) ∧ w1 = w' := by
        rw [hl0]; exact stable_none _ _ A9 c9 _
      have HL0 := Aside0.mk hl0
      clear hil hl0
      go_wp2_with fail
      refine SN.mono ?_
      rintro e w2 ⟨rfl, rfl⟩
      go_wp2
      go_meet
      have hl0 := HL0.out
      exact ⟨A9, c9, 0, rfl, ⟨fun h => by omega⟩, ⟨fun j hj => by omega⟩, k0, HX⟩
    · have hv : ∃ g9 c9, v8 = .slice (some ⟨g9, 0, none⟩) l.length c9 ∧ V.heap.size ≤ g9 ∧ g9 < w1.heap.size ∧ Holds encF w1 g9 0 (idxF l.length) := by
        rcases HO9.out.2 with ⟨_, h⟩ | ⟨g, cap, cur, h, hb, hh, _, _, _, ht⟩
        · rw [hil] at h; exact absurd h hl0
        · refine ⟨g, cap, by rw [h, hil], hb, (Array.getElem?_eq_some_iff.1 hh).1, holds_idx hh ?_⟩
          rw [← ht, hil]
      obtain ⟨g9, c9, rfl, hg9, hg9b, hH9⟩ := hv
      have HH9 := Aside0.mk hH9
      have HCM : Aside0 (CmpF 44 #[.pointer (some ⟨w.heap.size, 0, none⟩)] (cfM l) g9 (idxF l.length).size w1) := ⟨by
        intro m X hX h0 x y
        have hbx : Below V.heap.size V ((putRow encF w1 g9 0 X).drewN m) := pw_below_drewN (below_putRow encF HX.out hg9 0 X) m
        exact matCmp_is w.heap.size A c l x.val y.val _ (pw_cell_below hbx Q0.out) (Kd.C_below HRV.out hbx) (by have := x.isLt; omega) (by have := y.isLt; omega) (by omega)⟩
      have hds : (idxF l.length).size = l.length := idxF_size _
      have HDS := Aside0.mk hds
      have eg := enters_of Try.func44 (by kernel_rfl) rfl
      clear hH9 hds hil
      have HS := Aside0.mk (stable_is (cfM l) 44 #[.pointer (some ⟨w.heap.size, 0, none⟩)] g9 c9 _ w1 eg HCM.out HH9.out (by rw [HDS.out]; omega))
      rw [HDS.out] at HS
      go_wp2_with fail
      refine HS.out.mono ?_
      rintro e w2 ⟨rfl, q, hw2⟩
      rw [show stab (ltF (cfM l)) (idxF l.length) = ordA l from rfl] at hw2
      have hgr := putRow_grown encF w1 g9 0 (ordA l) q
      rw [← hw2] at hgr
      have HX2 : Aside0 (Below V.heap.size V w2) := ⟨by rw [hw2]; exact pw_below_drewN (below_putRow encF HX.out hg9 0 _) q⟩
      have HC9 : Aside0 (∀ j, j < l.length → w2.cell? ⟨g9, j, none⟩ = some (.int .i64 (((ordL l).getD j 0 : Nat) : Int))) := ⟨fun j hj => by
        have := (holds_putRow encF w1 g9 0 _ (ordA l) HH9.out (by rw [HDS.out, ordA_size]) j (by rw [ordA_size]; exact hj)).1
        rw [Nat.zero_add] at this
        rw [hw2, ordL_get l j hj]
        exact this⟩
      have hsz := hgr.size
      clear hw2 hgr
      go_wp2
      go_meet
      exact ⟨_, c9, g9, rfl, ⟨fun _ => ⟨rfl, by omega, hg9⟩⟩, HC9, pw_cell_below HX2.out Q0.out, HX2⟩
  case rest =>
    obtain ⟨A8, c8, g8, rfl, HA8, HC8, q0, HXc⟩ := hcut
    have hbc : Aside0 (Below w.heap.size w wc) := ⟨HBW.out.trans (HXc.out.mono HBW.out.size)⟩
    have hsc : w.heap.size + 1 ≤ wc.heap.size := by have := HXc.out.size; have := hzV.out; omega
    have HRc := Aside0.mk (Kd.C_below HRV.out HXc.out)
    clear HO9 HX k0 hil
    have HH0 : Aside0 (∀ W : World, wc.heap.size ≤ W.heap.size → Kd.R (Kd.int .i16) 48 (W.alloc (.cells #[] 48)) w.heap.size (fun k => wc.heap.size ≤ k) (.slice (some ⟨W.heap.size, 0, none⟩) 0 0) ((l.take 0).map (·.f2))) := ⟨fun W hW => R_empty _ _ _ _ _ _ rfl (by omega) hW⟩
    obtain ⟨wo, hwo⟩ : ∃ wo : World, wo = wc := ⟨_, rfl⟩
    have hwB : Aside0 (Below w.heap.size w (wc.alloc (.cells #[] 48))) := ⟨hbc.out.alloc (by omega) _⟩
    have hwC : Aside0 (Below wc.heap.size wc (wc.alloc (.cells #[] 48))) := ⟨(Below.refl _ _).alloc (Nat.le_refl _) _⟩
    rw [← hwo] at hwB hwC HC8 HA8 q0 HXc hsc HRc hbc HH0 ⊢
    clear hwo wc
    have q1 := pw_cell_below hwC.out q0
    have Q2 := Aside0.mk q0
    clear q0
    go_wp2_with fail
    go_loopg [9, 29] l.length (fun gg v9 v29 wr => ∃ (k : Nat), k ≤ l.length ∧ l.length - k ≤ gg ∧ v29 = .int .i64 k ∧ wr.cell? ⟨w.heap.size, 0, none⟩ = some (.slice A l.length c) ∧ Aside0 (Kd.R (Kd.int .i16) 48 wr w.heap.size (fun k => wo.heap.size ≤ k) v9 ((l.take k).map (·.f2))) ∧ Aside0 (Below w.heap.size w wr) ∧ Aside0 (Below wo.heap.size wo wr))
    case atStart => exact ⟨0, by omega, by omega, rfl, q1, ⟨HH0.out _ (Nat.le_refl _)⟩, hwB, hwC⟩
    case round =>
      clear q1
      obtain ⟨k, hk, hgg, rfl, q1, HH, HBr, HBo⟩ := hrel
      have hsr : wo.heap.size ≤ wr.heap.size := HBo.out.size
      by_cases hlt : k < l.length
      · have hltz : (k : Int) < (l.length : Int) := by omega
        obtain ⟨ad, eA, x0, x1, x2, x3, x4⟩ := at_T55 (Kd.C_below HR.out HBr.out) (k : Int) (by omega) (by omega)
        simp only [rd_T55, Int.toNat_natCast] at x0 x1 x2 x3 x4
        have HN := Aside0.mk (take_map_snoc l k hlt)
        generalize l.getD k z55 = o at *
        obtain ⟨o0, o1, o2, o3, o4⟩ := o
        simp only at x0 x1 x2 x3 x4
        subst eA
        have hlen : ((l.take k).map (·.f2)).length = k := by rw [List.length_map, List.length_take]; omega
        obtain ⟨hs, hhs⟩ : ∃ hs, (l.take k).map (·.f2) = hs := ⟨_, rfl⟩
        rw [hhs] at hlen HH HN
        obtain ⟨U, hU⟩ : ∃ U, U = wr.alloc (.cells #[.int .i8 o0, .int .i8 o1, .int .i16 o2, .int .i16 o3, .int .i16 o4] 55) := ⟨_, rfl⟩
        have HU : Aside0 (Below wr.heap.size wr U) := ⟨by rw [hU]; exact (Below.refl _ _).alloc (Nat.le_refl _) _⟩
        have HHU : Aside0 (Kd.R (Kd.int .i16) 48 U w.heap.size (fun k => wo.heap.size ≤ k) u9 hs) := ⟨Kd.R_below HH.out HU.out⟩
        have HBU : Aside0 (Below w.heap.size w U) := ⟨HBr.out.trans (HU.out.mono HBr.out.size)⟩
        have hsU : wr.heap.size ≤ U.heap.size := HU.out.size
        have hsw : w.heap.size ≤ U.heap.size := HBU.out.size
        have HUE := Aside0.mk hU
        have Q1 : Aside0 (U.cell? ⟨w.heap.size, 0, none⟩ = some (.slice (some ad) l.length c)) := ⟨pw_cell_below HU.out q1⟩
        clear hhs q1
        rw [hU] at hsU hsw
        clear hU
        go_wp2_with (at_builtin; rw [← HUE.out]; refine Kd.R_append (Kd.int .i16) (w0 := w) w.heap.size rfl (.tmp 33) (.tmp 36) 69 48 (.int .i16 0) 2 rfl Try.underlying69 infoI16m rfl (by decide) (by omega) u9 hs o2 [.int .i16 o2] (fun k => wo.heap.size ≤ k) (fun _ => False) rfl (by rw [HUE.out]; show Value.slice (some ⟨wr.heap.size + 1, 0, none⟩) 1 1 = _; simp) rfl (fun _ h => h.elim) (fun k hk => Nat.le_trans (Nat.le_trans hsr HU.out.size) hk) HHU.out HBU.out HBU.out.size (by omega) ?_; intro v9 w9 hR9 hB9 hg9 hat9)
        have hX9 : Below wo.heap.size wo w9 := (HBo.out.trans (HU.out.mono hsr)).grown hg9 (Nat.le_trans hsr HU.out.size) (fun j hj => HHU.out.1 j hj)
        have q2 : w9.cell? ⟨w.heap.size, 0, none⟩ = some (.slice (some ad) l.length c) := pw_cell_below hX9 Q2.out
        have HR9 := Aside0.mk (HN.out ▸ hR9)
        have HB9 := Aside0.mk hB9
        have HX9 := Aside0.mk hX9
        clear hR9 hB9 hg9 hat9 hX9
        go_wp2
        go_roundg (l.length - (k + 1))
        case measure => omega
        case rel => exact ⟨k + 1, by omega, by omega, by go_num, q2, HR9, HB9, HX9⟩
      · have hltz : ¬ (k : Int) < (l.length : Int) := by omega
        have hkl : k = l.length := by omega
        rw [show (l.take k).map (·.f2) = l.map (·.f2) by rw [hkl, List.take_length]] at HH
        clear hkl
        have hL : ∃ g9, (0 < l.length → ∃ c9, u9 = .slice (some ⟨g9, 0, none⟩) l.length c9) ∧ w.heap.size < g9 ∧ Aside0 (Low A c l.length w.heap.size g8 g9 wr.heap.size (ordL l) wr (l.map (·.f2))) := by
          by_cases hn : 0 < l.length
          · obtain ⟨g9, c9, e9, hg9b, hg9, cells9, hcells9⟩ := Kd.R_form HH.out (by rw [List.length_map]; exact hn)
            rw [List.length_map] at e9
            subst e9
            have hwo : wo.heap.size ≤ g9 := HH.out.1 g9 rfl
            obtain ⟨ha8, hg8, hv8⟩ := HA8.out hn
            refine ⟨g9, fun _ => ⟨c9, rfl⟩, by omega, ⟨q1, fun j hj => pw_cell_below HBo.out (HC8.out j hj), fun j hj => ?_, by omega, fun _ => by omega, fun _ => hg9, fun _ => by omega, by omega, by rw [List.length_map]⟩⟩
            obtain ⟨ce, hcl, hM, hcc, hfr⟩ := Kd.R_elem HH.out 0 (j : Int) (by omega) (by omega)
            rw [Int.toNat_natCast] at hcc hfr hM
            obtain rfl : ce = [.int .i16 ((l.map (·.f2)).getD j 0)] := hM
            have h1 := hcc 0 _ rfl
            have h2 := hfr 0
            rw [show (Kd.int .i16).sz = 1 from rfl, Nat.mul_one, Nat.add_zero] at h1 h2
            exact ⟨h1, h2⟩
          · exact ⟨w.heap.size + 1, fun h => absurd h hn, by omega, ⟨q1, fun j hj => by omega, fun j hj => by omega, by omega, fun h => absurd h hn, fun h => absurd h hn, fun h => absurd h hn, by omega, by rw [List.length_map]⟩⟩
        obtain ⟨g9, hv9, hg9, HLow⟩ := hL
        have HV9 := Aside0.mk hv9
        obtain ⟨b2, hb2⟩ : ∃ b2, b2 = wr.heap.size := ⟨_, rfl⟩
        rw [← hb2] at HLow
        have hbb : w.heap.size < b2 := by omega
        have HD0 : Aside0 (Duo w.heap.size b2 w ((wr.alloc (.cells #[] 53)).alloc (.cells #[] 2)) (.slice (some ⟨wr.heap.size, 0, none⟩) 0 0) (.slice (some ⟨wr.heap.size + 1, 0, none⟩) 0 0) [] []) := ⟨
          Kd.R_alloc (R_empty _ _ _ _ _ _ rfl (by omega) (by omega)) _, R_empty _ _ _ _ _ _ (by simp) (by simp; omega) (by simp; omega), fun j hj => by simp [Value.ownBlock] at hj ⊢; omega, (HBr.out.alloc (by omega) _).alloc (by simp; omega) _, by simp; omega, by omega⟩
        have HL0 : Aside0 (Low A c l.length w.heap.size g8 g9 b2 (ordL l) ((wr.alloc (.cells #[] 53)).alloc (.cells #[] 2)) (l.map (·.f2))) := ⟨HLow.out.below (by omega) ((below_alloc (Below.refl _ _) _).trans ((below_alloc (Below.refl _ _) _).mono (by simp)))⟩
        have HM0 : Aside0 (MOk l.length (0 * 40) ⟨l.map (·.f2), [], 0⟩) := ⟨⟨by rw [List.length_map], fun j => by
          by_cases hj : j < l.length
          · show 0 ≤ (l.map (·.f2)).getD j 0 ∧ (l.map (·.f2)).getD j 0 ≤ 100
            rw [List.getD_eq_getElem?_getD, List.getElem?_map, List.getElem?_eq_getElem hj]
            have := (HLO.out _ (List.getElem_mem hj)).2
            exact this
          · show 0 ≤ (l.map (·.f2)).getD j 0 ∧ (l.map (·.f2)).getD j 0 ≤ 100
            rw [List.getD_eq_getElem?_getD, List.getElem?_eq_none (by rw [List.length_map]; omega)]
            exact ⟨by decide, by decide⟩, by show (0 : Int) ≤ 0; omega, by show (0 : Int) ≤ 100; omega, by show 0 ≤ _; omega⟩⟩
        clear HLow hv9 hb2 q1 HH HBr HBo hsr
        have HRn : Aside0 ((List.range' 0 (m.length - 0)).foldl (oneI l m days) (⟨l.map (·.f2), [], 0⟩, []) = runI l m days) := ⟨by unfold runI; rw [Nat.sub_zero, List.range_eq_range']⟩
        go_wp2_with fail
        go_loopg [12, 13, 43] m.length (fun gg v12 v13 v43 wr2 => ∃ (k : Nat) (s : MS × List Int), k ≤ m.length ∧ m.length - k ≤ gg ∧ v43 = .int .i64 k ∧ Aside0 (Low A c l.length w.heap.size g8 g9 b2 (ordL l) wr2 s.1.h) ∧ Aside0 (Duo w.heap.size b2 w wr2 v12 v13 s.1.o s.2) ∧ Aside0 (MOk l.length (k * 40) s.1) ∧ Aside0 (s.2.length = k) ∧ Aside0 ((List.range' k (m.length - k)).foldl (oneI l m days) s = runI l m days))
        case atStart => exact ⟨0, (⟨l.map (·.f2), [], 0⟩, []), by omega, by omega, rfl, HL0, HD0, HM0, ⟨rfl⟩, HRn⟩
        case round =>
          obtain ⟨k2, ⟨s, ov⟩, hk2, hgg2, rfl, HL, HD, HM, HK, HF⟩ := hrel
          by_cases hlt2 : k2 < m.length
          · have hltz2 : (k2 : Int) < (m.length : Int) := by omega
            obtain ⟨ad1, eA1, y0, y1, y2, y3⟩ := at_T50 (Kd.C_below HR1.out HD.out.below) (k2 : Int) (by omega) (by omega)
            simp only [rd_T50, Int.toNat_natCast] at y0 y1 y2 y3
            have hmem : m.getD k2 z50 ∈ m := by rw [List.getD_eq_getElem?_getD, List.getElem?_eq_getElem hlt2]; exact List.getElem_mem hlt2
            have hbr := HMO.out _ hmem
            rw [show m.length - k2 = (m.length - (k2 + 1)) + 1 by omega, range'_cons, List.foldl_cons] at HF
            rw [show oneI l m days (s, ov) k2 = (((ordL l).foldl (take1 l (m.getD k2 z50) k2 days) ⟨s.h, s.o, (m.getD k2 z50).f2⟩), ov ++ [((ordL l).foldl (take1 l (m.getD k2 z50) k2 days) ⟨s.h, s.o, (m.getD k2 z50).f2⟩).left]) from rfl] at HF
            generalize m.getD k2 z50 = r at *
            obtain ⟨r0, r1, r2, r3⟩ := r
            simp only at y0 y1 y2 y3 HF
            obtain ⟨hrok, hrl, hrh⟩ := hbr
            have hrk := okReturn_iff.1 hrok
            simp only at hrl hrh hrk
            clear hmem hrok
            obtain ⟨T, hT⟩ : ∃ T, (ordL l).foldl (take1 l ⟨r0, r1, r2, r3⟩ k2 days) ⟨s.h, s.o, r2⟩ = T := ⟨_, rfl⟩
            rw [hT] at HF
            have HT := Aside0.mk hT
            clear hT
            subst eA1
            obtain ⟨U, hU⟩ : ∃ U, U = wr.alloc (.cells #[.int .i8 r0, .int .i8 r1, .int .i16 r2, .int .i16 r3] 50) := ⟨_, rfl⟩
            have hP : Aside0 (U.heap[wr.heap.size]? = some (.cells #[.int .i8 r0, .int .i8 r1, .int .i16 r2, .int .i16 r3] 50 (0, 0))) := ⟨by rw [hU]; exact Array.getElem?_push_size⟩
            have HU : Aside0 (Below wr.heap.size wr U) := ⟨by rw [hU]; exact (Below.refl _ _).alloc (Nat.le_refl _) _⟩
            have hsU : Aside0 (U.heap.size = wr.heap.size + 1) := ⟨by rw [hU]; simp⟩
            have HLU : Aside0 (Low A c l.length w.heap.size g8 g9 b2 (ordL l) U s.h) := ⟨HL.out.below HD.out.size HU.out⟩
            have HDU : Aside0 (Duo w.heap.size b2 w U u12 u13 s.o ov) := ⟨HD.out.via HU.out⟩
            have hne12 : Aside0 (u12.ownBlock ≠ some wr.heap.size) := ⟨fun e => by have := Kd.R_lt HD.out.l _ e; omega⟩
            obtain ⟨PB, hPB⟩ : ∃ PB, PB = wr.heap.size := ⟨_, rfl⟩
            have hPB2 : b2 ≤ PB := by rw [hPB]; exact HD.out.size
            have hUP : Aside0 (PB < U.heap.size) := ⟨by rw [hsU.out, hPB]; omega⟩
            have HM1 : Aside0 (MOk l.length (k2 * 40 + 0) ⟨s.h, s.o, r2⟩) := ⟨⟨HM.out.len, HM.out.hv, hrl, hrh, HM.out.out⟩⟩
            have HF0 : Aside0 (((ordL l).drop 0).foldl (take1 l ⟨r0, r1, r2, r3⟩ k2 days) ⟨s.h, s.o, r2⟩ = T) := HT
            have p2 : U.cell? ⟨wr.heap.size, 2, none⟩ = some (.int .i16 r2) := by rw [hU]; go_simp
            have HUE := Aside0.mk hU
            rw [hU] at p2
            rw [← hPB] at hP hne12
            clear hU
            go_wp2_with fail
            rw [← HUE.out, ← hPB]
            have HPB := Aside0.mk hPB
            clear p2 hPB y0 y1 y2 y3
            go_loopg [12, 16, 52] l.length (fun gg v12 v16 v52 w3 => ∃ (q : Nat) (s' : MS), q ≤ l.length ∧ l.length - q ≤ gg ∧ v52 = .int .i64 q ∧ v16 = .int .i16 s'.left ∧ Aside0 (Low A c l.length w.heap.size g8 g9 b2 (ordL l) w3 s'.h) ∧ Aside0 (Duo w.heap.size b2 w w3 v12 u13 s'.o ov) ∧ Aside0 (v12.ownBlock ≠ some PB) ∧ Aside0 (PB < w3.heap.size) ∧ Aside0 (w3.heap[PB]? = some (.cells #[.int .i8 r0, .int .i8 r1, .int .i16 r2, .int .i16 r3] 50 (0, 0))) ∧ Aside0 (MOk l.length (k2 * 40 + q) s') ∧ Aside0 (((ordL l).drop q).foldl (take1 l ⟨r0, r1, r2, r3⟩ k2 days) s' = T))
            case atStart => exact ⟨0, ⟨s.h, s.o, r2⟩, by omega, by omega, rfl, rfl, HLU, HDU, hne12, hUP, hP, HM1, HF0⟩
            case round =>
              clear HL HD hP HUE HDU HLU HM hUP hsU hne12 HM1 HF0 HU
              obtain ⟨q, s', hq, hgg3, e52, e16, HL, HD, HN12, HPs, HP, HM, HFq⟩ := hrel
              obtain ⟨h', o', lf⟩ := s'
              simp only at e16 HL HD
              subst e52 e16
              by_cases hlt3 : q < l.length
              · have hltz3 : (q : Int) < (l.length : Int) := by omega
                obtain ⟨ha8, hg8, hv8⟩ := HA8.out (by omega)
                subst ha8
                obtain ⟨c9, hu9⟩ := HV9.out (by omega)
                subst hu9
                have n0 : w.heap.size ≠ g9 := HL.out.n0
                have co := HL.out.ord q hlt3
                have ho := ordL_lt l q hlt3
                have hd := drop_cons_of (ordL l) 0 q (by rw [ordL_length]; exact hlt3)
                have HD1 : Aside0 (((ordL l).drop (q + 1)).foldl (take1 l ⟨r0, r1, r2, r3⟩ k2 days) (take1 l ⟨r0, r1, r2, r3⟩ k2 days ⟨h', o', lf⟩ ((ordL l).getD q 0)) = T) := ⟨by rw [← HFq.out, hd]; rfl⟩
                clear hd HFq
                generalize (ordL l).getD q 0 = o at co ho HD1
                obtain ⟨ch, fh⟩ := HL.out.hav o ho
                have hhb := HM.out.hv o
                have hl0' := HM.out.l0
                have hl1' := HM.out.l1
                have hout := HM.out.out
                have hlen' := HM.out.len
                simp only at hhb hl0' hl1' hout hlen'
                have HMt := Aside0.mk (HM.out.take l ⟨r0, r1, r2, r3⟩ k2 days o)
                obtain ⟨hv, hhv⟩ : ∃ hv, h'.getD o 0 = hv := ⟨_, rfl⟩
                obtain ⟨mu, hmu⟩ : ∃ mu, min lf hv = mu := ⟨_, rfl⟩
                rw [hhv] at ch hhb
                have hmu0 : 0 ≤ mu ∧ mu ≤ lf ∧ mu ≤ hv := by omega
                obtain ⟨hmu0, hmu1, hmu2⟩ := hmu0
                have HT1 : Aside0 (take1 l ⟨r0, r1, r2, r3⟩ k2 days ⟨h', o', lf⟩ o = if 0 < mu ∧ canB (l.getD o z55) ⟨r0, r1, r2, r3⟩ days = true then ⟨h'.set o (hv - mu), o' ++ [⟨(k2 : Int), (o : Int), mu⟩], lf - mu⟩ else ⟨h', o', lf⟩) := ⟨by
                  unfold take1
                  simp only
                  rw [hhv, hmu]⟩
                have HHV := Aside0.mk hhv
                have emu : (if hv < lf then hv else lf) = mu := by
                  by_cases c : hv < lf
                  · rw [if_pos c]; omega
                  · rw [if_neg c]; omega
                clear hhv HM hmu
                obtain ⟨ado, eo, x0, x1, x2, x3, x4⟩ := at_T55 (Kd.C_below HR.out HD.out.below) (o : Int) (by omega) (by omega)
                simp only [rd_T55, Int.toNat_natCast] at x0 x1 x2 x3 x4
                have hmem : l.getD o z55 ∈ l := by rw [List.getD_eq_getElem?_getD, List.getElem?_eq_getElem ho]; exact List.getElem_mem ho
                have hbo := okOrder_iff.1 (HLO.out _ hmem).1
                generalize l.getD o z55 = yo at *
                obtain ⟨f0, f1, f2, f3, f4⟩ := yo
                simp only at x0 x1 x2 x3 x4 hbo
                subst eo
                clear hmem
                have kb := HL.out.box
                have p0 : wr.cell? ⟨PB, 0, none⟩ = some (.int .i8 r0) := by rw [cell_of_row wr PB 0 _ _ (0, 0) HP.out]; rfl
                have p1 : wr.cell? ⟨PB, 1, none⟩ = some (.int .i8 r1) := by rw [cell_of_row wr PB 1 _ _ (0, 0) HP.out]; rfl
                have p2 : wr.cell? ⟨PB, 2, none⟩ = some (.int .i16 r2) := by rw [cell_of_row wr PB 2 _ _ (0, 0) HP.out]; rfl
                have p3 : wr.cell? ⟨PB, 3, none⟩ = some (.int .i16 r3) := by rw [cell_of_row wr PB 3 _ _ (0, 0) HP.out]; rfl
                have hoz : (o : Int) < (l.length : Int) := by omega
                by_cases hm0 : 0 < mu
                · have hcan := canMatch_is f0 f1 f2 f3 f4 r0 r1 r2 r3 days
                  have cM : ∀ d os, Calls Try.prog 46 #[.agg #[.int .i8 f0, .int .i8 f1, .int .i16 f2, .int .i16 f3, .int .i16 f4], .agg #[.int .i8 r0, .int .i8 r1, .int .i16 r2, .int .i16 r3], .int .i64 days] (grow (redrawn wr d) os) fun e w'' => e = .returned (.bool (canB ⟨f0, f1, f2, f3, f4⟩ ⟨r0, r1, r2, r3⟩ days)) ∧ ∃ p : Regrown, w'' = grow (redrawn wr p.d) p.os := fun d os => Calls.regrown_of (hcan _ (by omega) (by omega) (by omega) (by omega))
                  have k0' := cell_regrown kb
                  have o0' := cell_regrown x0
                  have o1' := cell_regrown x1
                  have o2' := cell_regrown x2
                  have o3' := cell_regrown x3
                  have o4' := cell_regrown x4
                  have r0' := cell_regrown p0
                  have r1' := cell_regrown p1
                  have r2' := cell_regrown p2
                  have r3' := cell_regrown p3
                  have CH := Aside0.mk ch
                  have CO := Aside0.mk co
                  clear hcan x0 x1 x2 x3 x4 p0 p1 p2 p3 kb
                  go_wp2_with fail
                  clear co ch fh
                  refine wp_region_quiet_below (by kernel_rfl) (by kernel_rfl) ?_
                  repeat (quiet_step ((go_at_call 46; with_reducible exact cM _ _)))
                  refine wpQuiet_nil ?_
                  intro _ hw'
                  obtain ⟨⟨dq, osq⟩, hw''⟩ := hw'
                  subst hw''
                  have hb7 := below_regrown wr dq osq
                  have HL7 := Aside0.mk (HL.out.below HD.out.size hb7)
                  have HD7 := Aside0.mk (HD.out.via hb7)
                  have HP7 : Aside0 ((grow (redrawn wr dq) osq).heap[PB]? = some (Obj.cells #[.int .i8 r0, .int .i8 r1, .int .i16 r2, .int .i16 r3] 50 (0, 0))) := ⟨(hb7.block PB HPs.out).trans HP.out⟩
                  have HPs7 : Aside0 (PB < (grow (redrawn wr dq) osq).heap.size) := ⟨Nat.lt_of_lt_of_le HPs.out hb7.size⟩
                  clear hb7 k0' o0' o1' o2' o3' o4' r0' r1' r2' r3' cM
                  generalize grow (redrawn wr dq) osq = w7 at *
                  cases hcb : canB ⟨f0, f1, f2, f3, f4⟩ ⟨r0, r1, r2, r3⟩ days with
                  | false =>
                    have HT2 : Aside0 (take1 l ⟨r0, r1, r2, r3⟩ k2 days ⟨h', o', lf⟩ o = ⟨h', o', lf⟩) := ⟨by rw [HT1.out, if_neg (fun h => by rw [hcb] at h; cases h.2)]⟩
                    rw [HT2.out] at HD1 HMt
                    clear hcb HT1 HT2
                    go_wp2
                    go_roundg (l.length - (q + 1))
                    case measure => omega
                    case rel => exact ⟨q + 1, ⟨h', o', lf⟩, by omega, by omega, by go_num, rfl, HL7, HD7, HN12, HPs7, HP7, HMt, HD1⟩
                  | true =>
                    have HT2 : Aside0 (take1 l ⟨r0, r1, r2, r3⟩ k2 days ⟨h', o', lf⟩ o = ⟨h'.set o (hv - mu), o' ++ [⟨(k2 : Int), (o : Int), mu⟩], lf - mu⟩) := ⟨by rw [HT1.out, if_pos ⟨hm0, hcb⟩]⟩
                    rw [HT2.out] at HD1 HMt
                    clear hcb HT1 HT2
                    obtain ⟨ch, fh⟩ := HL7.out.hav o ho
                    rw [HHV.out] at ch
                    have e1 : IntKind.i8.wrap (k2 : Int) = (k2 : Int) := IntWalk.i8_in _ (by omega)
                    have e2 : IntKind.i8.wrap (o : Int) = (o : Int) := IntWalk.i8_in _ (by omega)
                    have e3 : IntKind.i16.wrap (hv - mu) = hv - mu := IntWalk.i16_in _ (by omega)
                    have e4 : IntKind.i16.wrap (lf - mu) = lf - mu := IntWalk.i16_in _ (by omega)
                    have hs7 : w.heap.size ≤ w7.heap.size := Nat.le_trans (by omega) HD7.out.size
                    have CH7 := Aside0.mk ch
                    have FH7 := Aside0.mk fh
                    clear ch fh
                    go_wp2_with (at_builtin; refine Kd.R_append k53 (w0 := w) w.heap.size rfl (.tmp 73) (.tmp 80) 40 53 (.agg #[(.int .i8 0), (.int .i8 0), (.int .i16 0)]) 4 rfl Try.underlying40 info53 rfl (by decide) (by omega) _ o' (⟨(k2 : Int), (o : Int), mu⟩ : S53) [.int .i8 (k2 : Int), .int .i8 (o : Int), .int .i16 mu] (fun k => b2 ≤ k) (fun _ => False) rfl rfl (k53_mkM _ _ _ _) (fun _ h => h.elim) (fun k hk => Nat.le_trans HD7.out.size hk) HD7.out.l HD7.out.below hs7 (by omega) ?_; intro v1 w8 hO8 hB8 hg8' hat8; have HD8 := Aside0.mk (HD7.out.left hO8 hB8 hg8' hat8); have HL8 := Aside0.mk (HL7.out.grown HD7.out.size hg8' (fun k hk => HD7.out.l.1 k hk)); have HN8 : Aside0 (v1.ownBlock ≠ some PB) := ⟨fun e => by rcases hat8 with h | ⟨b, h, hb⟩; exact HN12.out (h ▸ e); rw [e] at h; injection h with h; have := HPs7.out; omega⟩; have HP8 := Aside0.mk ((hg8'.block PB HPs7.out (fun e => HN12.out e.symm)).trans HP7.out); have HPs8 : Aside0 (PB < w8.heap.size) := ⟨Nat.lt_of_lt_of_le HPs7.out hg8'.size⟩; obtain ⟨ch, fh⟩ := HL8.out.hav o ho; rw [HHV.out] at ch; clear hO8 hB8 hg8' hat8)
                    go_roundg (l.length - (q + 1))
                    case measure => omega
                    case rel =>
                      have hgw := setCell_grown w8 g9 o (.int .i16 (hv - mu))
                      exact ⟨q + 1, ⟨h'.set o (hv - mu), o' ++ [⟨(k2 : Int), (o : Int), mu⟩], lf - mu⟩, by omega, by omega, by go_num, rfl, ⟨HL8.out.set o ho _⟩, ⟨HD8.out.low hgw (HL8.out.b9 (by omega)) (by omega)⟩, HN8, ⟨Nat.lt_of_lt_of_le HPs8.out hgw.size⟩, ⟨(hgw.block PB HPs8.out (fun e => by injection e with e; have := HL8.out.b9 (by omega); omega)).trans HP8.out⟩, HMt, HD1⟩
                · have HT2 : Aside0 (take1 l ⟨r0, r1, r2, r3⟩ k2 days ⟨h', o', lf⟩ o = ⟨h', o', lf⟩) := ⟨by rw [HT1.out, if_neg (fun h => hm0 h.1)]⟩
                  rw [HT2.out] at HD1 HMt
                  clear x0 x1 x2 x3 x4 p0 p1 p2 p3 kb HT1 HT2
                  go_wp2_with fail
                  refine wp_region_quiet_below (by kernel_rfl) (by kernel_rfl) (WQ.out ?_)
                  iterate 11 (refine WQ.step (fun K hK => ?_); go_simp; first | refine hK _ ?_ | (rw [if_neg (show ¬ 0 < mu by omega)]; refine hK _ ?_); clear hK K)
                  refine WQ.nil ?_
                  intro _ hw'
                  obtain ⟨⟨dq, osq⟩, hw''⟩ := hw'
                  subst hw''
                  have hb7 := below_regrown wr dq osq
                  have HL7 := Aside0.mk (HL.out.below HD.out.size hb7)
                  have HD7 := Aside0.mk (HD.out.via hb7)
                  have HP7 : Aside0 ((grow (redrawn wr dq) osq).heap[PB]? = some (.cells #[.int .i8 r0, .int .i8 r1, .int .i16 r2, .int .i16 r3] 50 (0, 0))) := ⟨(hb7.block PB HPs.out).trans HP.out⟩
                  have HPs7 : Aside0 (PB < (grow (redrawn wr dq) osq).heap.size) := ⟨Nat.lt_of_lt_of_le HPs.out hb7.size⟩
                  clear hb7 co ch fh
                  generalize grow (redrawn wr dq) osq = w7 at *
                  go_wp2
                  go_roundg (l.length - (q + 1))
                  case measure => omega
                  case rel => exact ⟨q + 1, ⟨h', o', lf⟩, by omega, by omega, by go_num, rfl, HL7, HD7, HN12, HPs7, HP7, HMt, HD1⟩
              · have hltz3 : ¬ (q : Int) < (l.length : Int) := by omega
                have HS : Aside0 ((⟨h', o', lf⟩ : MS) = T) := ⟨by rw [← HFq.out, List.drop_eq_nil_of_le (by rw [ordL_length]; omega)]; rfl⟩
                rw [← HS.out] at HF
                have HM2 : Aside0 (MOk l.length ((k2 + 1) * 40) ⟨h', o', lf⟩) := ⟨⟨HM.out.len, HM.out.hv, HM.out.l0, HM.out.l1, Nat.le_trans HM.out.out (by omega)⟩⟩
                have hl0' := HM.out.l0
                have hl1' := HM.out.l1
                simp only at hl0' hl1'
                have e5 : IntKind.i64.wrap lf = lf := IntWalk.i64_in _ (by omega)
                have hs7 : w.heap.size ≤ wr.heap.size := Nat.le_trans (by omega) HD.out.size
                have hov : ov.length = k2 := HK.out
                clear HS HT HFq HK
                go_wp2_with (at_builtin; refine Kd.R_append (Kd.int .i64) (w0 := w) w.heap.size rfl (.tmp 93) (.tmp 96) 26 2 (.int .i64 0) 8 rfl Try.underlying26 infoI64 rfl (by decide) (by omega) _ ov lf [.int .i64 lf] (fun k => b2 ≤ k) (fun _ => False) rfl rfl rfl (fun _ h => h.elim) (fun k hk => Nat.le_trans HD.out.size hk) HD.out.r HD.out.below hs7 (by omega) ?_; intro v1 w8 hO8 hB8 hg8' hat8; have HD8 := Aside0.mk (HD.out.right hO8 hB8 hg8' hat8); have HL8 := Aside0.mk (HL.out.grown HD.out.size hg8' (fun k hk => HD.out.r.1 k hk)); clear hO8 hB8 hg8' hat8)
                have HK2 : Aside0 ((ov ++ [lf]).length = k2 + 1) := ⟨by rw [List.length_append, hov]; rfl⟩
                go_roundg (m.length - (k2 + 1))
                case measure => omega
                case rel => exact ⟨k2 + 1, (⟨h', o', lf⟩, ov ++ [lf]), by omega, by omega, by go_num, HL8, HD8, HM2, HK2, HF⟩
          · have hltz2 : ¬ (k2 : Int) < (m.length : Int) := by omega
            have HE : Aside0 ((s, ov) = runI l m days) := ⟨by rw [← HF.out, show m.length - k2 = 0 by omega]; rfl⟩
            go_wp2
            go_ret2
            rw [← HE.out]
            exact ⟨_, _, rfl, Kd.R_mono HD.out.l (fun _ _ => trivial), Kd.R_mono HD.out.r (fun _ _ => trivial), HD.out.below⟩
def impl_matches.f (l0 : List (S55)) (l1 : List (S50)) (a2 : Int) : Option ((List (S53)) × List Int) :=
  if (l0.all okOrder = true ∧ l1.all okReturn = true) ∧ (ordersB l0 = true ∧ returnsB l1 = true) then some ((runI l0 l1 a2).1.o, (runI l0 l1 a2).2) else none
theorem impl_matches.calls (A0 : Option Addr) (c0 : Nat) (l0 : List (S55)) (A1 : Option Addr) (c1 : Nat) (l1 : List (S50)) (a2 : Int) (r1 : List (S53)) (r2 : List Int) (w : World) (hr0 : Kd.C k55 w A0 l0.length l0) (hc0 : l0.length ≤ c0) (hr1 : Kd.C k50 w A1 l1.length l1) (hc1 : l1.length ≤ c1) (h : impl_matches.f l0 l1 a2 = some (r1, r2)) :
    Calls Try.prog 29 #[.slice A0 l0.length c0, .slice A1 l1.length c1, .int .i64 a2] w fun e w' => ∃ v0_ v1_ : Value, e = .returned (.tuple #[v0_, v1_]) ∧ Kd.R k53 53 w' w.heap.size (fun _ => True) v0_ r1 ∧ Kd.R (Kd.int .i64) 2 w' w.heap.size (fun _ => True) v1_ r2 ∧ Below w.heap.size w w' := by
  unfold impl_matches.f at h
  by_cases hc : (l0.all okOrder = true ∧ l1.all okReturn = true) ∧ (ordersB l0 = true ∧ returnsB l1 = true)
  · rw [if_pos hc] at h
    injection h with h
    injection h with h1 h2
    subst h1 h2
    obtain ⟨a1, a2'⟩ := ordersB_in hc.2.1 hc.1.1
    obtain ⟨b1, b2⟩ := returnsB_in hc.2.2 hc.1.2
    exact matches_any A0 c0 l0 A1 c1 l1 a2 w hr0 hc0 hr1 hc1 a1 b1 a2' b2
  · rw [if_neg hc] at h; cases h
end Go.Proofs.Ytlefddghiiigeaa.Q
