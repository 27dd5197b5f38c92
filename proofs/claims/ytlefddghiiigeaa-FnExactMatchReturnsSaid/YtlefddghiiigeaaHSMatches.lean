/- spec's l06Matches: what it returns is runS. -/
import Derived.Test.YtlefddghiiigeaaHMat0
import Derived.Test.YtlefddghiiigeaaRows2
set_option linter.unusedVariables false
set_option linter.unusedSimpArgs false
namespace Go.Proofs.Ytlefddghiiigeaa.Q
open Go.RowKit Go.Proofs.YtlefddghiiigeaaW.PrintWords Go.Proofs.YtlefddghiiigeaaW.PrintLast Go.Proofs.YtlefddghiiigeaaW.PrintMore
theorem l00Min_is (a b : Int) (w : World) : Calls Try.prog 37 #[.int .i64 a, .int .i64 b] w fun e w' => e = .returned (.int .i64 (min a b)) ∧ w = w' := by
  by_cases h : a < b
  · have hm : min a b = a := by omega
    rw [hm]
    clear hm
    go_enter Try.func37, Try.ntmps37
    go_wp2
    go_ret
    exact ⟨rfl, rfl⟩
  · have hm : min a b = b := by omega
    rw [hm]
    clear hm
    go_enter Try.func37, Try.ntmps37
    go_wp2
    go_ret
    exact ⟨rfl, rfl⟩
/-- The matches, and how many pieces the orders have. -/
structure Sp (base g9 n : Nat) (w0 w : World) (v : Value) (xs : List S53) (h : List Int) : Prop where
  out : Kd.R k53 53 w base (fun k => k ≠ g9) v xs
  hav : ∀ j, j < n → w.cell? ⟨g9, j, none⟩ = some (.int .i16 (h.getD j 0)) ∧ w.frozen? ⟨g9, j, none⟩ = false
  lt : g9 < w.heap.size
  le : base ≤ g9
  below : Below base w0 w
  len : h.length = n
section
variable {base g9 n : Nat} {w0 w w1 : World} {v v1 : Value} {xs xs1 : List S53} {h : List Int}
theorem Sp.via (H : Sp base g9 n w0 w v xs h) (hb : Below w.heap.size w w1) : Sp base g9 n w0 w1 v xs h :=
  ⟨Kd.R_below H.out hb, fun j hj => by rw [cell_block (hb.block g9 H.lt), frozen_block (hb.block g9 H.lt)]; exact H.hav j hj, Nat.lt_of_lt_of_le H.lt hb.size, H.le, H.below.trans (hb.mono (Nat.le_trans H.le (Nat.le_of_lt H.lt))), H.len⟩
theorem Sp.drewN (H : Sp base g9 n w0 w v xs h) (m : Nat) : Sp base g9 n w0 (w.drewN m) v xs h := H.via (pw_below_drewN (Below.refl _ _) m)
theorem Sp.app (H : Sp base g9 n w0 w v xs h) (hR : Kd.R k53 53 w1 base (fun k => k ≠ g9) v1 xs1) (hB : Below base w0 w1) (hg : w.grownBy w1 v.ownBlock) : Sp base g9 n w0 w1 v1 xs1 h := by
  have hk := hg.block g9 H.lt (fun e => H.out.1 g9 e.symm rfl)
  exact ⟨hR, fun j hj => by rw [cell_block hk, frozen_block hk]; exact H.hav j hj, Nat.lt_of_lt_of_le H.lt hg.size, H.le, hB, H.len⟩
theorem Sp.set (H : Sp base g9 n w0 w v xs h) (i : Nat) (hi : i < n) (x : Int) : Sp base g9 n w0 (w.setCell ⟨g9, i, none⟩ (.int .i16 x)) v xs (h.set i x) := by
  have hg := setCell_grown w g9 i (.int .i16 x)
  refine ⟨Kd.R_grown H.out hg (fun k hk e => hk (by injection e)), fun j hj => ?_, by rw [World.size_setCell]; exact H.lt, H.le, H.below.setCell H.le _, by rw [List.length_set]; exact H.len⟩
  obtain ⟨h1, h2⟩ := H.hav j hj
  refine ⟨?_, by rw [World.frozen?_setCell]; exact h2⟩
  rw [getD_set]
  by_cases e : i = j
  · subst e
    rw [if_pos ⟨rfl, by rw [H.len]; exact hi⟩]
    exact World.cell?_setCell_same _ _ _ h1
  · rw [if_neg (fun q => e q.1), World.cell?_setCell_other _ _ _ _ (show (⟨g9, i, none⟩ : Addr) ≠ ⟨g9, j, none⟩ by intro q; injection q with q1 q2; exact e q2)]
    exact h1
end
set_option maxHeartbeats 40000000 in
set_option maxRecDepth 1000000 in
theorem l06Matches_any (A : Option Addr) (c : Nat) (l : List S55) (A1 : Option Addr) (c1 : Nat) (m : List S50) (days : Int) (w : World) (hr : Kd.C k55 w A l.length l) (hc : l.length ≤ c) (hr1 : Kd.C k50 w A1 m.length m) (hc1 : m.length ≤ c1)
    (hl : l.length ≤ 40) (hm : m.length ≤ 40) (hlo : ∀ x ∈ l, okOrder x = true ∧ 0 ≤ x.f2 ∧ x.f2 ≤ 100) (hmo : ∀ x ∈ m, okReturn x = true ∧ 0 ≤ x.f2 ∧ x.f2 ≤ 100) :
    Calls Try.prog 25 #[.slice A l.length c, .slice A1 m.length c1, .int .i64 days] w fun e w' => ∃ v0 : Value, e = .returned v0 ∧ Kd.R k53 53 w' w.heap.size (fun _ => True) v0 (runS l m days).o ∧ Below w.heap.size w w' := by
  have HR := Aside0.mk hr
  have HR1 := Aside0.mk hr1
  have HLO := Aside0.mk hlo
  have HMO := Aside0.mk hmo
  clear hr hr1 hlo hmo
  obtain ⟨wo, hwo⟩ : ∃ wo, wo = w.alloc (.cells #[] 53) := ⟨_, rfl⟩
  have hsz : Aside0 (wo.heap.size = w.heap.size + 1) := ⟨by rw [hwo]; simp⟩
  have HBw : Aside0 (Below w.heap.size w wo) := ⟨by rw [hwo]; exact (Below.refl _ _).alloc (Nat.le_refl _) _⟩
  have HR0 : Aside0 (Kd.R k53 53 wo w.heap.size (fun k => k < wo.heap.size) (.slice (some ⟨w.heap.size, 0, none⟩) 0 0) []) := ⟨by rw [hwo]; exact R_empty _ _ _ _ _ _ rfl (Nat.le_refl _) (by simp)⟩
  have HWO := Aside0.mk hwo
  clear hwo
  go_enter Try.func25, Try.ntmps25
  go_upto_region 2 with fail
  rw [← HWO.out]
  go_wp2_with fail
  have HH0 : Aside0 (Kd.R (Kd.int .i16) 48 (wo.alloc (.cells #[] 48)) w.heap.size (fun k => wo.heap.size ≤ k) (.slice (some ⟨wo.heap.size, 0, none⟩) 0 0) ((l.take 0).map (·.f2))) := ⟨R_empty _ _ _ _ _ _ rfl (by have := hsz.out; omega) (Nat.le_refl _)⟩
  have hwC : Aside0 (Below wo.heap.size wo (wo.alloc (.cells #[] 48))) := ⟨(Below.refl _ _).alloc (Nat.le_refl _) _⟩
  have hss : Aside0 (wo.heap.size < (wo.alloc (.cells #[] 48)).heap.size) := ⟨by simp⟩
  go_loopg [8, 9] l.length (fun gg v8 v9 wr => ∃ (k : Nat), k ≤ l.length ∧ l.length - k ≤ gg ∧ v9 = .int .i64 k ∧ Aside0 (Kd.R (Kd.int .i16) 48 wr w.heap.size (fun k => wo.heap.size ≤ k) v8 ((l.take k).map (·.f2))) ∧ Aside0 (Below wo.heap.size wo wr) ∧ Aside0 (wo.heap.size < wr.heap.size))
  case atStart => exact ⟨0, by omega, by omega, rfl, HH0, hwC, hss⟩
  case round =>
    clear HH0 hwC hss
    obtain ⟨k, hk, hgg, rfl, HH, HBo, hss⟩ := hrel
    have HBr : Aside0 (Below w.heap.size w wr) := ⟨HBw.out.trans (HBo.out.mono HBw.out.size)⟩
    by_cases hlt : k < l.length
    · have hltz : (k : Int) < (l.length : Int) := by omega
      obtain ⟨ad, eA, x0, x1, x2, x3, x4⟩ := at_T55 (Kd.C_below HR.out HBr.out) (k : Int) (by omega) (by omega)
      simp only [rd_T55, Int.toNat_natCast] at x0 x1 x2 x3 x4
      have HN := Aside0.mk (take_map_snoc l k hlt)
      generalize l.getD k z55 = o at *
      obtain ⟨o0, o1, o2, o3, o4⟩ := o
      simp only at x0 x1 x2 x3 x4
      subst eA
      have hlen : ((l.take k).map (·.f2)).length = k := by rw [List.length_map, List.length_take]; omega
      obtain ⟨hs, hhs⟩ : ∃ hs, (l.take k).map (·.f2) = hs := ⟨_, rfl⟩
      rw [hhs] at hlen HH HN
      clear hhs x0 x1 x3 x4
      go_wp2_with (at_builtin; refine Kd.R_append (Kd.int .i16) (w0 := w) w.heap.size rfl (.tmp 23) (.tmp 29) 69 48 (.int .i16 0) 2 rfl Try.underlying69 infoI16m rfl (by decide) (by omega) u8 hs o2 [.int .i16 o2] (fun k => wo.heap.size ≤ k) (fun _ => False) rfl rfl rfl (fun _ h => h.elim) (fun k hk => Nat.le_trans (Nat.le_of_lt hss.out) hk) HH.out HBr.out HBr.out.size (by omega) ?_; intro v9 w9 hR9 hB9 hg9 hat9)
      have HX9 : Aside0 (Below wo.heap.size wo w9) := ⟨HBo.out.grown hg9 (Nat.le_of_lt hss.out) (fun j hj => HH.out.1 j hj)⟩
      have HR9 := Aside0.mk (HN.out ▸ hR9)
      have hs9 : Aside0 (wo.heap.size < w9.heap.size) := ⟨Nat.lt_of_lt_of_le hss.out hg9.size⟩
      clear hR9 hB9 hg9 hat9
      go_wp2
      go_roundg (l.length - (k + 1))
      case measure => omega
      case rel => exact ⟨k + 1, by omega, by omega, by go_num, HR9, HX9, hs9⟩
    · have hltz : ¬ (k : Int) < (l.length : Int) := by omega
      have hkl : k = l.length := by omega
      rw [show (l.take k).map (·.f2) = l.map (·.f2) by rw [hkl, List.take_length]] at HH
      clear hkl
      have HR7 : Aside0 (Kd.R k53 53 wr w.heap.size (fun k => k < wo.heap.size) (.slice (some ⟨w.heap.size, 0, none⟩) 0 0) []) := ⟨Kd.R_step HR0.out (fun k hk _ => HBo.out.block k hk)⟩
      have hL : ∃ g9, (0 < l.length → ∃ c9, u8 = .slice (some ⟨g9, 0, none⟩) l.length c9) ∧ Aside0 (Sp w.heap.size g9 l.length w wr (.slice (some ⟨w.heap.size, 0, none⟩) 0 0) [] (l.map (·.f2))) := by
        by_cases hn : 0 < l.length
        · obtain ⟨g9, c9, e9, hg9b, hg9, cells9, hcells9⟩ := Kd.R_form HH.out (by rw [List.length_map]; exact hn)
          rw [List.length_map] at e9
          subst e9
          have hwo : wo.heap.size ≤ g9 := HH.out.1 g9 rfl
          refine ⟨g9, fun _ => ⟨c9, rfl⟩, ⟨Kd.R_mono HR7.out (fun k hk => by omega), fun j hj => ?_, hg9, hg9b, HBr.out, by rw [List.length_map]⟩⟩
          obtain ⟨ce, hcl, hM, hcc, hfr⟩ := Kd.R_elem HH.out 0 (j : Int) (by omega) (by omega)
          rw [Int.toNat_natCast] at hcc hfr hM
          obtain rfl : ce = [.int .i16 ((l.map (·.f2)).getD j 0)] := hM
          have h1 := hcc 0 _ rfl
          have h2 := hfr 0
          rw [show (Kd.int .i16).sz = 1 from rfl, Nat.mul_one, Nat.add_zero] at h1 h2
          exact ⟨h1, h2⟩
        · exact ⟨wo.heap.size, fun h => absurd h hn, ⟨Kd.R_mono HR7.out (fun k hk => by omega), fun j hj => by omega, hss.out, by have := hsz.out; omega, HBr.out, by rw [List.length_map]⟩⟩
      obtain ⟨g9, hv9, HS0⟩ := hL
      have HV9 := Aside0.mk hv9
      have HM0 : Aside0 (MOk l.length (0 * 100) ⟨l.map (·.f2), [], 0⟩) := ⟨⟨by rw [List.length_map], fun j => by
        by_cases hj : j < l.length
        · show 0 ≤ (l.map (·.f2)).getD j 0 ∧ (l.map (·.f2)).getD j 0 ≤ 100
          rw [List.getD_eq_getElem?_getD, List.getElem?_map, List.getElem?_eq_getElem hj]
          have := (HLO.out _ (List.getElem_mem hj)).2
          exact this
        · show 0 ≤ (l.map (·.f2)).getD j 0 ∧ (l.map (·.f2)).getD j 0 ≤ 100
          rw [List.getD_eq_getElem?_getD, List.getElem?_eq_none (by rw [List.length_map]; omega)]
          exact ⟨by decide, by decide⟩, by show (0 : Int) ≤ 0; omega, by show (0 : Int) ≤ 100; omega, by show 0 ≤ _; omega⟩⟩
      have HRn : Aside0 ((List.range' 0 (m.length - 0)).foldl (stepS l m days) ⟨l.map (·.f2), [], 0⟩ = runS l m days) := ⟨by unfold runS; rw [Nat.sub_zero]⟩
      clear hv9 HH HBr HBo HR7
      go_wp2_with fail
      go_loopg [7, 10] m.length (fun gg v7 v10 wr2 => ∃ (k : Nat) (s : MS), k ≤ m.length ∧ m.length - k ≤ gg ∧ v10 = .int .i64 k ∧ Aside0 (Sp w.heap.size g9 l.length w wr2 v7 s.o s.h) ∧ Aside0 (MOk l.length (k * 100) s) ∧ Aside0 ((List.range' k (m.length - k)).foldl (stepS l m days) s = runS l m days))
      case atStart => exact ⟨0, ⟨l.map (·.f2), [], 0⟩, by omega, by omega, rfl, HS0, HM0, HRn⟩
      case round =>
        clear HS0 HM0 HRn
        obtain ⟨k2, s, hk2, hgg2, rfl, HS, HM, HF⟩ := hrel
        by_cases hlt2 : k2 < m.length
        · have hltz2 : (k2 : Int) < (m.length : Int) := by omega
          obtain ⟨ad1, eA1, y0, y1, y2, y3⟩ := at_T50 (Kd.C_below HR1.out HS.out.below) (k2 : Int) (by omega) (by omega)
          simp only [rd_T50, Int.toNat_natCast] at y0 y1 y2 y3
          have hmem : m.getD k2 z50 ∈ m := by rw [List.getD_eq_getElem?_getD, List.getElem?_eq_getElem hlt2]; exact List.getElem_mem hlt2
          have hbr := HMO.out _ hmem
          rw [show m.length - k2 = (m.length - (k2 + 1)) + 1 by omega, range'_cons, List.foldl_cons] at HF
          rw [show stepS l m days s k2 = oneS l (m.getD k2 z50) k2 days 100 ⟨s.h, s.o, (m.getD k2 z50).f2⟩ from rfl] at HF
          obtain ⟨r, hrr⟩ : ∃ r, m.getD k2 z50 = r := ⟨_, rfl⟩
          rw [hrr] at y0 y1 y2 y3 hbr HF
          obtain ⟨r0, r1, r2, r3⟩ := r
          have HG := Aside0.mk hrr
          simp only at y0 y1 y2 y3 HF
          obtain ⟨hrok, hrl, hrh⟩ := hbr
          have hrk := okReturn_iff.1 hrok
          simp only at hrl hrh hrk
          clear hmem hrok hrr
          obtain ⟨T, hT⟩ : ∃ T, oneS l ⟨r0, r1, r2, r3⟩ k2 days 100 ⟨s.h, s.o, r2⟩ = T := ⟨_, rfl⟩
          rw [hT] at HF
          have HT0 : Aside0 (∀ f, r2.toNat ≤ f → oneS l ⟨r0, r1, r2, r3⟩ k2 days f ⟨s.h, s.o, r2⟩ = T) := ⟨fun f hf => by rw [← hT]; exact oneS_fuel _ _ _ _ _ _ _ hf (by simp only; omega)⟩
          have HM1 : Aside0 (MOk l.length (k2 * 100 + (100 - r2.toNat)) ⟨s.h, s.o, r2⟩) := ⟨⟨HM.out.len, HM.out.hv, hrl, hrh, Nat.le_trans HM.out.out (by omega)⟩⟩
          clear hT
          subst eA1
          clear y0 y1 y3
          go_wp2_with fail
          go_loopg [7, 11] r2.toNat (fun gg v7 v11 w3 => ∃ (s' : MS), v11 = .int .i16 s'.left ∧ s'.left.toNat ≤ gg ∧ Aside0 (Sp w.heap.size g9 l.length w w3 v7 s'.o s'.h) ∧ Aside0 (MOk l.length (k2 * 100 + (100 - s'.left.toNat)) s') ∧ Aside0 (∀ f, s'.left.toNat ≤ f → oneS l ⟨r0, r1, r2, r3⟩ k2 days f s' = T))
          case atStart => exact ⟨⟨s.h, s.o, r2⟩, rfl, Nat.le_refl _, HS, HM1, HT0⟩
          case round =>
            clear HS HM HT0 HM1 y2
            obtain ⟨s', e11, hg3, HS, HM, HTf⟩ := hrel
            obtain ⟨h', o', lf⟩ := s'
            simp only at e11 hg3 HS
            subst e11
            have hhb := HM.out.hv
            have hl0' := HM.out.l0
            have hl1' := HM.out.l1
            have hout := HM.out.out
            simp only at hhb hl0' hl1' hout
            have HHB := Aside0.mk hhb
            clear hhb
            by_cases hlf : 0 < lf
            · obtain ⟨W3, hW3⟩ : ∃ W3, W3 = wr := ⟨_, rfl⟩
              rw [← hW3] at HS ⊢
              clear hW3 wr
              have HBI : Aside0 (Best l h' ⟨r0, r1, r2, r3⟩ days 0 (-1)) := ⟨⟨fun _ => ⟨rfl, fun j hj => by omega⟩, fun e => by omega⟩⟩
              go_wp2
              go_loopg [12, 13] l.length (fun gg v12 v13 w4 => ∃ (i : Nat) (b : Int) (p : Nat), i ≤ l.length ∧ l.length - i ≤ gg ∧ v12 = .int .i64 b ∧ v13 = .int .i64 i ∧ w4 = W3.drewN p ∧ Aside0 (Best l h' ⟨r0, r1, r2, r3⟩ days i b) ∧ Aside0 ((List.range' i (l.length - i)).foldl (bestStep l h' ⟨r0, r1, r2, r3⟩ days) b = bestS l h' ⟨r0, r1, r2, r3⟩ days))
              case atStart => exact ⟨0, -1, 0, by omega, by omega, rfl, rfl, rfl, HBI, ⟨rfl⟩⟩
              case round =>
                clear HBI
                obtain ⟨i, b, p, hi, hgi, rfl, rfl, hw4, HB, HBF⟩ := hrel
                have HS4 : Aside0 (Sp w.heap.size g9 l.length w wr u7 o' h') := ⟨by rw [hw4]; exact HS.out.drewN p⟩
                have HW4 := Aside0.mk hw4
                clear hw4
                by_cases hil : i < l.length
                · have hilz : (i : Int) < (l.length : Int) := by omega
                  obtain ⟨c9, hu8⟩ := HV9.out (by omega)
                  subst hu8
                  obtain ⟨ad1', eA1, y0, y1, y2, y3⟩ := at_T50 (Kd.C_below HR1.out HS4.out.below) (k2 : Int) (by omega) (by omega)
                  injection eA1 with eA1
                  subst eA1
                  simp only [rd_T50, Int.toNat_natCast] at y0 y1 y3
                  rw [HG.out] at y0 y1 y3
                  simp only at y0 y1 y3
                  obtain ⟨ad, eA, x0, x1, x2, x3, x4⟩ := at_T55 (Kd.C_below HR.out HS4.out.below) (i : Int) (by omega) (by omega)
                  simp only [rd_T55, Int.toNat_natCast] at x0 x1 x4
                  have hmem : l.getD i z55 ∈ l := by rw [List.getD_eq_getElem?_getD, List.getElem?_eq_getElem hil]; exact List.getElem_mem hil
                  have hbo := okOrder_iff.1 (HLO.out _ hmem).1
                  rw [show l.length - i = (l.length - (i + 1)) + 1 by omega, range'_cons, List.foldl_cons] at HBF
                  obtain ⟨b', hb'⟩ : ∃ b', bestStep l h' ⟨r0, r1, r2, r3⟩ days b i = b' := ⟨_, rfl⟩
                  have HBS : Aside0 (Best l h' ⟨r0, r1, r2, r3⟩ days (i + 1) b') := ⟨by rw [← hb']; exact HB.out.step⟩
                  rw [hb'] at HBF
                  have hbe : Aside0 (b' = if (0 < h'.getD i 0 ∧ canB (l.getD i z55) ⟨r0, r1, r2, r3⟩ days = true) ∧ (b < 0 ∨ (l.getD i z55).f4 < (l.getD b.toNat z55).f4) then (i : Int) else b) := ⟨hb'.symm⟩
                  obtain ⟨yo, hyo⟩ : ∃ yo, l.getD i z55 = yo := ⟨_, rfl⟩
                  rw [hyo] at x0 x1 x4 hbo hbe
                  have HYO := Aside0.mk hyo
                  obtain ⟨f0, f1, f2, f3, f4⟩ := yo
                  simp only at x0 x1 x4 hbo hbe
                  obtain ⟨ch, fh⟩ := HS4.out.hav i hil
                  obtain ⟨hv, hhv⟩ : ∃ hv, h'.getD i 0 = hv := ⟨_, rfl⟩
                  rw [hhv] at ch hbe
                  subst eA
                  clear hmem hyo hb' hhv fh x2 x3 y2
                  have hx0 : ∀ n', (wr.drewN n').cell? (ad.add (i * 5)) = some (.int .i8 f0) := fun _ => x0
                  have cQ : ∀ n', Calls Try.prog 36 #[.pointer (some (ad.add (i * 5))), .pointer (some (ad1.add (k2 * 4))), .int .i64 days] (wr.drewN n') fun e w' => e = .returned (.bool (canB ⟨f0, f1, f2, f3, f4⟩ ⟨r0, r1, r2, r3⟩ days)) ∧ ∃ q, w' = (wr.drewN n').drewN q := fun n' => l06Can_is _ _ ⟨f0, f1, f2, f3, f4⟩ ⟨r0, r1, r2, r3⟩ days _ (by simp only; omega) (by simp only; omega) x0 x1 x4 y0 y1 y3
                  clear x0 x1 y0 y1 y3 hx0
                  by_cases hv0 : 0 < hv
                  · cases hcb : canB ⟨f0, f1, f2, f3, f4⟩ ⟨r0, r1, r2, r3⟩ days with
                    | false =>
                      rw [hcb] at cQ hbe
                      obtain rfl : b' = b := by rw [hbe.out, if_neg (fun q => by cases q.1.2)]
                      clear hcb hbe x4
                      go_wp2_with fail
                      go_quiet ((go_at_call 36; exact Calls.quiet_of (cQ _)))
                      go_wp2
                      go_roundg (l.length - (i + 1))
                      case measure => omega
                      case rel => exact ⟨i + 1, b', _, by omega, by omega, rfl, by go_num, by rw [HW4.out, World.drewN_drewN], HBS, HBF⟩
                    | true =>
                      rw [hcb] at cQ hbe
                      clear hcb
                      by_cases hb0 : b < 0
                      · obtain rfl : b' = (i : Int) := by rw [hbe.out, if_pos ⟨⟨hv0, rfl⟩, .inl hb0⟩]
                        clear hbe x4
                        go_wp2_with fail
                        go_quiet ((go_at_call 36; exact Calls.quiet_of (cQ _)))
                        go_wp2
                        go_roundg (l.length - (i + 1))
                        case measure => omega
                        case rel => exact ⟨i + 1, (i : Int), _, by omega, by omega, rfl, by go_num, by rw [HW4.out, World.drewN_drewN], HBS, HBF⟩
                      · have hbk := (HB.out.some (by omega)).1
                        obtain ⟨bn, rfl⟩ : ∃ bn : Nat, b = bn := ⟨b.toNat, by omega⟩
                        rw [Int.toNat_natCast] at hbk hbe
                        obtain ⟨ad', eA, z0, z1, z2, z3, z4⟩ := at_T55 (Kd.C_below HR.out HS4.out.below) (bn : Int) (by omega) (by omega)
                        injection eA with eA
                        subst eA
                        simp only [rd_T55, Int.toNat_natCast] at z4
                        obtain ⟨gd, hgd⟩ : ∃ gd, (l.getD bn z55).f4 = gd := ⟨_, rfl⟩
                        rw [hgd] at z4 hbe
                        have hbnz : (bn : Int) < (l.length : Int) := by omega
                        clear z0 z1 z2 z3 hgd
                        by_cases hdd : f4 < gd
                        · obtain rfl : b' = (i : Int) := by rw [hbe.out, if_pos ⟨⟨hv0, rfl⟩, .inr hdd⟩]
                          clear hbe
                          go_wp2_with fail
                          go_quiet ((go_at_call 36; exact Calls.quiet_of (cQ _)))
                          go_wp2
                          go_roundg (l.length - (i + 1))
                          case measure => omega
                          case rel => exact ⟨i + 1, (i : Int), _, by omega, by omega, rfl, by go_num, by rw [HW4.out, World.drewN_drewN], HBS, HBF⟩
                        · obtain rfl : b' = (bn : Int) := by rw [hbe.out, if_neg (fun q => by rcases q.2 with q | q; exact hb0 q; exact hdd q)]
                          clear hbe
                          go_wp2_with fail
                          go_quiet ((go_at_call 36; exact Calls.quiet_of (cQ _)))
                          go_wp2
                          go_roundg (l.length - (i + 1))
                          case measure => omega
                          case rel => exact ⟨i + 1, (bn : Int), _, by omega, by omega, rfl, by go_num, by rw [HW4.out, World.drewN_drewN], HBS, HBF⟩
                  · obtain rfl : b' = b := by rw [hbe.out, if_neg (fun q => hv0 q.1.1)]
                    clear hbe x4 cQ
                    have hvd : decide (0 < hv) = false := decide_eq_false hv0
                    have hvd2 : decide (hv > 0) = false := decide_eq_false hv0
                    go_wp2_with fail
                    go_quiet (fail)
                    go_wp2
                    go_roundg (l.length - (i + 1))
                    case measure => omega
                    case rel => exact ⟨i + 1, b', _, by omega, by omega, rfl, by go_num, by rw [HW4.out, World.drewN_drewN], HBS, HBF⟩
                · have hilz : ¬ (i : Int) < (l.length : Int) := by omega
                  have hbb : b = bestS l h' ⟨r0, r1, r2, r3⟩ days := by rw [← HBF.out, show l.length - i = 0 by omega]; rfl
                  clear HBF hil hgi
                  by_cases hb0 : b < 0
                  · have HE : Aside0 (⟨h', o', lf⟩ = T) := ⟨by rw [← HTf.out (lf.toNat + 1) (by first | omega | (simp only; omega)), oneS, if_pos (by first | omega | (simp only; omega)), if_pos (by rw [← hbb]; exact hb0)]⟩
                    rw [← HE.out] at HF
                    have HM2 : Aside0 (MOk l.length ((k2 + 1) * 100) ⟨h', o', lf⟩) := ⟨⟨HM.out.len, HM.out.hv, HM.out.l0, HM.out.l1, Nat.le_trans HM.out.out (by omega)⟩⟩
                    clear HE HTf HM hbb HB
                    go_wp2
                    go_roundg (m.length - (k2 + 1))
                    case measure => omega
                    case rel => exact ⟨k2 + 1, ⟨h', o', lf⟩, by omega, by omega, by go_num, HS4, HM2, HF⟩
                  · have hB := bestS_is l h' ⟨r0, r1, r2, r3⟩ days
                    rw [← hbb] at hB
                    obtain ⟨hbk, ⟨hbp, _⟩, _⟩ := hB.some (by omega)
                    obtain ⟨bn, rfl⟩ : ∃ bn : Nat, b = bn := ⟨b.toNat, by omega⟩
                    rw [Int.toNat_natCast] at hbk hbp
                    have HEX : Aside0 (∀ f, oneS l ⟨r0, r1, r2, r3⟩ k2 days (f + 1) ⟨h', o', lf⟩ = oneS l ⟨r0, r1, r2, r3⟩ k2 days f ⟨h'.set bn (h'.getD bn 0 - min lf (h'.getD bn 0)), o' ++ [⟨(k2 : Int), (bn : Int), min lf (h'.getD bn 0)⟩], lf - min lf (h'.getD bn 0)⟩) := ⟨fun f => by
                      rw [oneS, if_pos (by first | omega | (simp only; omega)), if_neg (by rw [← hbb]; exact hb0)]
                      simp only
                      rw [← hbb, Int.toNat_natCast]⟩
                    have hhv := HHB.out bn
                    obtain ⟨ch, fh⟩ := HS4.out.hav bn hbk
                    obtain ⟨hv, hvv⟩ : ∃ hv, h'.getD bn 0 = hv := ⟨_, rfl⟩
                    obtain ⟨mu, hmu⟩ : ∃ mu, min lf hv = mu := ⟨_, rfl⟩
                    rw [hvv] at hhv ch hbp HEX
                    rw [hmu] at HEX
                    have hmu0 : 0 < mu ∧ mu ≤ lf ∧ mu ≤ hv := by omega
                    obtain ⟨m1, m2, m3⟩ := hmu0
                    have HT2 : Aside0 (∀ f, (lf - mu).toNat ≤ f → oneS l ⟨r0, r1, r2, r3⟩ k2 days f ⟨h'.set bn (hv - mu), o' ++ [⟨(k2 : Int), (bn : Int), mu⟩], lf - mu⟩ = T) := ⟨fun f hf => by
                      rw [oneS_fuel _ _ _ _ f lf.toNat _ hf (by first | omega | (simp only; omega)), ← HEX.out]
                      exact HTf.out _ (by first | omega | (simp only; omega))⟩
                    have HM2 : Aside0 (MOk l.length (k2 * 100 + (100 - (lf - mu).toNat)) ⟨h'.set bn (hv - mu), o' ++ [⟨(k2 : Int), (bn : Int), mu⟩], lf - mu⟩) := ⟨⟨by show (List.set _ _ _).length = _; rw [List.length_set]; exact HM.out.len, fun j => by
                      show 0 ≤ (h'.set bn (hv - mu)).getD j 0 ∧ (h'.set bn (hv - mu)).getD j 0 ≤ 100
                      rw [getD_set]
                      split
                      · omega
                      · exact HHB.out j, by show 0 ≤ lf - mu; omega, by show lf - mu ≤ 100; omega, by show (o' ++ [_]).length ≤ _; rw [List.length_append, List.length_singleton]; omega⟩⟩
                    have HCM : Aside0 (∀ W, Calls Try.prog 37 #[.int .i64 lf, .int .i64 hv] W fun e w' => e = .returned (.int .i64 mu) ∧ W = w') := ⟨fun W => by rw [← hmu]; exact l00Min_is lf hv W⟩
                    obtain ⟨c9, hu8⟩ := HV9.out (by omega)
                    subst hu8
                    have e1 : IntKind.i64.wrap lf = lf := IntWalk.i64_in _ (by omega)
                    have e2 : IntKind.i64.wrap hv = hv := IntWalk.i64_in _ (by omega)
                    have e3 : IntKind.i16.wrap mu = mu := IntWalk.i16_in _ (by omega)
                    have e4 : IntKind.i16.wrap (lf - mu) = lf - mu := IntWalk.i16_in _ (by omega)
                    have e5 : IntKind.i16.wrap (hv - mu) = hv - mu := IntWalk.i16_in _ (by omega)
                    have e6 : IntKind.i8.wrap (k2 : Int) = (k2 : Int) := IntWalk.i8_in _ (by omega)
                    have e7 : IntKind.i8.wrap (bn : Int) = (bn : Int) := IntWalk.i8_in _ (by omega)
                    have hbnz : (bn : Int) < (l.length : Int) := by omega
                    have HSU : Aside0 (Sp w.heap.size g9 l.length w (wr.setCell ⟨g9, bn, none⟩ (.int .i16 (hv - mu))) u7 o' (h'.set bn (hv - mu))) := ⟨HS4.out.set bn hbk _⟩
                    have hsU : w.heap.size ≤ (wr.setCell ⟨g9, bn, none⟩ (.int .i16 (hv - mu))).heap.size := HSU.out.below.size
                    have hoU : o'.length + 1 ≤ 10000 := by omega
                    have HSUS := Aside0.mk hsU
                    clear HEX HTf HM hbb HB hB hvv hmu hsU hhv
                    go_wp2_with (first
                      | (go_at_call 37; refine (HCM.out _).mono ?_; rintro e wm ⟨rfl, rfl⟩)
                      | (at_builtin; refine Kd.R_append k53 (w0 := w) w.heap.size rfl (.tmp 104) (.tmp 111) 40 53 (.agg #[(.int .i8 0), (.int .i8 0), (.int .i16 0)]) 4 rfl Try.underlying40 info53 rfl (by decide) (by omega) _ o' (⟨(k2 : Int), (bn : Int), mu⟩ : S53) [.int .i8 (k2 : Int), .int .i8 (bn : Int), .int .i16 mu] (fun k => k ≠ g9) (fun _ => False) rfl (by first | rfl | go_simp) (k53_mkM _ _ _ _) (fun _ h => h.elim) (fun k hk e => by have := HSU.out.lt; omega) HSU.out.out HSU.out.below HSUS.out (by omega) ?_; intro v1 w8 hO8 hB8 hg8' hat8; have HS8 := Aside0.mk (HSU.out.app hO8 hB8 hg8'); clear hO8 hB8 hg8' hat8))
                    go_roundg ((lf - mu).toNat)
                    case measure => omega
                    case rel => exact ⟨⟨h'.set bn (hv - mu), o' ++ [⟨(k2 : Int), (bn : Int), mu⟩], lf - mu⟩, rfl, Nat.le_refl _, HS8, HM2, HT2⟩
            · have HE : Aside0 (⟨h', o', lf⟩ = T) := ⟨by rw [← HTf.out (lf.toNat + 1) (by first | omega | (simp only; omega)), oneS, if_neg (by first | omega | (simp only; omega))]⟩
              rw [← HE.out] at HF
              have HM2 : Aside0 (MOk l.length ((k2 + 1) * 100) ⟨h', o', lf⟩) := ⟨⟨HM.out.len, HM.out.hv, HM.out.l0, HM.out.l1, Nat.le_trans HM.out.out (by omega)⟩⟩
              clear HE HTf HM
              go_wp2
              go_roundg (m.length - (k2 + 1))
              case measure => omega
              case rel => exact ⟨k2 + 1, ⟨h', o', lf⟩, by omega, by omega, by go_num, HS, HM2, HF⟩
        · have hltz2 : ¬ (k2 : Int) < (m.length : Int) := by omega
          have HE : Aside0 (s = runS l m days) := ⟨by rw [← HF.out, show m.length - k2 = 0 by omega]; rfl⟩
          go_wp2
          go_ret
          rw [← HE.out]
          exact ⟨_, rfl, Kd.R_mono HS.out.out (fun _ _ => trivial), HS.out.below⟩
def spec_l06Matches.f (l0 : List (S55)) (l1 : List (S50)) (a2 : Int) : Option ((List (S53))) :=
  if (l0.all okOrder = true ∧ l1.all okReturn = true) ∧ (ordersB l0 = true ∧ returnsB l1 = true) then some (runS l0 l1 a2).o else none
theorem spec_l06Matches.calls (A0 : Option Addr) (c0 : Nat) (l0 : List (S55)) (A1 : Option Addr) (c1 : Nat) (l1 : List (S50)) (a2 : Int) (r : List (S53)) (w : World) (hr0 : Kd.C k55 w A0 l0.length l0) (hc0 : l0.length ≤ c0) (hr1 : Kd.C k50 w A1 l1.length l1) (hc1 : l1.length ≤ c1) (h : spec_l06Matches.f l0 l1 a2 = some r) :
    Calls Try.prog 25 #[.slice A0 l0.length c0, .slice A1 l1.length c1, .int .i64 a2] w fun e w' => ∃ v0_ : Value, e = .returned (v0_) ∧ Kd.R k53 53 w' w.heap.size (fun _ => True) v0_ r ∧ Below w.heap.size w w' := by
  unfold spec_l06Matches.f at h
  by_cases hc : (l0.all okOrder = true ∧ l1.all okReturn = true) ∧ (ordersB l0 = true ∧ returnsB l1 = true)
  · rw [if_pos hc] at h
    injection h with h
    subst h
    obtain ⟨a1, a2'⟩ := ordersB_in hc.2.1 hc.1.1
    obtain ⟨b1, b2⟩ := returnsB_in hc.2.2 hc.1.2
    exact l06Matches_any A0 c0 l0 A1 c1 l1 a2 w hr0 hc0 hr1 hc1 a1 b1 a2' b2
  · rw [if_neg hc] at h; cases h
end Go.Proofs.Ytlefddghiiigeaa.Q
