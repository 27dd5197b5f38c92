/- spec's IsLate. -/
import Derived.Test.YticfecncdpdanaaHIsLate
import Derived.Test.YticfecncdpdanaaHSBad
set_option linter.unusedVariables false
set_option linter.unusedSimpArgs false
namespace Go.Proofs.Yticfecncdpdanaa.Q
open Go.RowKit Go.Proofs.YticfecncdpdanaaW.PrintWords Go.Proofs.YticfecncdpdanaaW.PrintLast Go.Proofs.YticfecncdpdanaaW.PrintMore
def codeF (net fine : Bool) (n : Nat) : Int := if net = true then (if fine = true then (if n ≤ 12 then 0 else 3) else 2) else 1
theorem lateCode_eq (s t : Int) (l : List S44) (ss : List S31) (st pr : Int) : codeF (netB s t l) ((inB st 0 (s - 1) && inB pr 0 300) && scansIn s ss) ss.length = lateCode s t l ss st pr := rfl
set_option maxHeartbeats 4000000 in
set_option maxRecDepth 100000 in
theorem l07ScansF_at {B : Nat} {s t : Int} {l : List S44} {w : World} (hn : NetAt B s t l w) (hok : okNet s t l = true) (A1 : Option Addr) (c1 : Nat) (ss : List S31) (f0 : Bool)
    (hr1 : Kd.C k31 w A1 ss.length ss) (hc1 : ss.length ≤ c1) (hl1 : ss.length ≤ 1048576) (hsc : ∀ x ∈ ss, okScan x = true) :
    Calls Try.prog 53 #[.pointer (some ⟨B, 0, none⟩), .slice A1 ss.length c1, .bool f0] w fun e w' =>
      e = .returned (.int .i64 (codeF (netB s t l) (f0 && scansIn s ss) ss.length)) ∧ Below w.heap.size w w' := by
  have HN := Aside0.mk hn
  have HR1 := Aside0.mk hr1
  have OK := Aside0.mk hok
  have HSC := Aside0.mk hsc
  clear hn hr1 hok hsc
  go_enter Try.func53, Try.ntmps53
  go_wp2
  go_loopg [2, 7] ss.length (fun gg v2 v7 wr => ∃ (kk : Nat) (fine : Bool), kk ≤ ss.length ∧ ss.length - kk ≤ gg ∧ v7 = .int .i64 kk ∧ v2 = .bool fine ∧ Aside0 (Below w.heap.size w wr) ∧ Aside0 ((fine && (ss.drop kk).all (scanIn s)) = (f0 && scansIn s ss)))
  case atStart => exact ⟨0, f0, by omega, by omega, rfl, rfl, ⟨Below.refl _ _⟩, ⟨by rw [scansIn_eq, List.drop_zero]⟩⟩
  case round =>
    obtain ⟨kk, fine, hkk, hg, rfl, rfl, BW, HA⟩ := hrel
    by_cases hlt : kk < ss.length
    · have hltz : (kk : Int) < (ss.length : Int) := by omega
      have e1 := drop_cons_of' ss z31 kk hlt
      obtain ⟨ad, e, hx0, hx1⟩ := at_T31 (Kd.C_below HR1.out BW.out) (kk : Int) (by omega) (by omega)
      have hy := HSC.out (ss.getD kk z31) (by rw [List.getD_eq_getElem?_getD, List.getElem?_eq_getElem hlt]; exact List.getElem_mem hlt)
      simp only [rd_T31, Int.toNat_natCast] at hx0 hx1
      subst e
      generalize ss.getD kk z31 = y at hx0 hx1 hy e1
      obtain ⟨f, g⟩ := y
      simp only at hx0 hx1
      have HY := Aside0.mk hy
      have HD : Aside0 ((fine && (scanIn s ⟨f, g⟩ && (ss.drop (kk + 1)).all (scanIn s))) = (f0 && scansIn s ss)) := ⟨by rw [← HA.out, e1, List.all_cons]⟩
      clear e1 hy HA
      cases fine with
      | false =>
        have HD2 : Aside0 ((false && (ss.drop (kk + 1)).all (scanIn s)) = (f0 && scansIn s ss)) := ⟨by rw [← HD.out]; simp⟩
        go_wp2
        go_roundg (ss.length - (kk + 1))
        case measure => omega
        case rel => exact ⟨kk + 1, false, by omega, by omega, by go_num, rfl, BW, HD2⟩
      | true =>
        go_wp2_with fail
        refine (l07Scan_at (HN.out.below BW.out) OK.out f g HY.out).mono ?_
        rintro e w2 ⟨rfl, hb2⟩
        have BW2 : Aside0 (Below w.heap.size w w2) := ⟨BW.out.trans (hb2.mono BW.out.size)⟩
        have HD2 : Aside0 ((scanIn s ⟨f, g⟩ && (ss.drop (kk + 1)).all (scanIn s)) = (f0 && scansIn s ss)) := ⟨by rw [← HD.out]; simp⟩
        clear hb2
        generalize scanIn s ⟨f, g⟩ = fn at *
        go_wp2
        go_roundg (ss.length - (kk + 1))
        case measure => omega
        case rel => exact ⟨kk + 1, fn, by omega, by omega, by go_num, rfl, BW2, HD2⟩
    · have hltz : ¬ (kk : Int) < (ss.length : Int) := by omega
      have HF : Aside0 (fine = (f0 && scansIn s ss)) := ⟨by rw [← HA.out, List.drop_of_length_le (by omega)]; simp⟩
      go_wp2_with fail
      refine (l07Asked_at (HN.out.below BW.out) OK.out fine).mono ?_
      rintro e w2 ⟨rfl, hb2⟩
      have BW2 : Aside0 (Below w.heap.size w w2) := ⟨BW.out.trans (hb2.mono BW.out.size)⟩
      clear hb2
      cases h1 : netB s t l with
      | false =>
        have ER : Aside0 (codeF (netB s t l) (f0 && scansIn s ss) ss.length = 1) := ⟨by unfold codeF; rw [h1]; rfl⟩
        clear h1
        simp only [codeB, Bool.false_eq_true, if_false]
        go_wp2
        go_ret
        exact ⟨by rw [ER.out]; rfl, BW2.out⟩
      | true =>
        cases fine with
        | false =>
          have ER : Aside0 (codeF (netB s t l) (f0 && scansIn s ss) ss.length = 2) := ⟨by unfold codeF; rw [h1, ← HF.out]; rfl⟩
          clear h1
          simp only [codeB, Bool.false_eq_true, if_false, if_true]
          go_wp2
          go_ret
          exact ⟨by rw [ER.out]; rfl, BW2.out⟩
        | true =>
          by_cases h3 : ss.length ≤ 12
          · have ER : Aside0 (codeF (netB s t l) (f0 && scansIn s ss) ss.length = 0) := ⟨by unfold codeF; rw [h1, ← HF.out, if_pos rfl, if_pos rfl, if_pos h3]⟩
            have h3z : (ss.length : Int) ≤ 12 := by omega
            clear h1
            simp only [codeB, if_true]
            go_wp2
            go_ret
            exact ⟨by rw [ER.out]; rfl, BW2.out⟩
          · have ER : Aside0 (codeF (netB s t l) (f0 && scansIn s ss) ss.length = 3) := ⟨by unfold codeF; rw [h1, ← HF.out, if_pos rfl, if_pos rfl, if_neg h3]⟩
            have h3z : (12 : Int) < (ss.length : Int) := by omega
            clear h1
            simp only [codeB, if_true]
            go_wp2
            go_ret
            exact ⟨by rw [ER.out]; rfl, BW2.out⟩
theorem lateCode_zero {s t : Int} {l : List S44} {ss : List S31} {st pr : Int} (h : lateCode s t l ss st pr = 0) : netB s t l = true ∧ inB pr 0 300 = true ∧ scansIn s ss = true ∧ ss.length ≤ 12 := by
  unfold lateCode at h
  split at h
  · rename_i h1
    split at h
    · rename_i h2
      split at h
      · rename_i h3
        rw [Bool.and_eq_true, Bool.and_eq_true] at h2
        exact ⟨h1, h2.1.2, h2.2, h3⟩
      · cases h
    · cases h
  · cases h
set_option maxHeartbeats 4000000 in
set_option maxRecDepth 100000 in
theorem sIsLate_any (s t : Int) (A : Option Addr) (c : Nat) (l : List S44) (A1 : Option Addr) (c1 : Nat) (ss : List S31) (st pr : Int) (w : World) (hr : Kd.C k44 w A l.length l) (hc : l.length ≤ c) (hok : okNet s t l = true)
    (hr1 : Kd.C k31 w A1 ss.length ss) (hc1 : ss.length ≤ c1) (hl1 : ss.length ≤ 1048576) (hsc : ∀ x ∈ ss, okScan x = true) :
    Calls Try.prog 26 #[.agg #[.int .i8 s, .int .i16 t, .slice A l.length c], .slice A1 ss.length c1, .int .i64 st, .int .i64 pr] w fun e w' => e = .returned (.tuple #[.bool (lateRes s t l ss st pr).1, .int .i64 (lateRes s t l ss st pr).2]) ∧ Below w.heap.size w w' := by
  have HN := Aside0.mk (NetAt.new (s := s) (t := t) hr hc 28)
  have HR1 := Aside0.mk hr1
  have OK := Aside0.mk hok
  have HSC := Aside0.mk hsc
  clear hr hr1 hok hsc
  go_enter Try.func26, Try.ntmps26
  go_wp2_with fail
  have K : ∀ (f0 : Bool), f0 = (inB st 0 (s - 1) && inB pr 0 300) → codeF (netB s t l) (f0 && scansIn s ss) ss.length = lateCode s t l ss st pr := fun f0 h => by rw [h]; rfl
  have HK := Aside0.mk K
  clear K
  refine (l07Station_at HN.out OK.out st).mono ?_
  rintro e w' ⟨rfl, rfl⟩
  cases hst : inB st 0 (s - 1) with
  | false =>
    have h0 : lateCode s t l ss st pr ≠ 0 := by unfold lateCode; rw [hst]; cases netB s t l <;> simp
    have ER : Aside0 (lateRes s t l ss st pr = (false, lateCode s t l ss st pr)) := ⟨by unfold lateRes; rw [if_neg h0]⟩
    have hne : (lateCode s t l ss st pr != 0) = true := by simp [h0]
    have EK : Aside0 (codeF (netB s t l) (false && scansIn s ss) ss.length = lateCode s t l ss st pr) := ⟨HK.out false (by rw [hst]; rfl)⟩
    clear h0 hst
    generalize hcd : lateCode s t l ss st pr = cd at *
    go_wp2_with fail
    refine (l07ScansF_at HN.out OK.out A1 c1 ss false (Kd.C_alloc HR1.out _) hc1 hl1 HSC.out).mono ?_
    rintro e w1 ⟨rfl, hb⟩
    have hb1 : Aside0 (Below w.heap.size w w1) := ⟨below_call hb⟩
    clear hb hcd
    rw [EK.out]
    go_wp2
    go_ret2
    rw [ER.out]
    exact ⟨rfl, hb1.out⟩
  | true =>
    have EK : Aside0 (codeF (netB s t l) (inB pr 0 300 && scansIn s ss) ss.length = lateCode s t l ss st pr) := ⟨HK.out (inB pr 0 300) (by rw [hst]; rfl)⟩
    have HST := Aside0.mk hst
    clear hst
    go_wp2_with fail
    refine (l07Hour_is pr _).mono ?_
    rintro e w' ⟨rfl, rfl⟩
    go_wp2_with fail
    refine (l07ScansF_at HN.out OK.out A1 c1 ss (inB pr 0 300) (Kd.C_alloc HR1.out _) hc1 hl1 HSC.out).mono ?_
    rintro e w1 ⟨rfl, hb⟩
    have hb1 : Aside0 (Below w.heap.size w w1) := ⟨below_call hb⟩
    have HN1 := Aside0.mk (HN.out.below hb)
    clear hb
    rw [EK.out]
    by_cases h0 : lateCode s t l ss st pr = 0
    · obtain ⟨h1, hpr, h2, h3⟩ := lateCode_zero h0
      obtain ⟨hl, hs1, hs8, ht0, ht1⟩ := laneV_of h1
      have HALL := Aside0.mk (scansIn_all hs8 h2)
      have HL := Aside0.mk hl
      have hlen := netB_len h1
      have HEC := Aside0.mk h0
      obtain ⟨hst0, hst1⟩ := inB_true.1 HST.out
      obtain ⟨hpr0, hpr1⟩ := inB_true.1 hpr
      obtain ⟨st, rfl⟩ := Int.eq_ofNat_of_zero_le hst0
      obtain ⟨pr, rfl⟩ := Int.eq_ofNat_of_zero_le hpr0
      have hst8 : st < 8 := by omega
      have hpr3 : pr < 301 := by omega
      rw [h0]
      clear h0 h1 h2 hl hpr hst0 hst1 hpr0 hpr1
      cases hg : ss.getLast? with
      | none =>
        have hn : ss = [] := List.getLast?_eq_none_iff.1 hg
        have ER : Aside0 (lateRes s t l ss st pr = (false, 4)) := ⟨by unfold lateRes; rw [HEC.out, hg]; rfl⟩
        have hlen : ss.length = 0 := by rw [hn]; rfl
        have hlz : ((ss.length : Int) == 0) = true := by rw [hlen]; rfl
        clear hn hg hlen
        go_wp2
        go_ret2
        rw [ER.out]
        exact ⟨rfl, hb1.out⟩
      | some b =>
        have hlz : ((ss.length : Int) == 0) = false := by
          cases ss with
          | nil => cases hg
          | cons x r => exact beq_false_of_ne (by simp; omega)
        have HG := Aside0.mk hg
        clear hg
        go_wp2_with fail
        refine (l07Bad_at HN1.out A1 c1 ss (Kd.C_below HR1.out hb1.out) hc1 h3 HL.out hlen ht0 ht1 HALL.out).mono ?_
        rintro e w2 ⟨rfl, hb2⟩
        have hb3 : Aside0 (Below w.heap.size w w2) := ⟨hb1.out.trans (hb2.mono hb1.out.size)⟩
        have HN2 := Aside0.mk (HN1.out.below hb2)
        clear hb2
        by_cases hbad : 0 ≤ badFrom t l ss 0
        · have ER : Aside0 (lateRes s t l ss st pr = (false, 4)) := ⟨by unfold lateRes; rw [HEC.out, HG.out]; simp [hbad]⟩
          go_wp2
          go_ret2
          rw [ER.out]
          exact ⟨rfl, hb3.out⟩
        · have ERA : Aside0 (ss.any (lateAt st pr) = true → lateRes s t l ss st pr = (false, 0)) := ⟨fun hany => by unfold lateRes; rw [HEC.out, HG.out]; simp [hbad, hany]⟩
          have ERN : Aside0 (ss.any (lateAt st pr) = false → lateRes s t l ss st pr = (!decide (0 ≤ firstH (fun h => arrB t l b.f0.toNat b.f1.toNat st h) (pr + 1) 0), 0)) := ⟨fun hany => by unfold lateRes; rw [HEC.out, HG.out]; simp [hbad, hany]⟩
          go_wp2
          go_loopg [11] ss.length (fun gg v11 wr => ∃ (kk : Nat), kk ≤ ss.length ∧ ss.length - kk ≤ gg ∧ v11 = .int .i64 kk ∧ Aside0 ((ss.drop kk).any (lateAt st pr) = ss.any (lateAt st pr)) ∧ wr = w2)
          case atStart => exact ⟨0, by omega, by omega, rfl, ⟨rfl⟩, rfl⟩
          case round =>
            obtain ⟨kk, hkk, hgg, rfl, HA, rfl⟩ := hrel
            by_cases hlt : kk < ss.length
            · have hltz : (kk : Int) < (ss.length : Int) := by omega
              have e1 := drop_cons_of' ss z31 kk hlt
              obtain ⟨ad, e, hx0, hx1⟩ := at_T31 (Kd.C_below HR1.out hb3.out) (kk : Int) (by omega) (by omega)
              have hy := okScan_iff.1 (HSC.out (ss.getD kk z31) (by rw [List.getD_eq_getElem?_getD, List.getElem?_eq_getElem hlt]; exact List.getElem_mem hlt))
              simp only [rd_T31, Int.toNat_natCast] at hx0 hx1
              subst e
              generalize ss.getD kk z31 = y at hx0 hx1 hy e1
              obtain ⟨f, g⟩ := y
              simp only at hx0 hx1 hy
              obtain ⟨g0, g1, g2, g3⟩ := hy
              have HD : Aside0 ((lateAt st pr ⟨f, g⟩ || (ss.drop (kk + 1)).any (lateAt st pr)) = ss.any (lateAt st pr)) := ⟨by rw [← HA.out, e1, List.any_cons]⟩
              clear e1 HA
              cases hq : (f == (st : Int)) with
              | false =>
                have HD2 : Aside0 ((ss.drop (kk + 1)).any (lateAt st pr) = ss.any (lateAt st pr)) := ⟨by rw [← HD.out]; simp [lateAt, hq]⟩
                go_wp2
                go_roundg (ss.length - (kk + 1))
                case measure => omega
                case rel => exact ⟨kk + 1, by omega, by omega, by go_num, HD2, rfl⟩
              | true =>
                by_cases hle : g ≤ (pr : Int)
                · have ER : Aside0 (lateRes s t l ss st pr = (false, 0)) := ⟨ERA.out (by rw [← HD.out]; simp [lateAt, hq, hle])⟩
                  go_wp2
                  go_ret2
                  rw [ER.out]
                  exact ⟨rfl, hb3.out⟩
                · have HD2 : Aside0 ((ss.drop (kk + 1)).any (lateAt st pr) = ss.any (lateAt st pr)) := ⟨by rw [← HD.out]; simp [lateAt, hle]⟩
                  go_wp2
                  go_roundg (ss.length - (kk + 1))
                  case measure => omega
                  case rel => exact ⟨kk + 1, by omega, by omega, by go_num, HD2, rfl⟩
            · have hltz : ¬ (kk : Int) < (ss.length : Int) := by omega
              have ER0 : Aside0 (lateRes s t l ss st pr = (!decide (0 ≤ firstH (fun h => arrB t l b.f0.toNat b.f1.toNat st h) (pr + 1) 0), 0)) := ⟨ERN.out (by rw [← HA.out, List.drop_of_length_le (by omega)]; rfl)⟩
              obtain ⟨x0, x1, hbx, hx0, hx1⟩ := HALL.out b (List.mem_of_getLast? HG.out)
              have hlen0 : 0 < ss.length := by
                cases ss with
                | nil => cases HG.out
                | cons x r => simp
              obtain ⟨ad, e, hy0, hy1⟩ := at_T31 (Kd.C_below HR1.out hb3.out) ((ss.length - 1 : Nat) : Int) (by omega) (by omega)
              have hgb : ss.getD (ss.length - 1) z31 = ⟨(x0 : Int), (x1 : Int)⟩ := by
                have h1 := HG.out
                rw [List.getLast?_eq_getElem?] at h1
                rw [List.getD_eq_getElem?_getD, h1, ← hbx]
                rfl
              simp only [rd_T31, Int.toNat_natCast, hgb] at hy0 hy1
              rw [hbx] at ER0
              simp only [Int.toNat_natCast] at ER0
              subst e
              have i2 : IntKind.i64.wrap ((ss.length : Int) - 1) = (ss.length : Int) - 1 := IntWalk.i64_in _ (by omega)
              have i3 : (0 : Int) ≤ (ss.length : Int) - 1 := by omega
              have i4 : ((ss.length : Int) - 1).toNat = ss.length - 1 := by omega
              have i5 : (ss.length : Int) - 1 < (ss.length : Int) := by omega
              clear hgb hbx HA
              go_wp2_with fail
              refine (l07Behind_is x0 x1 (-1) _ HN2.out HL.out hlen ht0 ht1 hx0 hx1 (by omega) (by omega)).mono ?_
              rintro e w6 ⟨gb, hgb, G, lG, hRG, hG, rfl, hb2⟩
              rw [but_none HL.out] at hG
              have HE : Aside0 (∀ h, h < 301 → G.getD (st * 301 + h) false = arrB t l x0 x1 st h) := ⟨fun h hh => by rw [← arrB_eq HL.out hG hst8 hh]; rfl⟩
              have HRG := Aside0.mk hRG
              have hb7 : Aside0 (Below w.heap.size w w6) := ⟨hb3.out.trans (hb2.mono hb3.out.size)⟩
              have hst8z : (st : Int) < 8 := by omega
              clear hb2 hRG hG hy0 hy1 i2 i3 i4 i5
              go_wp2
              go_loopg [13] (pr + 1) (fun gg v13 wr => ∃ (k : Nat), k ≤ pr + 1 ∧ pr + 1 - k ≤ gg ∧ v13 = .int .i64 k ∧ Aside0 (firstH (fun h => arrB t l x0 x1 st h) (pr + 1 - k) k = firstH (fun h => arrB t l x0 x1 st h) (pr + 1) 0) ∧ wr = w6)
              case atStart => exact ⟨0, by omega, by omega, rfl, ⟨rfl⟩, rfl⟩
              case round =>
                obtain ⟨k, hk, hgg, rfl, HA, rfl⟩ := hrel
                by_cases hlt : k < pr + 1
                · have hle : (k : Int) ≤ (pr : Int) := by omega
                  have hk1 : (k : Int) < 301 := by omega
                  have hcell := HRG.out.cell (st * 301 + k) (by omega)
                  rw [HE.out k (by omega)] at hcell
                  have hd : firstH (fun h => arrB t l x0 x1 st h) (pr + 1 - k) k = if arrB t l x0 x1 st k = true then (k : Int) else firstH (fun h => arrB t l x0 x1 st h) (pr + 1 - (k + 1)) (k + 1) := by
                    rw [show pr + 1 - k = (pr + 1 - (k + 1)) + 1 by omega, firstH]
                  cases hq : arrB t l x0 x1 st k with
                  | true =>
                    rw [hq] at hcell hd
                    have ER : Aside0 (lateRes s t l ss st pr = (false, 0)) := ⟨by
                      have hz : firstH (fun h => arrB t l x0 x1 st h) (pr + 1) 0 = (k : Int) := by rw [← HA.out, hd, if_pos rfl]
                      have hz2 : 0 ≤ firstH (fun h => arrB t l x0 x1 st h) (pr + 1) 0 := by rw [hz]; omega
                      rw [ER0.out]
                      exact Prod.ext (by simpa using hz2) rfl⟩
                    clear hd hq
                    go_wp2
                    go_ret2
                    rw [ER.out]
                    exact ⟨rfl, hb7.out⟩
                  | false =>
                    rw [hq] at hcell hd
                    have HD2 : Aside0 (firstH (fun h => arrB t l x0 x1 st h) (pr + 1 - (k + 1)) (k + 1) = firstH (fun h => arrB t l x0 x1 st h) (pr + 1) 0) := ⟨by rw [← HA.out, hd, if_neg (by simp)]⟩
                    clear hd hq
                    go_wp2
                    go_roundg (pr + 1 - (k + 1))
                    case measure => omega
                    case rel => exact ⟨k + 1, by omega, by omega, by go_num, HD2, rfl⟩
                · have hle : ¬ (k : Int) ≤ (pr : Int) := by omega
                  have ER : Aside0 (lateRes s t l ss st pr = (true, 0)) := ⟨by
                    have hz : firstH (fun h => arrB t l x0 x1 st h) (pr + 1) 0 = -1 := by rw [← HA.out, show pr + 1 - k = 0 by omega]; rfl
                    have hz2 : firstH (fun h => arrB t l x0 x1 st h) (pr + 1) 0 < 0 := by rw [hz]; omega
                    rw [ER0.out]
                    exact Prod.ext (by simpa using hz2) rfl⟩
                  go_wp2
                  go_ret2
                  rw [ER.out]
                  exact ⟨rfl, hb7.out⟩
    · have ER : Aside0 (lateRes s t l ss st pr = (false, lateCode s t l ss st pr)) := ⟨by unfold lateRes; rw [if_neg h0]⟩
      have hne : (lateCode s t l ss st pr != 0) = true := by simp [h0]
      clear h0
      generalize hcd : lateCode s t l ss st pr = cd at *
      go_wp2
      go_ret2
      rw [ER.out]
      exact ⟨rfl, hb1.out⟩
def spec_IsLate.f (a0_0 : Int) (a0_1 : Int) (l0_2 : List (S44)) (l1 : List (S31)) (a2 : Int) (a3 : Int) : Option (Bool × Int) :=
  if okNet a0_0 a0_1 l0_2 = true ∧ l1.length ≤ 1048576 ∧ l1.all okScan = true then some (lateRes a0_0 a0_1 l0_2 l1 a2 a3) else none
theorem spec_IsLate.calls (a0_0 : Int) (a0_1 : Int) (A0_2 : Option Addr) (c0_2 : Nat) (l0_2 : List (S44)) (A1 : Option Addr) (c1 : Nat) (l1 : List (S31)) (a2 : Int) (a3 : Int) (r1 : Bool) (r2 : Int) (w : World) (hr0_2 : Kd.C k44 w A0_2 l0_2.length l0_2) (hc0_2 : l0_2.length ≤ c0_2) (hr1 : Kd.C k31 w A1 l1.length l1) (hc1 : l1.length ≤ c1) (h : spec_IsLate.f a0_0 a0_1 l0_2 l1 a2 a3 = some (r1, r2)) :
    Calls Try.prog 26 #[.agg #[.int .i8 a0_0, .int .i16 a0_1, .slice A0_2 l0_2.length c0_2], .slice A1 l1.length c1, .int .i64 a2, .int .i64 a3] w fun e w' => e = .returned (.tuple #[.bool r1, .int .i64 r2]) ∧ Below w.heap.size w w' := by
  unfold spec_IsLate.f at h
  split at h
  · injection h with h
    have h1 : (lateRes a0_0 a0_1 l0_2 l1 a2 a3).1 = r1 := by rw [h]
    have h2 : (lateRes a0_0 a0_1 l0_2 l1 a2 a3).2 = r2 := by rw [h]
    rw [← h1, ← h2]
    rename_i hh
    exact sIsLate_any _ _ _ _ _ _ _ _ _ _ w hr0_2 hc0_2 hh.1 hr1 hc1 hh.2.1 (List.all_eq_true.1 hh.2.2)
  · cases h
end Go.Proofs.Yticfecncdpdanaa.Q
