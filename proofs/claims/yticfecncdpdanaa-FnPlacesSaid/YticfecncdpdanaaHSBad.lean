/- spec's l07Scans, l07Bad, CheckScans, FirstBadScan. -/
import Derived.Test.YticfecncdpdanaaHBad
import Derived.Test.YticfecncdpdanaaMB
set_option linter.unusedVariables false
set_option linter.unusedSimpArgs false
namespace Go.Proofs.Yticfecncdpdanaa.Q
open Go.RowKit Go.Proofs.YticfecncdpdanaaW.PrintWords Go.Proofs.YticfecncdpdanaaW.PrintLast Go.Proofs.YticfecncdpdanaaW.PrintMore
theorem scansIn_eq (s : Int) (ss : List S31) : scansIn s ss = ss.all (scanIn s) := by
  unfold scansIn allIn scanIn
  induction ss with
  | nil => rfl
  | cons x r ih =>
    simp only [List.map_cons, List.all_cons] at ih ⊢
    rw [← ih]
    cases inB x.f0 0 (s - 1) <;> cases inB x.f1 0 300 <;> simp
set_option maxHeartbeats 4000000 in
set_option maxRecDepth 100000 in
theorem l07Scans_at {B : Nat} {s t : Int} {l : List S44} {w : World} (hn : NetAt B s t l w) (hok : okNet s t l = true) (A1 : Option Addr) (c1 : Nat) (ss : List S31)
    (hr1 : Kd.C k31 w A1 ss.length ss) (hc1 : ss.length ≤ c1) (hl1 : ss.length ≤ 1048576) (hsc : ∀ x ∈ ss, okScan x = true) :
    Calls Try.prog 53 #[.pointer (some ⟨B, 0, none⟩), .slice A1 ss.length c1, .bool true] w fun e w' =>
      e = .returned (.int .i64 (scansCodeB s t l ss)) ∧ Below w.heap.size w w' := by
  have HN := Aside0.mk hn
  have HR1 := Aside0.mk hr1
  have OK := Aside0.mk hok
  have HSC := Aside0.mk hsc
  clear hn hr1 hok hsc
  go_enter Try.func53, Try.ntmps53
  go_wp2
  go_loopg [2, 7] ss.length (fun gg v2 v7 wr => ∃ (kk : Nat) (fine : Bool), kk ≤ ss.length ∧ ss.length - kk ≤ gg ∧ v7 = .int .i64 kk ∧ v2 = .bool fine ∧ Aside0 (Below w.heap.size w wr) ∧ Aside0 ((fine && (ss.drop kk).all (scanIn s)) = scansIn s ss))
  case atStart => exact ⟨0, true, by omega, by omega, rfl, rfl, ⟨Below.refl _ _⟩, ⟨by rw [scansIn_eq, List.drop_zero, Bool.true_and]⟩⟩
  case round =>
    obtain ⟨kk, fine, hkk, hg, rfl, rfl, BW, HA⟩ := hrel
    by_cases hlt : kk < ss.length
    · have hltz : (kk : Int) < (ss.length : Int) := by omega
      have e1 := drop_cons_of' ss z31 kk hlt
      obtain ⟨ad, e, hx0, hx1⟩ := at_T31 (Kd.C_below HR1.out BW.out) (kk : Int) (by omega) (by omega)
      have hy := HSC.out (ss.getD kk z31) (by rw [List.getD_eq_getElem?_getD, List.getElem?_eq_getElem hlt]; exact List.getElem_mem hlt)
      simp only [rd_T31, Int.toNat_natCast] at hx0 hx1
      subst e
      generalize ss.getD kk z31 = y at hx0 hx1 hy e1
      obtain ⟨f, g⟩ := y
      simp only at hx0 hx1
      have HY := Aside0.mk hy
      have HD : Aside0 ((fine && (scanIn s ⟨f, g⟩ && (ss.drop (kk + 1)).all (scanIn s))) = scansIn s ss) := ⟨by rw [← HA.out, e1, List.all_cons]⟩
      clear e1 hy HA
      cases fine with
      | false =>
        have HD2 : Aside0 ((false && (ss.drop (kk + 1)).all (scanIn s)) = scansIn s ss) := ⟨by rw [← HD.out]; simp⟩
        go_wp2
        go_roundg (ss.length - (kk + 1))
        case measure => omega
        case rel => exact ⟨kk + 1, false, by omega, by omega, by go_num, rfl, BW, HD2⟩
      | true =>
        go_wp2_with fail
        refine (l07Scan_at (HN.out.below BW.out) OK.out f g HY.out).mono ?_
        rintro e w2 ⟨rfl, hb2⟩
        have BW2 : Aside0 (Below w.heap.size w w2) := ⟨BW.out.trans (hb2.mono BW.out.size)⟩
        have HD2 : Aside0 ((scanIn s ⟨f, g⟩ && (ss.drop (kk + 1)).all (scanIn s)) = scansIn s ss) := ⟨by rw [← HD.out]; simp⟩
        clear hb2
        generalize scanIn s ⟨f, g⟩ = fn at *
        go_wp2
        go_roundg (ss.length - (kk + 1))
        case measure => omega
        case rel => exact ⟨kk + 1, fn, by omega, by omega, by go_num, rfl, BW2, HD2⟩
    · have hltz : ¬ (kk : Int) < (ss.length : Int) := by omega
      have HF : Aside0 (fine = scansIn s ss) := ⟨by rw [← HA.out, List.drop_of_length_le (by omega)]; simp⟩
      go_wp2_with fail
      refine (l07Asked_at (HN.out.below BW.out) OK.out fine).mono ?_
      rintro e w2 ⟨rfl, hb2⟩
      have BW2 : Aside0 (Below w.heap.size w w2) := ⟨BW.out.trans (hb2.mono BW.out.size)⟩
      clear hb2
      cases h1 : netB s t l with
      | false =>
        have ER : Aside0 (scansCodeB s t l ss = 1) := ⟨by unfold scansCodeB; rw [h1]; rfl⟩
        clear h1
        simp only [codeB, Bool.false_eq_true, if_false]
        go_wp2
        go_ret
        exact ⟨by rw [ER.out]; rfl, BW2.out⟩
      | true =>
        cases fine with
        | false =>
          have ER : Aside0 (scansCodeB s t l ss = 2) := ⟨by unfold scansCodeB; rw [h1, ← HF.out]; rfl⟩
          clear h1
          simp only [codeB, Bool.false_eq_true, if_false, if_true]
          go_wp2
          go_ret
          exact ⟨by rw [ER.out]; rfl, BW2.out⟩
        | true =>
          by_cases h3 : ss.length ≤ 12
          · have ER : Aside0 (scansCodeB s t l ss = 0) := ⟨by unfold scansCodeB; rw [h1, ← HF.out, if_pos rfl, if_pos rfl, if_pos h3]⟩
            have h3z : (ss.length : Int) ≤ 12 := by omega
            clear h1
            simp only [codeB, if_true]
            go_wp2
            go_ret
            exact ⟨by rw [ER.out]; rfl, BW2.out⟩
          · have ER : Aside0 (scansCodeB s t l ss = 3) := ⟨by unfold scansCodeB; rw [h1, ← HF.out, if_pos rfl, if_pos rfl, if_neg h3]⟩
            have h3z : (12 : Int) < (ss.length : Int) := by omega
            clear h1
            simp only [codeB, if_true]
            go_wp2
            go_ret
            exact ⟨by rw [ER.out]; rfl, BW2.out⟩
set_option maxHeartbeats 4000000 in
set_option maxRecDepth 100000 in
theorem l07Bad_at {B : Nat} {s t : Int} {l : List S44} {w : World} (hn : NetAt B s t l w) (A1 : Option Addr) (c1 : Nat) (ss : List S31)
    (hr1 : Kd.C k31 w A1 ss.length ss) (hc1 : ss.length ≤ c1) (hl1 : ss.length ≤ 12) (hl : ∀ x ∈ l, laneV x) (hlen : l.length ≤ 20) (ht0 : 0 ≤ t) (ht1 : t ≤ 40) (hin : ∀ x ∈ ss, ∃ a0 h0 : Nat, x = ⟨a0, h0⟩ ∧ a0 < 8 ∧ h0 < 301) :
    Calls Try.prog 56 #[.pointer (some ⟨B, 0, none⟩), .slice A1 ss.length c1] w fun e w' =>
      e = .returned (.int .i64 (badFrom t l ss 0)) ∧ Below w.heap.size w w' := by
  have HN := Aside0.mk hn
  have HR1 := Aside0.mk hr1
  have HL := Aside0.mk hl
  have HIN := Aside0.mk hin
  clear hn hr1 hl hin
  go_enter Try.func56, Try.ntmps56
  go_wp2
  go_loopg [5] (ss.length + 1) (fun gg v5 wr => ∃ (kk : Nat), kk ≤ ss.length ∧ ss.length + 1 - kk ≤ gg ∧ v5 = .int .i64 ((kk : Int) + 1) ∧ Aside0 (Below w.heap.size w wr) ∧ Aside0 (badFrom t l (ss.drop kk) kk = badFrom t l ss 0))
  case atStart => exact ⟨0, by omega, by omega, rfl, ⟨Below.refl _ _⟩, ⟨rfl⟩⟩
  case round =>
    obtain ⟨kk, hkk, hg, rfl, BW, HA⟩ := hrel
    by_cases hlt : kk + 1 < ss.length
    · have hltz : (kk : Int) + 1 < (ss.length : Int) := by omega
      obtain ⟨ad, e, hx0, hx1⟩ := at_T31 (Kd.C_below HR1.out BW.out) (kk : Int) (by omega) (by omega)
      obtain ⟨ad', e', hy0, hy1⟩ := at_T31 (Kd.C_below HR1.out BW.out) ((kk + 1 : Nat) : Int) (by omega) (by omega)
      rw [e] at e'
      injection e' with e'
      subst e'
      subst e
      simp only [rd_T31, Int.toNat_natCast] at hx0 hx1 hy0 hy1
      obtain ⟨a0, h0, ha, ha0, hh0⟩ := HIN.out (ss.getD kk z31) (by rw [List.getD_eq_getElem?_getD, List.getElem?_eq_getElem (by omega)]; exact List.getElem_mem _)
      obtain ⟨b0, h1, hb, hb0, hh1⟩ := HIN.out (ss.getD (kk + 1) z31) (by rw [List.getD_eq_getElem?_getD, List.getElem?_eq_getElem (by omega)]; exact List.getElem_mem _)
      have e1 := drop_cons_of' ss z31 kk (by omega)
      have e2 := drop_cons_of' ss z31 (kk + 1) (by omega)
      rw [ha] at hx0 hx1 e1
      rw [hb] at hy0 hy1 e2
      have HD : Aside0 ((if arrB t l a0 h0 b0 h1 = true then badFrom t l (ss.drop (kk + 1)) ((kk : Int) + 1) else (kk : Int) + 1) = badFrom t l ss 0) := ⟨by rw [← HA.out, e1, e2]; rfl⟩
      clear e1 e2 ha hb HA
      simp only at hx0 hx1 hy0 hy1
      have i0 : (0 : Int) ≤ (kk : Int) + 1 := by omega
      have iw : IntKind.i64.wrap ((kk : Int) + 1 - 1) = (kk : Int) := by rw [IntWalk.i64_in _ (by omega)]; omega
      have it : ((kk : Int) + 1).toNat = kk + 1 := by omega
      have iv : IntKind.i64.wrap (kk : Int) = (kk : Int) := IntWalk.i64_in _ (by omega)
      have i1 : (kk : Int) < (ss.length : Int) := by omega
      go_wp2
      go_region_held_law (fun w' => w'.cell? (ad.add (kk * 2)) = some (.int .i8 (a0 : Int)) ∧ w'.cell? ⟨(ad.add (kk * 2)).block, (ad.add (kk * 2)).off + 1, none⟩ = some (.int .i16 (h0 : Int)) ∧ w'.cell? (ad.add ((kk + 1) * 2)) = some (.int .i8 (b0 : Int)) ∧ w'.cell? ⟨(ad.add ((kk + 1) * 2)).block, (ad.add ((kk + 1) * 2)).off + 1, none⟩ = some (.int .i16 (h1 : Int)))
        (first | go_keep | (go_split_ands; refine ⟨?_, ?_, ?_, ?_⟩ <;> (exact pw_cell_below hb2 (by assumption))))
        ((go_at_call 77; refine (l07Goes_is a0 h0 b0 h1 (-1) _ (by first | exact HN.out.below BW.out | exact HN.out.below BW.out.drew) HL.out hlen ht0 ht1 ha0 hh0 hb0 hh1 (by omega) (by omega)).mono ?_; rintro e w2 ⟨rfl, hb2⟩))
      have HB2 : Aside0 (Below wr.heap.size wr w2) := ⟨by first | exact hb2 | exact ⟨hb2.os, hb2.tape, hb2.output, hb2.size, hb2.block⟩⟩
      have BW3 : Aside0 (Below w.heap.size w w2) := ⟨BW.out.trans (HB2.out.mono BW.out.size)⟩
      clear hb2 hx0 hx1 hy0 hy1 iw iv it
      rw [arrB_but HL.out]
      cases h5 : arrB t l a0 h0 b0 h1 with
      | true =>
        have HD2 : Aside0 (badFrom t l (ss.drop (kk + 1)) ((kk + 1 : Nat) : Int) = badFrom t l ss 0) := ⟨by have := HD.out; rw [h5, if_pos rfl] at this; exact this⟩
        clear h5
        go_wp2
        go_roundg (ss.length + 1 - (kk + 1))
        case measure => omega
        case rel => exact ⟨kk + 1, by omega, by omega, by go_num, BW3, HD2⟩
      | false =>
        have HD2 : Aside0 ((kk : Int) + 1 = badFrom t l ss 0) := ⟨by have := HD.out; rw [h5, if_neg (by simp)] at this; exact this⟩
        clear h5
        go_wp2
        go_ret
        exact ⟨by rw [← HD2.out]; rfl, BW3.out⟩
    · have hltz : ¬ (kk : Int) + 1 < (ss.length : Int) := by omega
      have HD2 : Aside0 (badFrom t l ss 0 = -1) := ⟨by rw [← HA.out]; exact badFrom_one (by rw [List.length_drop]; omega) _⟩
      go_wp2
      go_ret
      exact ⟨by rw [HD2.out]; rfl, BW.out⟩
set_option maxHeartbeats 4000000 in
set_option maxRecDepth 100000 in
theorem sFirstBadScan_any (s t : Int) (A : Option Addr) (c : Nat) (l : List S44) (A1 : Option Addr) (c1 : Nat) (ss : List S31) (w : World) (hr : Kd.C k44 w A l.length l) (hc : l.length ≤ c) (hok : okNet s t l = true)
    (hr1 : Kd.C k31 w A1 ss.length ss) (hc1 : ss.length ≤ c1) (hl1 : ss.length ≤ 1048576) (hsc : ∀ x ∈ ss, okScan x = true) :
    Calls Try.prog 19 #[.agg #[.int .i8 s, .int .i16 t, .slice A l.length c], .slice A1 ss.length c1] w fun e w' =>
      e = .returned (.tuple #[.int .i64 (firstRes s t l ss).1, .int .i64 (firstRes s t l ss).2]) ∧ Below w.heap.size w w' := by
  have HN := Aside0.mk (NetAt.new (s := s) (t := t) hr hc 28)
  have HR1 := Aside0.mk hr1
  have OK := Aside0.mk hok
  have HSC := Aside0.mk hsc
  clear hr hr1 hok hsc
  go_enter Try.func19, Try.ntmps19
  go_wp2_with fail
  refine (l07Scans_at HN.out OK.out A1 c1 ss (Kd.C_alloc HR1.out _) hc1 hl1 HSC.out).mono ?_
  rintro e w1 ⟨rfl, hb⟩
  have hb1 : Aside0 (Below w.heap.size w w1) := ⟨below_call hb⟩
  have HN1 := Aside0.mk (HN.out.below hb)
  clear hb
  by_cases h0 : scansCodeB s t l ss = 0
  · obtain ⟨h1, h2, h3⟩ := scansCodeB_zero h0
    obtain ⟨hl, hs1, hs8, ht0, ht1⟩ := laneV_of h1
    have HIN := Aside0.mk (scansIn_all hs8 h2)
    have HL := Aside0.mk hl
    have hlen := netB_len h1
    have H0 := Aside0.mk h0
    rw [h0]
    clear h0 h1 h2 hl
    go_wp2_with fail
    refine (l07Bad_at HN1.out A1 c1 ss (Kd.C_below HR1.out hb1.out) hc1 h3 HL.out hlen ht0 ht1 HIN.out).mono ?_
    rintro e w2 ⟨rfl, hb2⟩
    have hb3 : Aside0 (Below w.heap.size w w2) := ⟨hb1.out.trans (hb2.mono hb1.out.size)⟩
    clear hb2
    by_cases hbd : badFrom t l ss 0 < 0
    · have ER : Aside0 (firstRes s t l ss = (0, 6)) := ⟨by unfold firstRes; rw [if_pos H0.out, if_pos hbd]⟩
      go_wp2
      go_ret2
      rw [ER.out]
      exact ⟨rfl, hb3.out⟩
    · have ER : Aside0 (firstRes s t l ss = (badFrom t l ss 0, 0)) := ⟨by unfold firstRes; rw [if_pos H0.out, if_neg hbd]⟩
      have hge : 0 ≤ badFrom t l ss 0 := by omega
      generalize badFrom t l ss 0 = bd at *
      go_wp2
      go_ret2
      rw [ER.out]
      exact ⟨rfl, hb3.out⟩
  · have hne : (scansCodeB s t l ss != 0) = true := by simp [h0]
    have ER : Aside0 (firstRes s t l ss = (0, scansCodeB s t l ss)) := ⟨by unfold firstRes; rw [if_neg h0]⟩
    have H0 := Aside0.mk h0
    clear h0
    generalize hcd : scansCodeB s t l ss = cd at *
    go_wp2
    go_ret2
    rw [ER.out]
    exact ⟨rfl, hb1.out⟩
def spec_CheckScans.f (a0_0 : Int) (a0_1 : Int) (l0_2 : List (S44)) (l1 : List (S31)) : Option (Bool × Int) :=
  if okNet a0_0 a0_1 l0_2 = true ∧ l1.length ≤ 1048576 ∧ l1.all okScan = true then some (checkRes a0_0 a0_1 l0_2 l1) else none
def spec_FirstBadScan.f (a0_0 : Int) (a0_1 : Int) (l0_2 : List (S44)) (l1 : List (S31)) : Option (Int × Int) :=
  if okNet a0_0 a0_1 l0_2 = true ∧ l1.length ≤ 1048576 ∧ l1.all okScan = true then some (firstRes a0_0 a0_1 l0_2 l1) else none
theorem spec_FirstBadScan.calls (a0_0 : Int) (a0_1 : Int) (A0_2 : Option Addr) (c0_2 : Nat) (l0_2 : List (S44)) (A1 : Option Addr) (c1 : Nat) (l1 : List (S31)) (r1 : Int) (r2 : Int) (w : World) (hr0_2 : Kd.C k44 w A0_2 l0_2.length l0_2) (hc0_2 : l0_2.length ≤ c0_2) (hr1 : Kd.C k31 w A1 l1.length l1) (hc1 : l1.length ≤ c1) (h : spec_FirstBadScan.f a0_0 a0_1 l0_2 l1 = some (r1, r2)) :
    Calls Try.prog 19 #[.agg #[.int .i8 a0_0, .int .i16 a0_1, .slice A0_2 l0_2.length c0_2], .slice A1 l1.length c1] w fun e w' => e = .returned (.tuple #[.int .i64 r1, .int .i64 r2]) ∧ Below w.heap.size w w' := by
  unfold spec_FirstBadScan.f at h
  split at h
  · injection h with h
    have h1 : (firstRes a0_0 a0_1 l0_2 l1).1 = r1 := by rw [h]
    have h2 : (firstRes a0_0 a0_1 l0_2 l1).2 = r2 := by rw [h]
    rw [← h1, ← h2]
    rename_i hh
    exact sFirstBadScan_any _ _ _ _ _ _ _ _ w hr0_2 hc0_2 hh.1 hr1 hc1 hh.2.1 (List.all_eq_true.1 hh.2.2)
  · cases h
end Go.Proofs.Yticfecncdpdanaa.Q
