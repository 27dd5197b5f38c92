/- impl's scansCode, bad, CheckScans, FirstBadScan. -/
import Derived.Test.YticfecncdpdanaaHCanGo
set_option linter.unusedVariables false
set_option linter.unusedSimpArgs false
namespace Go.Proofs.Yticfecncdpdanaa.Q
open Go.RowKit Go.Proofs.YticfecncdpdanaaW.PrintWords Go.Proofs.YticfecncdpdanaaW.PrintLast Go.Proofs.YticfecncdpdanaaW.PrintMore
/-- The code of a net and a list of scans. -/
def scansCodeB (s t : Int) (l : List S44) (ss : List S31) : Int := if netB s t l = true then (if scansIn s ss = true then (if ss.length ≤ 12 then 0 else 3) else 2) else 1
set_option maxHeartbeats 4000000 in
set_option maxRecDepth 100000 in
theorem scansCode_is (s t : Int) (A : Option Addr) (c : Nat) (l : List S44) (A1 : Option Addr) (c1 : Nat) (ss : List S31) (w : World) (hr : Kd.C k44 w A l.length l) (hc : l.length ≤ c) (hok : okNet s t l = true)
    (hr1 : Kd.C k31 w A1 ss.length ss) (hc1 : ss.length ≤ c1) (hl1 : ss.length ≤ 1048576) (hsc : ∀ x ∈ ss, okScan x = true) :
    Calls Try.prog 46 #[.agg #[.int .i8 s, .int .i16 t, .slice A l.length c], .slice A1 ss.length c1] w fun e w' =>
      e = .returned (.int .i64 (scansCodeB s t l ss)) ∧ Below w.heap.size w w' := by
  have HR := Aside0.mk hr
  have HR1 := Aside0.mk hr1
  have OK := Aside0.mk hok
  have HSC := Aside0.mk hsc
  clear hr hr1 hok hsc
  go_enter Try.func46, Try.ntmps46
  go_wp2_with fail
  refine (scanCode_is s t A c l A1 c1 ss _ (Kd.C_alloc HR.out _) hc OK.out (Kd.C_alloc HR1.out _) hc1 hl1 HSC.out).mono ?_
  rintro e w1 ⟨rfl, hb⟩
  have hb1 := Aside0.mk (below_call hb)
  clear hb
  cases h1 : netB s t l with
  | false =>
    have ER : Aside0 (scansCodeB s t l ss = 1) := ⟨by unfold scansCodeB; rw [h1]; rfl⟩
    clear h1
    simp only [codeB, Bool.false_eq_true, if_false]
    go_wp2
    go_ret
    exact ⟨by rw [ER.out]; rfl, hb1.out⟩
  | true =>
    cases h2 : scansIn s ss with
    | false =>
      have ER : Aside0 (scansCodeB s t l ss = 2) := ⟨by unfold scansCodeB; rw [h1, h2]; rfl⟩
      clear h1 h2
      simp only [codeB, Bool.false_eq_true, if_false, if_true]
      go_wp2
      go_ret
      exact ⟨by rw [ER.out]; rfl, hb1.out⟩
    | true =>
      by_cases h3 : ss.length ≤ 12
      · have ER : Aside0 (scansCodeB s t l ss = 0) := ⟨by unfold scansCodeB; rw [h1, h2, if_pos rfl, if_pos rfl, if_pos h3]⟩
        have h3z : (ss.length : Int) ≤ 12 := by omega
        clear h1 h2
        simp only [codeB, if_true]
        go_wp2_with fail
        refine (unless_is true 3 _).mono ?_
        rintro e w' ⟨rfl, rfl⟩
        go_wp2
        go_ret
        exact ⟨by rw [ER.out]; rfl, hb1.out⟩
      · have ER : Aside0 (scansCodeB s t l ss = 3) := ⟨by unfold scansCodeB; rw [h1, h2, if_pos rfl, if_pos rfl, if_neg h3]⟩
        have h3z : decide ((ss.length : Int) ≤ 12) = false := decide_eq_false (by omega)
        clear h1 h2
        simp only [codeB, if_true]
        go_wp2_with fail
        refine (unless_is false 3 _).mono ?_
        rintro e w' ⟨rfl, rfl⟩
        go_wp2
        go_ret
        exact ⟨by rw [ER.out]; rfl, hb1.out⟩
/-- The index of the first scan, from index i on, that cannot be gone to from the one ahead of it; -1 for none. -/
def badFrom (t : Int) (l : List S44) : List S31 → Int → Int
  | a :: b :: r, i => if arrB t l a.f0.toNat a.f1.toNat b.f0.toNat b.f1.toNat = true then badFrom t l (b :: r) (i + 1) else i + 1
  | _, _ => -1
theorem badFrom_one {t : Int} {l : List S44} {r : List S31} (h : r.length ≤ 1) (i : Int) : badFrom t l r i = -1 := by
  match r, h with
  | [], _ => rfl
  | [x], _ => rfl
set_option maxHeartbeats 4000000 in
set_option maxRecDepth 100000 in
theorem bad_is (s t : Int) (A : Option Addr) (c : Nat) (l : List S44) (A1 : Option Addr) (c1 : Nat) (ss : List S31) (w : World) (hr : Kd.C k44 w A l.length l) (hc : l.length ≤ c)
    (hr1 : Kd.C k31 w A1 ss.length ss) (hc1 : ss.length ≤ c1) (hl1 : ss.length ≤ 12) (hl : ∀ x ∈ l, laneV x) (ht0 : 0 ≤ t) (ht1 : t ≤ 40) (hin : ∀ x ∈ ss, ∃ a0 h0 : Nat, x = ⟨a0, h0⟩ ∧ a0 < 8 ∧ h0 < 301) :
    Calls Try.prog 55 #[.agg #[.int .i8 s, .int .i16 t, .slice A l.length c], .slice A1 ss.length c1] w fun e w' =>
      e = .returned (.int .i64 (badFrom t l ss 0)) ∧ Below w.heap.size w w' := by
  have HR := Aside0.mk hr
  have HR1 := Aside0.mk hr1
  have HL := Aside0.mk hl
  have HIN := Aside0.mk hin
  clear hr hr1 hl hin
  go_enter Try.func55, Try.ntmps55
  go_wp2
  have hB0 : Aside0 (Below w.heap.size w (w.alloc (.cells #[.int .i8 s, .int .i16 t, .slice A l.length c] 28))) := ⟨(Below.refl _ _).alloc (Nat.le_refl _) _⟩
  have q0 : Aside0 ((w.alloc (.cells #[.int .i8 s, .int .i16 t, .slice A l.length c] 28)).cell? ⟨w.heap.size, 0, none⟩ = some (.int .i8 s)) := ⟨by go_simp⟩
  have q1 : Aside0 ((w.alloc (.cells #[.int .i8 s, .int .i16 t, .slice A l.length c] 28)).cell? ⟨w.heap.size, 1, none⟩ = some (.int .i16 t)) := ⟨by go_simp⟩
  have q2 : Aside0 ((w.alloc (.cells #[.int .i8 s, .int .i16 t, .slice A l.length c] 28)).cell? ⟨w.heap.size, 2, none⟩ = some (.slice A l.length c)) := ⟨by go_simp⟩
  have hz : w.heap.size < (w.alloc (.cells #[.int .i8 s, .int .i16 t, .slice A l.length c] 28)).heap.size := by simp
  generalize w.alloc (.cells #[.int .i8 s, .int .i16 t, .slice A l.length c] 28) = W at *
  go_loopg [5] (ss.length + 1) (fun gg v5 wr => ∃ (kk : Nat), kk ≤ ss.length ∧ ss.length + 1 - kk ≤ gg ∧ v5 = .int .i64 ((kk : Int) + 1) ∧ Aside0 (Below W.heap.size W wr) ∧ Aside0 (badFrom t l (ss.drop kk) kk = badFrom t l ss 0))
  case atStart => exact ⟨0, by omega, by omega, rfl, ⟨Below.refl _ _⟩, ⟨rfl⟩⟩
  case round =>
    obtain ⟨kk, hkk, hg, rfl, BW, HA⟩ := hrel
    have BW0 : Aside0 (Below w.heap.size w wr) := ⟨hB0.out.trans (BW.out.mono (by omega))⟩
    have d0 := (BW.out.cell (p := ⟨w.heap.size, 0, none⟩) (by simp; omega)).trans q0.out
    have d1 := (BW.out.cell (p := ⟨w.heap.size, 1, none⟩) (by simp; omega)).trans q1.out
    have d2 := (BW.out.cell (p := ⟨w.heap.size, 2, none⟩) (by simp; omega)).trans q2.out
    by_cases hlt : kk + 1 < ss.length
    · have hltz : ((kk + 1 : Nat) : Int) < (ss.length : Int) := by omega
      obtain ⟨ad, e, hx0, hx1⟩ := at_T31 (Kd.C_below HR1.out BW0.out) (kk : Int) (by omega) (by omega)
      obtain ⟨ad', e', hy0, hy1⟩ := at_T31 (Kd.C_below HR1.out BW0.out) ((kk + 1 : Nat) : Int) (by omega) (by omega)
      rw [e] at e'
      injection e' with e'
      subst e'
      subst e
      simp only [rd_T31, Int.toNat_natCast] at hx0 hx1 hy0 hy1
      obtain ⟨a0, h0, ha, ha0, hh0⟩ := HIN.out (ss.getD kk z31) (by rw [List.getD_eq_getElem?_getD, List.getElem?_eq_getElem (by omega)]; exact List.getElem_mem _)
      obtain ⟨b0, h1, hb, hb0, hh1⟩ := HIN.out (ss.getD (kk + 1) z31) (by rw [List.getD_eq_getElem?_getD, List.getElem?_eq_getElem (by omega)]; exact List.getElem_mem _)
      have e1 := drop_cons_of' ss z31 kk (by omega)
      have e2 := drop_cons_of' ss z31 (kk + 1) (by omega)
      rw [ha] at hx0 hx1 e1
      rw [hb] at hy0 hy1 e2
      have HD : Aside0 ((if arrB t l a0 h0 b0 h1 = true then badFrom t l (ss.drop (kk + 1)) ((kk : Int) + 1) else (kk : Int) + 1) = badFrom t l ss 0) := ⟨by rw [← HA.out, e1, e2]; rfl⟩
      clear e1 e2 ha hb HA
      simp only at hx0 hx1 hy0 hy1
      have hltz : (kk : Int) + 1 < (ss.length : Int) := by omega
      have i0 : (0 : Int) ≤ (kk : Int) + 1 := by omega
      have iw : IntKind.i64.wrap ((kk : Int) + 1 - 1) = (kk : Int) := by rw [IntWalk.i64_in _ (by omega)]; omega
      have it : ((kk : Int) + 1).toNat = kk + 1 := by omega
      have iv : IntKind.i64.wrap (kk : Int) = (kk : Int) := IntWalk.i64_in _ (by omega)
      have i1 : (kk : Int) < (ss.length : Int) := by omega
      go_wp2
      go_region_held_law (fun w' => w'.cell? ⟨w.heap.size, 0, none⟩ = some (.int .i8 s) ∧ w'.cell? ⟨w.heap.size, 1, none⟩ = some (.int .i16 t) ∧ w'.cell? ⟨w.heap.size, 2, none⟩ = some (.slice A l.length c) ∧ w'.cell? (ad.add (kk * 2)) = some (.int .i8 (a0 : Int)) ∧ w'.cell? ⟨(ad.add (kk * 2)).block, (ad.add (kk * 2)).off + 1, none⟩ = some (.int .i16 (h0 : Int)) ∧ w'.cell? (ad.add ((kk + 1) * 2)) = some (.int .i8 (b0 : Int)) ∧ w'.cell? ⟨(ad.add ((kk + 1) * 2)).block, (ad.add ((kk + 1) * 2)).off + 1, none⟩ = some (.int .i16 (h1 : Int)))
        (first | go_keep | (go_split_ands; refine ⟨?_, ?_, ?_, ?_, ?_, ?_, ?_⟩ <;> (exact pw_cell_below hb2 (by assumption))))
        ((go_at_call 42; refine (canGo_is s t A c l a0 h0 b0 h1 _ (by first | exact Kd.C_below HR.out BW0.out | exact Kd.C_drew (Kd.C_below HR.out BW0.out)) hc HL.out ht0 ht1 ha0 hh0 hb0 hh1).mono ?_; rintro e w2 ⟨rfl, hb2⟩))
      have HB2 : Aside0 (Below wr.heap.size wr w2) := ⟨by first | exact hb2 | exact ⟨hb2.os, hb2.tape, hb2.output, hb2.size, hb2.block⟩⟩
      have BW3 : Aside0 (Below W.heap.size W w2) := ⟨BW.out.trans (HB2.out.mono BW.out.size)⟩
      have BW4 : Aside0 (Below w.heap.size w w2) := ⟨hB0.out.trans (BW3.out.mono (by omega))⟩
      clear hb2 d0 d1 d2 hx0 hx1 hy0 hy1 iw iv it
      cases h5 : arrB t l a0 h0 b0 h1 with
      | true =>
        have HD2 : Aside0 (badFrom t l (ss.drop (kk + 1)) ((kk + 1 : Nat) : Int) = badFrom t l ss 0) := ⟨by have := HD.out; rw [h5, if_pos rfl] at this; exact this⟩
        clear h5
        go_wp2
        go_roundg (ss.length + 1 - (kk + 1))
        case measure => omega
        case rel => exact ⟨kk + 1, by omega, by omega, by go_num, BW3, HD2⟩
      | false =>
        have HD2 : Aside0 ((kk : Int) + 1 = badFrom t l ss 0) := ⟨by have := HD.out; rw [h5, if_neg (by simp)] at this; exact this⟩
        clear h5
        go_wp2
        go_ret
        exact ⟨by rw [← HD2.out]; rfl, BW4.out⟩
    · have hltz : ¬ (kk : Int) + 1 < (ss.length : Int) := by omega
      have HD2 : Aside0 (badFrom t l ss 0 = -1) := ⟨by rw [← HA.out]; exact badFrom_one (by rw [List.length_drop]; omega) _⟩
      go_wp2
      go_ret
      exact ⟨by rw [HD2.out]; rfl, BW0.out⟩
theorem scansIn_all {s : Int} {ss : List S31} (hs : s ≤ 8) (h : scansIn s ss = true) : ∀ x ∈ ss, ∃ a0 h0 : Nat, x = ⟨a0, h0⟩ ∧ a0 < 8 ∧ h0 < 301 := by
  intro x hx
  simp only [scansIn, allIn, Bool.and_eq_true, List.all_eq_true, List.mem_map] at h
  obtain ⟨a0, h0, h1, h2, h3, _⟩ := scansIn_nat (a := x) hs ⟨h.1 _ ⟨x, hx, rfl⟩, h.2 _ ⟨x, hx, rfl⟩⟩
  exact ⟨a0, h0, h1, h2, h3⟩
def checkRes (s t : Int) (l : List S44) (ss : List S31) : Bool × Int := coded (scansCodeB s t l ss) false (decide (badFrom t l ss 0 < 0))
def firstRes (s t : Int) (l : List S44) (ss : List S31) : Int × Int := if scansCodeB s t l ss = 0 then (if badFrom t l ss 0 < 0 then (0, 6) else (badFrom t l ss 0, 0)) else (0, scansCodeB s t l ss)
theorem scansCodeB_zero {s t : Int} {l : List S44} {ss : List S31} (h : scansCodeB s t l ss = 0) : netB s t l = true ∧ scansIn s ss = true ∧ ss.length ≤ 12 := by
  unfold scansCodeB at h
  split at h
  · split at h
    · split at h
      · exact ⟨‹_›, ‹_›, ‹_›⟩
      · cases h
    · cases h
  · cases h
set_option maxHeartbeats 4000000 in
set_option maxRecDepth 100000 in
theorem CheckScans_any (s t : Int) (A : Option Addr) (c : Nat) (l : List S44) (A1 : Option Addr) (c1 : Nat) (ss : List S31) (w : World) (hr : Kd.C k44 w A l.length l) (hc : l.length ≤ c) (hok : okNet s t l = true)
    (hr1 : Kd.C k31 w A1 ss.length ss) (hc1 : ss.length ≤ c1) (hl1 : ss.length ≤ 1048576) (hsc : ∀ x ∈ ss, okScan x = true) :
    Calls Try.prog 17 #[.agg #[.int .i8 s, .int .i16 t, .slice A l.length c], .slice A1 ss.length c1] w fun e w' =>
      e = .returned (.tuple #[.bool (checkRes s t l ss).1, .int .i64 (checkRes s t l ss).2]) ∧ Below w.heap.size w w' := by
  have HR := Aside0.mk hr
  have HR1 := Aside0.mk hr1
  have OK := Aside0.mk hok
  have HSC := Aside0.mk hsc
  clear hr hr1 hok hsc
  go_enter Try.func17, Try.ntmps17
  go_wp2_with fail
  refine (scansCode_is s t A c l A1 c1 ss _ (Kd.C_alloc HR.out _) hc OK.out (Kd.C_alloc HR1.out _) hc1 hl1 HSC.out).mono ?_
  rintro e w1 ⟨rfl, hb⟩
  have hb1 : Aside0 (Below w.heap.size w w1) := ⟨below_call hb⟩
  have hcl := (hb.cell (p := ⟨w.heap.size, 0, none⟩) (by simp)).trans (show _ = some (.int .i8 s) by go_simp)
  have hcm := (hb.cell (p := ⟨w.heap.size, 1, none⟩) (by simp)).trans (show _ = some (.int .i16 t) by go_simp)
  have hcn := (hb.cell (p := ⟨w.heap.size, 2, none⟩) (by simp)).trans (show _ = some (.slice A l.length c) by go_simp)
  clear hb
  by_cases h0 : scansCodeB s t l ss = 0
  · obtain ⟨h1, h2, h3⟩ := scansCodeB_zero h0
    obtain ⟨hl, hs1, hs8, ht0, ht1⟩ := laneV_of h1
    have HIN := Aside0.mk (scansIn_all hs8 h2)
    have HL := Aside0.mk hl
    have H0 := Aside0.mk h0
    rw [h0]
    clear h0 h1 h2 hl
    go_wp2_with fail
    refine (bad_is s t A c l A1 c1 ss _ (Kd.C_below HR.out hb1.out) hc (Kd.C_below HR1.out hb1.out) hc1 h3 HL.out ht0 ht1 HIN.out).mono ?_
    rintro e w2 ⟨rfl, hb2⟩
    have hb3 : Aside0 (Below w.heap.size w w2) := ⟨hb1.out.trans (hb2.mono hb1.out.size)⟩
    clear hb2 hcl hcm hcn
    have ER : Aside0 (checkRes s t l ss = (decide (badFrom t l ss 0 < 0), 0)) := ⟨by unfold checkRes coded; rw [if_pos H0.out]⟩
    generalize badFrom t l ss 0 = bd at *
    go_wp2
    go_ret2
    rw [ER.out]
    exact ⟨rfl, hb3.out⟩
  · have hne : (scansCodeB s t l ss != 0) = true := by simp [h0]
    have ER : Aside0 (checkRes s t l ss = (false, scansCodeB s t l ss)) := ⟨by unfold checkRes coded; rw [if_neg h0]⟩
    have H0 := Aside0.mk h0
    clear h0 hcl hcm hcn
    generalize hcd : scansCodeB s t l ss = cd at *
    go_wp2
    go_ret2
    rw [ER.out]
    exact ⟨rfl, hb1.out⟩
set_option maxHeartbeats 4000000 in
set_option maxRecDepth 100000 in
theorem FirstBadScan_any (s t : Int) (A : Option Addr) (c : Nat) (l : List S44) (A1 : Option Addr) (c1 : Nat) (ss : List S31) (w : World) (hr : Kd.C k44 w A l.length l) (hc : l.length ≤ c) (hok : okNet s t l = true)
    (hr1 : Kd.C k31 w A1 ss.length ss) (hc1 : ss.length ≤ c1) (hl1 : ss.length ≤ 1048576) (hsc : ∀ x ∈ ss, okScan x = true) :
    Calls Try.prog 18 #[.agg #[.int .i8 s, .int .i16 t, .slice A l.length c], .slice A1 ss.length c1] w fun e w' =>
      e = .returned (.tuple #[.int .i64 (firstRes s t l ss).1, .int .i64 (firstRes s t l ss).2]) ∧ Below w.heap.size w w' := by
  have HR := Aside0.mk hr
  have HR1 := Aside0.mk hr1
  have OK := Aside0.mk hok
  have HSC := Aside0.mk hsc
  clear hr hr1 hok hsc
  go_enter Try.func18, Try.ntmps18
  go_wp2_with fail
  refine (scansCode_is s t A c l A1 c1 ss _ (Kd.C_alloc HR.out _) hc OK.out (Kd.C_alloc HR1.out _) hc1 hl1 HSC.out).mono ?_
  rintro e w1 ⟨rfl, hb⟩
  have hb1 : Aside0 (Below w.heap.size w w1) := ⟨below_call hb⟩
  have hcl := (hb.cell (p := ⟨w.heap.size, 0, none⟩) (by simp)).trans (show _ = some (.int .i8 s) by go_simp)
  have hcm := (hb.cell (p := ⟨w.heap.size, 1, none⟩) (by simp)).trans (show _ = some (.int .i16 t) by go_simp)
  have hcn := (hb.cell (p := ⟨w.heap.size, 2, none⟩) (by simp)).trans (show _ = some (.slice A l.length c) by go_simp)
  clear hb
  by_cases h0 : scansCodeB s t l ss = 0
  · obtain ⟨h1, h2, h3⟩ := scansCodeB_zero h0
    obtain ⟨hl, hs1, hs8, ht0, ht1⟩ := laneV_of h1
    have HIN := Aside0.mk (scansIn_all hs8 h2)
    have HL := Aside0.mk hl
    have H0 := Aside0.mk h0
    rw [h0]
    clear h0 h1 h2 hl
    go_wp2_with fail
    refine (bad_is s t A c l A1 c1 ss _ (Kd.C_below HR.out hb1.out) hc (Kd.C_below HR1.out hb1.out) hc1 h3 HL.out ht0 ht1 HIN.out).mono ?_
    rintro e w2 ⟨rfl, hb2⟩
    have hb3 : Aside0 (Below w.heap.size w w2) := ⟨hb1.out.trans (hb2.mono hb1.out.size)⟩
    clear hb2 hcl hcm hcn
    by_cases hbd : badFrom t l ss 0 < 0
    · have ER : Aside0 (firstRes s t l ss = (0, 6)) := ⟨by unfold firstRes; rw [if_pos H0.out, if_pos hbd]⟩
      go_wp2
      go_ret2
      rw [ER.out]
      exact ⟨rfl, hb3.out⟩
    · have ER : Aside0 (firstRes s t l ss = (badFrom t l ss 0, 0)) := ⟨by unfold firstRes; rw [if_pos H0.out, if_neg hbd]⟩
      have hge : 0 ≤ badFrom t l ss 0 := by omega
      generalize badFrom t l ss 0 = bd at *
      go_wp2
      go_ret2
      rw [ER.out]
      exact ⟨rfl, hb3.out⟩
  · have hne : (scansCodeB s t l ss != 0) = true := by simp [h0]
    have ER : Aside0 (firstRes s t l ss = (0, scansCodeB s t l ss)) := ⟨by unfold firstRes; rw [if_neg h0]⟩
    have H0 := Aside0.mk h0
    clear h0 hcl hcm hcn
    generalize hcd : scansCodeB s t l ss = cd at *
    go_wp2
    go_ret2
    rw [ER.out]
    exact ⟨rfl, hb1.out⟩
def impl_CheckScans.f (a0_0 : Int) (a0_1 : Int) (l0_2 : List (S44)) (l1 : List (S31)) : Option (Bool × Int) :=
  if okNet a0_0 a0_1 l0_2 = true ∧ l1.length ≤ 1048576 ∧ l1.all okScan = true then some (checkRes a0_0 a0_1 l0_2 l1) else none
theorem impl_CheckScans.calls (a0_0 : Int) (a0_1 : Int) (A0_2 : Option Addr) (c0_2 : Nat) (l0_2 : List (S44)) (A1 : Option Addr) (c1 : Nat) (l1 : List (S31)) (r1 : Bool) (r2 : Int) (w : World) (hr0_2 : Kd.C k44 w A0_2 l0_2.length l0_2) (hc0_2 : l0_2.length ≤ c0_2) (hr1 : Kd.C k31 w A1 l1.length l1) (hc1 : l1.length ≤ c1) (h : impl_CheckScans.f a0_0 a0_1 l0_2 l1 = some (r1, r2)) :
    Calls Try.prog 17 #[.agg #[.int .i8 a0_0, .int .i16 a0_1, .slice A0_2 l0_2.length c0_2], .slice A1 l1.length c1] w fun e w' => e = .returned (.tuple #[.bool r1, .int .i64 r2]) ∧ Below w.heap.size w w' := by
  unfold impl_CheckScans.f at h
  split at h
  · injection h with h
    have h1 : (checkRes a0_0 a0_1 l0_2 l1).1 = r1 := by rw [h]
    have h2 : (checkRes a0_0 a0_1 l0_2 l1).2 = r2 := by rw [h]
    rw [← h1, ← h2]
    rename_i hh
    exact CheckScans_any _ _ _ _ _ _ _ _ w hr0_2 hc0_2 hh.1 hr1 hc1 hh.2.1 (List.all_eq_true.1 hh.2.2)
  · cases h
def impl_FirstBadScan.f (a0_0 : Int) (a0_1 : Int) (l0_2 : List (S44)) (l1 : List (S31)) : Option (Int × Int) :=
  if okNet a0_0 a0_1 l0_2 = true ∧ l1.length ≤ 1048576 ∧ l1.all okScan = true then some (firstRes a0_0 a0_1 l0_2 l1) else none
theorem impl_FirstBadScan.calls (a0_0 : Int) (a0_1 : Int) (A0_2 : Option Addr) (c0_2 : Nat) (l0_2 : List (S44)) (A1 : Option Addr) (c1 : Nat) (l1 : List (S31)) (r1 : Int) (r2 : Int) (w : World) (hr0_2 : Kd.C k44 w A0_2 l0_2.length l0_2) (hc0_2 : l0_2.length ≤ c0_2) (hr1 : Kd.C k31 w A1 l1.length l1) (hc1 : l1.length ≤ c1) (h : impl_FirstBadScan.f a0_0 a0_1 l0_2 l1 = some (r1, r2)) :
    Calls Try.prog 18 #[.agg #[.int .i8 a0_0, .int .i16 a0_1, .slice A0_2 l0_2.length c0_2], .slice A1 l1.length c1] w fun e w' => e = .returned (.tuple #[.int .i64 r1, .int .i64 r2]) ∧ Below w.heap.size w w' := by
  unfold impl_FirstBadScan.f at h
  split at h
  · injection h with h
    have h1 : (firstRes a0_0 a0_1 l0_2 l1).1 = r1 := by rw [h]
    have h2 : (firstRes a0_0 a0_1 l0_2 l1).2 = r2 := by rw [h]
    rw [← h1, ← h2]
    rename_i hh
    exact FirstBadScan_any _ _ _ _ _ _ _ _ w hr0_2 hc0_2 hh.1 hr1 hc1 hh.2.1 (List.all_eq_true.1 hh.2.2)
  · cases h
end Go.Proofs.Yticfecncdpdanaa.Q
