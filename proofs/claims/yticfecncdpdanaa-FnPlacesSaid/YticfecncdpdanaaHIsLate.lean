/- impl's IsLate. -/
import Derived.Test.YticfecncdpdanaaHBad
import Derived.Test.YticfecncdpdanaaMB
import Derived.Test.YticfecncdpdanaaMA
import Derived.Deep.MidRow
set_option linter.unusedVariables false
set_option linter.unusedSimpArgs false
namespace Go.Proofs.Yticfecncdpdanaa.Q
open Go.RowKit Go.Proofs.YticfecncdpdanaaW.PrintWords Go.Proofs.YticfecncdpdanaaW.PrintLast Go.Proofs.YticfecncdpdanaaW.PrintMore
set_option maxHeartbeats 1000000 in
theorem indexB_cut (g n c : Nat) (T : TypeId) (G : List Bool) (hn : n ≤ G.length) (hb : n ≤ 1048576) (w : World) (hr : RowAt w g T G) :
    Calls Try.prog 79 #[.slice (some ⟨g, 0, none⟩) n c, .bool true] w fun e w' => e = .returned (.int .i64 (trueFrom (G.take n) 0)) ∧ w = w' := by
  have HR := Aside0.mk hr
  clear hr
  have lt : (G.take n).length = n := by rw [List.length_take]; omega
  go_enter Try.func79, Try.ntmps79
  go_wp2
  go_loopg [8] n (fun gg v8 wr => ∃ (kk : Nat), kk ≤ n ∧ n - kk ≤ gg ∧ v8 = .int .i64 kk ∧ Aside0 (trueFrom ((G.take n).drop kk) kk = trueFrom (G.take n) 0) ∧ wr = w)
  case atStart => exact ⟨0, by omega, by omega, rfl, ⟨rfl⟩, rfl⟩
  case round =>
    obtain ⟨kk, hkk, hg, rfl, HA, rfl⟩ := hrel
    by_cases hlt : kk < n
    · have hltz : (kk : Int) < (n : Int) := by omega
      have hx0 := HR.out.cell kk (by omega)
      have hd := drop_cons_of' (G.take n) false kk (by omega)
      have he : (G.take n).getD kk false = G.getD kk false := by rw [List.getD_eq_getElem?_getD, List.getD_eq_getElem?_getD, List.getElem?_take_of_lt hlt]
      cases hq : G.getD kk false with
      | false =>
        rw [hq] at hx0 he
        rw [he] at hd
        have HD : Aside0 (trueFrom ((G.take n).drop (kk + 1)) ((kk : Int) + 1) = trueFrom (G.take n) 0) := ⟨by rw [← HA.out, hd, trueFrom, if_neg (by simp)]⟩
        clear hd HA hq he lt
        go_wp2
        go_roundg (n - (kk + 1))
        case measure => omega
        case rel => exact ⟨kk + 1, by omega, by omega, by go_num, HD, rfl⟩
      | true =>
        rw [hq] at hx0 he
        rw [he] at hd
        have HD : Aside0 ((kk : Int) = trueFrom (G.take n) 0) := ⟨by rw [← HA.out, hd, trueFrom, if_pos rfl]⟩
        clear hd HA hq he lt
        go_wp2
        go_ret
        exact ⟨by rw [← HD.out]; rfl, rfl⟩
    · have hltz : ¬ (kk : Int) < (n : Int) := by omega
      have HD : Aside0 (trueFrom (G.take n) 0 = -1) := ⟨by rw [← HA.out, List.drop_of_length_le (by omega)]; rfl⟩
      clear lt
      go_wp2
      go_ret
      exact ⟨by rw [HD.out]; rfl, rfl⟩
theorem containsB_cut (g n c : Nat) (T : TypeId) (G : List Bool) (hn : n ≤ G.length) (hb : n ≤ 1048576) (w : World) (hr : RowAt w g T G) :
    Calls Try.prog 60 #[.slice (some ⟨g, 0, none⟩) n c, .bool true] w fun e w' => e = .returned (.bool (decide (0 ≤ trueFrom (G.take n) 0))) ∧ w = w' := by
  have HR := Aside0.mk hr
  clear hr
  go_enter Try.func60, Try.ntmps60
  go_wp2_with fail
  refine (indexB_cut g n c T G hn hb _ HR.out).mono ?_
  rintro e w' ⟨rfl, rfl⟩
  go_wp2
  go_ret
  exact ⟨rfl, rfl⟩
theorem below_setCells {B : Nat} {a w : World} (h : Below B a w) {b : Nat} (hb : B ≤ b) (o : Nat) (vs : List Value) : Below B a (w.setCells b o vs) := by
  obtain ⟨s1, s2, s3, s4⟩ := setCells_same b vs o w
  exact ⟨s1.trans h.os, s2.trans h.tape, s3.trans h.output, by rw [s4]; exact h.size, fun k hk => (setCells_far vs o k (by omega)).trans (h.block k hk)⟩
theorem bcells_one (P : List Bool) : ∀ v ∈ (bcells P).toList, v.oneCell' = true := by
  intro v hv
  rw [bcells_list] at hv
  obtain ⟨x, _, rfl⟩ := List.mem_map.1 hv
  rfl
theorem RowAt.cells {w : World} {b : Nat} {T : TypeId} {F P : List Bool} (h : RowAt w b T F) (hl : F.length = P.length) : RowAt (w.setCells b 0 (bcells P).toList) b T P := by
  obtain ⟨cur, h1, h2, h3⟩ := setCells_row (bcells P).toList 0 w _ h.out (by rw [Array.length_toList, bcells_size, bcells_size]; omega)
  refine ⟨?_⟩
  rw [h1]
  have : cur = bcells P := by
    apply Array.ext'
    rw [h3, List.drop_of_length_le (by rw [Array.length_toList, Array.length_toList, bcells_size, bcells_size]; omega)]
    simp
  rw [this]
theorem RowAt.there {w : World} {b : Nat} {T : TypeId} {F : List Bool} (h : RowAt w b T F) {n : Nat} (hn : n ≤ F.length) : w.there b 0 n := by
  intro j hj
  have h1 := h.cell j (by omega)
  rw [Nat.zero_add]
  exact ⟨by rw [h1]; rfl, frozen_of_row w b j _ _ h.out⟩
theorem cells6 {V W : World} {p0 p1 p2 p3 p4 p5 : Addr} {v0 v1 v2 v3 v4 v5 : Value} (q0 : V.cell? p0 = some v0) (q1 : V.cell? p1 = some v1) (q2 : V.cell? p2 = some v2) (q3 : V.cell? p3 = some v3) (q4 : V.cell? p4 = some v4) (q5 : V.cell? p5 = some v5) (hB : Below V.heap.size V W) :
    W.cell? p0 = some v0 ∧ W.cell? p1 = some v1 ∧ W.cell? p2 = some v2 ∧ W.cell? p3 = some v3 ∧ W.cell? p4 = some v4 ∧ W.cell? p5 = some v5 ∧ Below V.heap.size V W :=
  ⟨pw_cell_below hB q0, pw_cell_below hB q1, pw_cell_below hB q2, pw_cell_below hB q3, pw_cell_below hB q4, pw_cell_below hB q5, hB⟩
/-- The code of a net, a station, an hour and a list of scans. -/
def lateCode (s t : Int) (l : List S44) (ss : List S31) (st pr : Int) : Int := if netB s t l = true then (if ((inB st 0 (s - 1) && inB pr 0 300) && scansIn s ss) = true then (if ss.length ≤ 12 then 0 else 3) else 2) else 1
theorem firstB_late (s t : Int) (l : List S44) (ss : List S31) (st pr : Int) : firstB [codeB (netB s t l) (allIn [st] 0 (s - 1) && allIn [pr] 0 300), scansCodeB s t l ss] = lateCode s t l ss st pr := by
  rw [allIn_one, allIn_one]
  unfold lateCode scansCodeB
  cases netB s t l <;> cases inB st 0 (s - 1) <;> cases inB pr 0 300 <;> cases scansIn s ss <;> simp [firstB, codeB] <;> split <;> simp_all
def lateAt (st pr : Int) (x : S31) : Bool := x.f0 == st && decide (x.f1 ≤ pr)
def lateRes (s t : Int) (l : List S44) (ss : List S31) (st pr : Int) : Bool × Int :=
  if lateCode s t l ss st pr = 0 then (match ss.getLast? with
    | none => (false, 4)
    | some b => if 0 ≤ badFrom t l ss 0 then (false, 4) else if ss.any (lateAt st pr) = true then (false, 0) else (!decide (0 ≤ firstH (fun h => arrB t l b.f0.toNat b.f1.toNat st.toNat h) (pr.toNat + 1) 0), 0)) else (false, lateCode s t l ss st pr)
theorem late_pred (B1 B2 : Nat) (st pr : Int) (ss : List S31) (w : World) (h1 : B1 < w.heap.size) (h2 : B2 < w.heap.size) (c1 : w.cell? ⟨B1, 0, none⟩ = some (.int .i64 st)) (c2 : w.cell? ⟨B2, 0, none⟩ = some (.int .i64 pr)) (hss : ∀ x ∈ ss, okScan x = true) :
    PredScan 59 #[.pointer (some ⟨B1, 0, none⟩), .pointer (some ⟨B2, 0, none⟩)] (lateAt st pr) ss w := by
  intro W x hx hb
  have d1 := (hb.cell (p := ⟨B1, 0, none⟩) h1).trans c1
  have d2 := (hb.cell (p := ⟨B2, 0, none⟩) h2).trans c2
  have hB1 : B1 < W.heap.size := Nat.lt_of_lt_of_le h1 hb.size
  have hB2 : B2 < W.heap.size := Nat.lt_of_lt_of_le h2 hb.size
  have hok := okScan_iff.1 (hss x hx)
  obtain ⟨f, g⟩ := x
  simp only at hok
  obtain ⟨g0, g1, g2, g3⟩ := hok
  clear c1 c2 hx hb hss h1 h2
  simp only [List.append_toArray, List.cons_append, List.nil_append]
  cases hq : (f == st) with
  | true =>
    have E : Aside0 (lateAt st pr ⟨f, g⟩ = decide (g ≤ pr)) := ⟨by simp [lateAt, hq]⟩
    go_enter Try.func59, Try.ntmps59
    go_wp2
    go_ret
    exact ⟨by rw [E.out]; rfl, (Below.refl _ _).alloc (Nat.le_refl _) _⟩
  | false =>
    have E : Aside0 (lateAt st pr ⟨f, g⟩ = false) := ⟨by simp [lateAt, hq]⟩
    go_enter Try.func59, Try.ntmps59
    go_wp2
    go_ret
    exact ⟨by rw [E.out]; rfl, (Below.refl _ _).alloc (Nat.le_refl _) _⟩
attribute [local go_sem] zcH noHours_length setRow_alloc_at setRow_alloc_past bcells_set bcells_size List.length_set
set_option maxHeartbeats 4000000 in
set_option maxRecDepth 100000 in
theorem IsLate_any (s t : Int) (A : Option Addr) (c : Nat) (l : List S44) (A1 : Option Addr) (c1 : Nat) (ss : List S31) (st pr : Int) (w : World) (hr : Kd.C k44 w A l.length l) (hc : l.length ≤ c) (hok : okNet s t l = true)
    (hr1 : Kd.C k31 w A1 ss.length ss) (hc1 : ss.length ≤ c1) (hl1 : ss.length ≤ 1048576) (hsc : ∀ x ∈ ss, okScan x = true) :
    Calls Try.prog 25 #[.agg #[.int .i8 s, .int .i16 t, .slice A l.length c], .slice A1 ss.length c1, .int .i64 st, .int .i64 pr] w fun e w' => e = .returned (.tuple #[.bool (lateRes s t l ss st pr).1, .int .i64 (lateRes s t l ss st pr).2]) ∧ Below w.heap.size w w' := by
  have HR := Aside0.mk hr
  have HR1 := Aside0.mk hr1
  have OK := Aside0.mk hok
  have HSC := Aside0.mk hsc
  clear hr hr1 hok hsc
  go_enter Try.func25, Try.ntmps25
  go_wp2
  obtain ⟨V, hV⟩ : ∃ V, V = (((w.alloc (.cells #[.int .i8 s, .int .i16 t, .slice A l.length c] 28)).alloc (.cells #[.int .i64 st] 2)).alloc (.cells #[.int .i64 pr] 2)) := ⟨_, rfl⟩
  have HBW : Aside0 (Below w.heap.size w V) := ⟨by rw [hV]; exact (((Below.refl _ _).alloc (Nat.le_refl _) _).alloc (by simp) _).alloc (by simp; omega) _⟩
  have hzV : Aside0 (V.heap.size = w.heap.size + 1 + 1 + 1) := ⟨by rw [hV]; simp⟩
  have q0 : V.cell? ⟨w.heap.size, 0, none⟩ = some (.int .i8 s) := by rw [hV]; go_simp
  have q1 : V.cell? ⟨w.heap.size, 1, none⟩ = some (.int .i16 t) := by rw [hV]; go_simp
  have q2 : V.cell? ⟨w.heap.size, 2, none⟩ = some (.slice A l.length c) := by rw [hV]; go_simp
  have q3 : V.cell? ⟨w.heap.size + 1, 0, none⟩ = some (.int .i64 st) := by rw [hV]; go_simp
  have q4 : V.cell? ⟨w.heap.size + 1 + 1, 0, none⟩ = some (.int .i64 pr) := by rw [hV]; go_simp
  rw [← hV]
  clear hV
  have HRV := Aside0.mk (Kd.C_below HR.out HBW.out)
  have HRV1 := Aside0.mk (Kd.C_below HR1.out HBW.out)
  go_cut [10] from 12 to 22 (fun v10 wx => v10 = .int .i64 (lateCode s t l ss st pr) ∧ Aside0 (Below V.heap.size V wx))
  case first =>
    have hbr : Below V.heap.size V V := Below.refl _ _
    go_region_held_law (fun w' => w'.cell? ⟨w.heap.size, 0, none⟩ = some (.int .i8 s) ∧ w'.cell? ⟨w.heap.size, 1, none⟩ = some (.int .i16 t) ∧ w'.cell? ⟨w.heap.size, 2, none⟩ = some (.slice A l.length c) ∧ w'.cell? ⟨w.heap.size + 1, 0, none⟩ = some (.int .i64 st) ∧ w'.cell? ⟨w.heap.size + 1 + 1, 0, none⟩ = some (.int .i64 pr) ∧ Below V.heap.size V w')
      ((refine cells5 q0 q1 q2 q3 q4 ?_; (try go_split_ands); first | ((repeat (with_reducible first | assumption | apply Below.drew | apply below_alloc1)); done) | exact below_call1 (by assumption) hb20 | exact below_call1 (by assumption) hb17 | exact below_call1 (by repeat (with_reducible first | assumption | apply Below.drew | apply below_alloc1)) hb20 | exact below_call1 (by repeat (with_reducible first | assumption | apply Below.drew | apply below_alloc1)) hb17))
      (first
        | (go_at_call 33; refine (netCode_is s t A c l _ _ [st] _ _ [pr] _ (Kd.C_below HRV.out (by go_split_ands; repeat (with_reducible first | assumption | apply Below.drew | apply below_alloc1))) hc OK.out (by repeat (with_reducible first | apply Kd.C_drew | exact one_reads' _ _ (by simp) st | apply Kd.C_alloc | refine Kd.C_below ?_ hb20)) (by simp) (by repeat (with_reducible first | apply Kd.C_drew | exact one_reads' _ _ (by simp) pr | apply Kd.C_alloc | refine Kd.C_below ?_ hb20)) (by simp)).mono ?_; rintro e w17 ⟨rfl, hb17⟩)
        | (go_at_call 46; refine (scansCode_is s t A c l A1 c1 ss _ (Kd.C_below HRV.out (by go_split_ands; repeat (with_reducible first | assumption | apply Below.drew | apply below_alloc1))) hc OK.out (Kd.C_below HRV1.out (by go_split_ands; repeat (with_reducible first | assumption | apply Below.drew | apply below_alloc1))) hc1 hl1 HSC.out).mono ?_; rintro e w20 ⟨rfl, hb20⟩)
        | (go_at_call 31; refine (firstOf_is _ _ [_, _] _ (by repeat (with_reducible first | apply Kd.C_drew | exact two_reads _ _ (by simp) _ _ | apply Kd.C_alloc)) (by simp) (by simp)).mono ?_; rintro e w22 ⟨rfl, rfl⟩))
    all_goals
      go_wp2_with fail
      go_meet
      go_split_ands
      exact ⟨by rw [firstB_late], ⟨by repeat (with_reducible first | assumption | apply Below.drew | apply below_alloc1)⟩⟩
  case rest =>
    obtain ⟨rfl, HX⟩ := hcut
    have hzz := hzV.out
    have d0 := pw_cell_below HX.out q0
    have d1 := pw_cell_below HX.out q1
    have d2 := pw_cell_below HX.out q2
    have d3 := pw_cell_below HX.out q3
    have d4 := pw_cell_below HX.out q4
    have hb1 : Aside0 (Below w.heap.size w wc) := ⟨HBW.out.trans (HX.out.mono HBW.out.size)⟩
    have Q0 := Aside0.mk q0
    have Q1 := Aside0.mk q1
    have Q2 := Aside0.mk q2
    have Q3 := Aside0.mk q3
    have Q4 := Aside0.mk q4
    clear q0 q1 q2 q3 q4
    cases h1 : netB s t l with
    | false =>
      have EC : lateCode s t l ss st pr = 1 := by unfold lateCode; rw [h1]; rfl
      have ER : Aside0 (lateRes s t l ss st pr = (false, 1)) := ⟨by unfold lateRes; rw [EC]; rfl⟩
      rw [EC]
      clear h1 EC
      go_wp2
      go_ret2
      rw [ER.out]
      exact ⟨rfl, hb1.out⟩
    | true =>
      cases h2 : ((inB st 0 (s - 1) && inB pr 0 300) && scansIn s ss) with
      | false =>
        have EC : lateCode s t l ss st pr = 2 := by unfold lateCode; rw [h1, h2]; rfl
        have ER : Aside0 (lateRes s t l ss st pr = (false, 2)) := ⟨by unfold lateRes; rw [EC]; rfl⟩
        rw [EC]
        clear h1 h2 EC
        go_wp2
        go_ret2
        rw [ER.out]
        exact ⟨rfl, hb1.out⟩
      | true =>
        by_cases h3 : ss.length ≤ 12
        · have EC : lateCode s t l ss st pr = 0 := by unfold lateCode; rw [h1, h2, if_pos rfl, if_pos rfl, if_pos h3]
          rw [EC]
          obtain ⟨hl, hs1, hs8, ht0, ht1⟩ := laneV_of h1
          rw [Bool.and_eq_true, Bool.and_eq_true] at h2
          obtain ⟨⟨hst, hpr⟩, hsi⟩ := h2
          have hall := scansIn_all hs8 hsi
          obtain ⟨hst0, hst1⟩ := inB_true.1 hst
          obtain ⟨hpr0, hpr1⟩ := inB_true.1 hpr
          obtain ⟨st, rfl⟩ := Int.eq_ofNat_of_zero_le hst0
          obtain ⟨pr, rfl⟩ := Int.eq_ofNat_of_zero_le hpr0
          have hst8 : st < 8 := by omega
          have hpr3 : pr < 301 := by omega
          have HL := Aside0.mk hl
          have HALL := Aside0.mk hall
          clear h1 hl hst hpr hsi hall hst0 hst1 hpr0 hpr1
          cases hg : ss.getLast? with
          | none =>
            have hn : ss = [] := List.getLast?_eq_none_iff.1 hg
            have ER : Aside0 (lateRes s t l ss st pr = (false, 4)) := ⟨by unfold lateRes; rw [EC, hg]; rfl⟩
            have hlen : ss.length = 0 := by rw [hn]; rfl
            have hlz : ((ss.length : Int) == 0) = true := by rw [hlen]; rfl
            clear hn EC hg hlen
            go_wp2
            go_ret2
            rw [ER.out]
            exact ⟨rfl, hb1.out⟩
          | some b =>
            have hlz : ((ss.length : Int) == 0) = false := by
              cases ss with
              | nil => cases hg
              | cons x r => exact beq_false_of_ne (by simp; omega)
            have HG := Aside0.mk hg
            have HEC := Aside0.mk EC
            clear EC hg
            go_wp2_with fail
            refine (bad_is s t A c l A1 c1 ss _ (Kd.C_below HRV.out HX.out) hc (Kd.C_below HRV1.out HX.out) hc1 h3 HL.out ht0 ht1 HALL.out).mono ?_
            rintro e w2 ⟨rfl, hb2⟩
            have HX2 : Aside0 (Below V.heap.size V w2) := ⟨HX.out.trans (hb2.mono HX.out.size)⟩
            have hb3 : Aside0 (Below w.heap.size w w2) := ⟨HBW.out.trans (HX2.out.mono HBW.out.size)⟩
            have hz2 := HX2.out.size
            clear hb2 d0 d1 d2 d3 d4
            have d0 := pw_cell_below HX2.out Q0.out
            have d1 := pw_cell_below HX2.out Q1.out
            have d2 := pw_cell_below HX2.out Q2.out
            have d3 := pw_cell_below HX2.out Q3.out
            have d4 := pw_cell_below HX2.out Q4.out
            by_cases hbad : 0 ≤ badFrom t l ss 0
            · have ER : Aside0 (lateRes s t l ss st pr = (false, 4)) := ⟨by unfold lateRes; rw [HEC.out, HG.out]; simp [hbad]⟩
              go_wp2
              go_ret2
              rw [ER.out]
              exact ⟨rfl, hb3.out⟩
            · have eg := enters_of Try.func59 (by kernel_rfl) rfl
              have hl1z : w.heap.size + 1 < w2.heap.size := by omega
              have hl2z : w.heap.size + 1 + 1 < w2.heap.size := by omega
              go_wp2_with fail
              refine (containsFunc_Scan 59 _ eg (lateAt st pr) A1 c1 ss _ (Kd.C_below HRV1.out HX2.out) hc1 (late_pred (w.heap.size + 1) (w.heap.size + 1 + 1) st pr ss _ hl1z hl2z d3 d4 HSC.out)).mono ?_
              rintro e w3 ⟨rfl, hb4⟩
              have HX3 : Aside0 (Below V.heap.size V w3) := ⟨HX2.out.trans (hb4.mono HX2.out.size)⟩
              have hb5 : Aside0 (Below w.heap.size w w3) := ⟨HBW.out.trans (HX3.out.mono HBW.out.size)⟩
              have hz3 := HX3.out.size
              clear hb4 d0 d1 d2 d3 d4
              have d0 := pw_cell_below HX3.out Q0.out
              have d1 := pw_cell_below HX3.out Q1.out
              have d2 := pw_cell_below HX3.out Q2.out
              have d3 := pw_cell_below HX3.out Q3.out
              have d4 := pw_cell_below HX3.out Q4.out
              cases hany : ss.any (lateAt st pr) with
              | true =>
                have ER : Aside0 (lateRes s t l ss st pr = (false, 0)) := ⟨by unfold lateRes; rw [HEC.out, HG.out]; simp [hbad, hany]⟩
                clear hany
                go_wp2
                go_ret2
                rw [ER.out]
                exact ⟨rfl, hb5.out⟩
              | false =>
                have ER : Aside0 (lateRes s t l ss st pr = (!decide (0 ≤ firstH (fun h => arrB t l b.f0.toNat b.f1.toNat st h) (pr + 1) 0), 0)) := ⟨by unfold lateRes; rw [HEC.out, HG.out]; simp [hbad, hany]⟩
                obtain ⟨x0, x1, hbx, hx0, hx1⟩ := HALL.out b (List.mem_of_getLast? HG.out)
                have hlen0 : 0 < ss.length := by
                  cases ss with
                  | nil => cases HG.out
                  | cons x r => simp
                obtain ⟨ad, e, hy0, hy1⟩ := at_T31 (Kd.C_below HRV1.out HX3.out) ((ss.length - 1 : Nat) : Int) (by omega) (by omega)
                have hgb : ss.getD (ss.length - 1) z31 = ⟨(x0 : Int), (x1 : Int)⟩ := by
                  have h1 := HG.out
                  rw [List.getLast?_eq_getElem?] at h1
                  rw [List.getD_eq_getElem?_getD, h1, ← hbx]
                  rfl
                simp only [rd_T31, Int.toNat_natCast, hgb] at hy0 hy1
                rw [hbx] at ER
                simp only [Int.toNat_natCast] at ER
                subst e
                have i1 : ((ss.length - 1 : Nat) : Int) = (ss.length : Int) - 1 := by omega
                have i2 : IntKind.i64.wrap ((ss.length : Int) - 1) = (ss.length : Int) - 1 := IntWalk.i64_in _ (by omega)
                have i3 : (0 : Int) ≤ (ss.length : Int) - 1 := by omega
                have i4 : ((ss.length : Int) - 1).toNat = ss.length - 1 := by omega
                have i5 : (ss.length : Int) - 1 < (ss.length : Int) := by omega
                have HBR := Aside0.mk (Below.refl w3.heap.size w3)
                clear hany hgb hbx
                go_wp2
                go_cut [11] from 40 to 49 (fun v11 wx => ∃ (g : Nat) (P : List Bool), v11 = .pointer (some ⟨g, 0, none⟩) ∧ V.heap.size ≤ g ∧ P.length = 301 ∧ Aside0 (RowAt wx g 65 P) ∧ Aside0 (∀ h, h < 301 → P.getD h false = arrB t l x0 x1 st h) ∧ Aside0 (Below V.heap.size V wx))
                case first =>
                  have hbr : Below w3.heap.size w3 w3 := Below.refl _ _
                  go_region_held_law (fun w' => w'.cell? ⟨w.heap.size, 0, none⟩ = some (.int .i8 s) ∧ w'.cell? ⟨w.heap.size, 1, none⟩ = some (.int .i16 t) ∧ w'.cell? ⟨w.heap.size, 2, none⟩ = some (.slice A l.length c) ∧ w'.cell? ⟨w.heap.size + 1, 0, none⟩ = some (.int .i64 (st : Int)) ∧ w'.cell? (ad.add ((ss.length - 1) * 2)) = some (.int .i8 (x0 : Int)) ∧ w'.cell? ⟨(ad.add ((ss.length - 1) * 2)).block, (ad.add ((ss.length - 1) * 2)).off + 1, none⟩ = some (.int .i16 (x1 : Int)) ∧ Below w3.heap.size w3 w')
                    ((refine cells6 d0 d1 d2 d3 hy0 hy1 ?_; (try go_split_ands); first | ((repeat (with_reducible first | assumption | apply Below.drew | apply below_alloc1)); done) | exact below_call1 (by assumption) hb7 | exact below_call1 (by repeat (with_reducible first | assumption | apply Below.drew | apply below_alloc1)) hb7 | (refine below_setCells (by repeat (with_reducible first | assumption | apply Below.drew | apply below_alloc1)) ?_ _ _; first | exact Nat.le_refl _ | (have h7 := hb7.size; simp at h7; simp; omega))))
                    ((go_at_call 34; refine (all_is s t A c l x0 x1 _ (Kd.C_below (Kd.C_below HRV.out HX3.out) (by go_split_ands; repeat (with_reducible first | assumption | apply Below.drew | apply below_alloc1))) hc HL.out ht0 ht1 hx0 hx1).mono ?_; rintro e w7 ⟨N, lN, hN, rfl, hb7⟩; have hixT := fun w => run_indexT .i64 N lN st hst8 w; have lp := part_length N (st * 301) 301 (by omega); have hone := bcells_one ((N.drop (st * 301)).take 301); have hsz1 : Option.map (fun x => x.size) (Try.prog.info? 65) = some (bcells ((N.drop (st * 301)).take 301)).toList.length := (by rw [Array.length_toList, bcells_size, lp]; exact sizeH); have hth1 : (w7.alloc (.cells (bcells noHours) 65)).there w7.heap.size 0 (bcells ((N.drop (st * 301)).take 301)).toList.length := (RowAt.new _ _ rfl _ _).there (by rw [Array.length_toList, bcells_size, lp, noHours_length]; exact Nat.le_refl _); try have hrw2 : RowAt w7 w3.heap.size 65 noHours := (by first | exact (RowAt.new _ w3.heap.size (by simp) _ _).below hb7 (by simp) | exact ((RowAt.new _ w3.heap.size (by simp) _ _).drew).below hb7 (by simp)); try have hth2 : w7.there w3.heap.size 0 (bcells ((N.drop (st * 301)).take 301)).toList.length := hrw2.there (by rw [Array.length_toList, bcells_size, lp, noHours_length]; exact Nat.le_refl _)))
                  all_goals
                    go_wp2_with fail
                    go_meet
                    go_split_ands
                    refine ⟨_, (N.drop (st * 301)).take 301, rfl, ?_, lp, ?_, ⟨fun h hh => by rw [part_getD _ _ _ _ hh, ← arrB_eq HL.out hN hst8 hh]; rfl⟩, ⟨HX3.out.trans (Below.mono (by assumption) hz3)⟩⟩
                    · have h7 := hb7.size
                      simp at h7
                      omega
                    · first
                        | exact ⟨RowAt.cells (RowAt.new _ _ rfl _ _) (by rw [lp, noHours_length])⟩
                        | exact ⟨RowAt.cells hrw2 (by rw [lp, noHours_length])⟩
                case rest =>
                  obtain ⟨gb, P, rfl, hgb, lP, HRP, HEP, HX7⟩ := hcut
                  have HB7 : Aside0 (Below w.heap.size w wc) := ⟨HBW.out.trans (HX7.out.mono HBW.out.size)⟩
                  clear d0 d1 d2 d3 d4 hy0 hy1 i1 i2 i3 i4 i5
                  have d4 := pw_cell_below HX7.out Q4.out
                  have j1 : (pr : Int) + 1 ≤ 301 := by omega
                  have j2 : IntKind.i64.wrap ((pr : Int) + 1) = ((pr + 1 : Nat) : Int) := by rw [IntWalk.i64_in _ (by omega)]; omega
                  have HF : Aside0 (trueFrom (P.take (pr + 1)) 0 = firstH (fun h => arrB t l x0 x1 st h) (pr + 1) 0) := ⟨by
                    have lt : (P.take (pr + 1)).length = pr + 1 := by rw [List.length_take]; omega
                    have := trueFrom_eq (fun h => arrB t l x0 x1 st h) (P.take (pr + 1)) 0 (fun i hi => by
                      rw [lt] at hi
                      rw [List.getD_eq_getElem?_getD, List.getElem?_take_of_lt hi, ← List.getD_eq_getElem?_getD, HEP.out i (by omega), Nat.zero_add])
                    rw [lt] at this
                    exact this⟩
                  have hsl : Sem.run Try.prog (Instr.sliceAt 65 (Value.pointer (some ⟨gb, 0, none⟩)) none (some (Value.int .i64 ((pr : Int) + 1))) none) wc = .ok (.slice (some ⟨gb, 0, none⟩) (pr + 1) 301) wc := by
                    simp [Instr.sliceAt, Instr.sureAddr, run_underlying Try.underlying65, Try.sizeOf4, Instr.sliceBounds, run_sliceBound, j1, (by omega : (0 : Int) ≤ (pr : Int) + 1), (by omega : ((pr : Int) + 1).toNat = pr + 1)]; rfl
                  go_wp2_with fail
                  refine (containsB_cut gb (pr + 1) 301 65 P (by omega) (by omega) _ HRP.out).mono ?_
                  rintro e w' ⟨rfl, rfl⟩
                  rw [HF.out]
                  go_wp2
                  go_ret2
                  rw [ER.out]
                  exact ⟨rfl, HB7.out⟩
        · have EC : lateCode s t l ss st pr = 3 := by unfold lateCode; rw [h1, h2, if_pos rfl, if_pos rfl, if_neg h3]
          have ER : Aside0 (lateRes s t l ss st pr = (false, 3)) := ⟨by unfold lateRes; rw [EC]; rfl⟩
          rw [EC]
          clear h1 h2 EC
          go_wp2
          go_ret2
          rw [ER.out]
          exact ⟨rfl, hb1.out⟩
def impl_IsLate.f (a0_0 : Int) (a0_1 : Int) (l0_2 : List (S44)) (l1 : List (S31)) (a2 : Int) (a3 : Int) : Option (Bool × Int) :=
  if okNet a0_0 a0_1 l0_2 = true ∧ l1.length ≤ 1048576 ∧ l1.all okScan = true then some (lateRes a0_0 a0_1 l0_2 l1 a2 a3) else none
theorem impl_IsLate.calls (a0_0 : Int) (a0_1 : Int) (A0_2 : Option Addr) (c0_2 : Nat) (l0_2 : List (S44)) (A1 : Option Addr) (c1 : Nat) (l1 : List (S31)) (a2 : Int) (a3 : Int) (r1 : Bool) (r2 : Int) (w : World) (hr0_2 : Kd.C k44 w A0_2 l0_2.length l0_2) (hc0_2 : l0_2.length ≤ c0_2) (hr1 : Kd.C k31 w A1 l1.length l1) (hc1 : l1.length ≤ c1) (h : impl_IsLate.f a0_0 a0_1 l0_2 l1 a2 a3 = some (r1, r2)) :
    Calls Try.prog 25 #[.agg #[.int .i8 a0_0, .int .i16 a0_1, .slice A0_2 l0_2.length c0_2], .slice A1 l1.length c1, .int .i64 a2, .int .i64 a3] w fun e w' => e = .returned (.tuple #[.bool r1, .int .i64 r2]) ∧ Below w.heap.size w w' := by
  unfold impl_IsLate.f at h
  split at h
  · injection h with h
    have h1 : (lateRes a0_0 a0_1 l0_2 l1 a2 a3).1 = r1 := by rw [h]
    have h2 : (lateRes a0_0 a0_1 l0_2 l1 a2 a3).2 = r2 := by rw [h]
    rw [← h1, ← h2]
    rename_i hh
    exact IsLate_any _ _ _ _ _ _ _ _ _ _ w hr0_2 hc0_2 hh.1 hr1 hc1 hh.2.1 (List.all_eq_true.1 hh.2.2)
  · cases h
end Go.Proofs.Yticfecncdpdanaa.Q
