/- impl's WhereAt. -/
import Derived.Test.YticfecncdpdanaaMB
set_option linter.unusedVariables false
set_option linter.unusedSimpArgs false
namespace Go.Proofs.Yticfecncdpdanaa.Q
open Go.RowKit Go.Proofs.YticfecncdpdanaaW.PrintWords Go.Proofs.YticfecncdpdanaaW.PrintLast Go.Proofs.YticfecncdpdanaaW.PrintMore
attribute [local go_sem] zcT zcH noHours_length setRow_alloc_at setRow_alloc_past bcells_set bcells_size List.length_set
set_option maxHeartbeats 4000000 in
set_option maxRecDepth 100000 in
theorem WhereAt_any (s t : Int) (A : Option Addr) (c : Nat) (l : List S44) (a0 a1 hour : Int) (w : World) (hr : Kd.C k44 w A l.length l) (hc : l.length ≤ c) (hok : okNet s t l = true) (hoa : okScan ⟨a0, a1⟩ = true) :
    Calls Try.prog 8 #[.agg #[.int .i8 s, .int .i16 t, .slice A l.length c], .agg #[.int .i8 a0, .int .i16 a1], .int .i64 hour] w fun e w' => ∃ v0_ v1_ : Value, e = .returned (.tuple #[v0_, v1_, .int .i64 (whereRes s t l ⟨a0, a1⟩ hour).2.2]) ∧ Kd.R (Kd.int .i64) 2 w' w.heap.size (fun k_ => some k_ ≠ (v1_ : Value).ownBlock) v0_ (whereRes s t l ⟨a0, a1⟩ hour).1 ∧ Kd.R (Kd.int .i64) 2 w' w.heap.size (fun k_ => some k_ ≠ (v0_ : Value).ownBlock) v1_ (whereRes s t l ⟨a0, a1⟩ hour).2.1 ∧ Below w.heap.size w w' := by
  have HR := Aside0.mk hr
  have OK := Aside0.mk hok
  have HSC : Aside0 (∀ x ∈ [(⟨a0, a1⟩ : S31)], okScan x = true) := ⟨by simp [hoa]⟩
  clear hr hok hoa
  go_enter Try.func8, Try.ntmps8
  go_wp2
  have HBW : Aside0 (Below w.heap.size w ((w.alloc (.cells #[.int .i8 s, .int .i16 t, .slice A l.length c] 28)).alloc (.cells #[.int .i8 a0, .int .i16 a1] 31))) := ⟨((Below.refl _ _).alloc (Nat.le_refl _) _).alloc (by simp) _⟩
  have q0 : ((w.alloc (.cells #[.int .i8 s, .int .i16 t, .slice A l.length c] 28)).alloc (.cells #[.int .i8 a0, .int .i16 a1] 31)).cell? ⟨w.heap.size, 0, none⟩ = some (.int .i8 s) := by go_simp
  have q1 : ((w.alloc (.cells #[.int .i8 s, .int .i16 t, .slice A l.length c] 28)).alloc (.cells #[.int .i8 a0, .int .i16 a1] 31)).cell? ⟨w.heap.size, 1, none⟩ = some (.int .i16 t) := by go_simp
  have q2 : ((w.alloc (.cells #[.int .i8 s, .int .i16 t, .slice A l.length c] 28)).alloc (.cells #[.int .i8 a0, .int .i16 a1] 31)).cell? ⟨w.heap.size, 2, none⟩ = some (.slice A l.length c) := by go_simp
  have q3 : ((w.alloc (.cells #[.int .i8 s, .int .i16 t, .slice A l.length c] 28)).alloc (.cells #[.int .i8 a0, .int .i16 a1] 31)).cell? ⟨w.heap.size + 1, 0, none⟩ = some (.int .i8 a0) := by go_simp
  have q4 : ((w.alloc (.cells #[.int .i8 s, .int .i16 t, .slice A l.length c] 28)).alloc (.cells #[.int .i8 a0, .int .i16 a1] 31)).cell? ⟨w.heap.size + 1, 1, none⟩ = some (.int .i16 a1) := by go_simp
  have HRV := Aside0.mk (Kd.C_below HR.out HBW.out)
  have hz : w.heap.size + 1 < ((w.alloc (.cells #[.int .i8 s, .int .i16 t, .slice A l.length c] 28)).alloc (.cells #[.int .i8 a0, .int .i16 a1] 31)).heap.size := by simp
  generalize ((w.alloc (.cells #[.int .i8 s, .int .i16 t, .slice A l.length c] 28)).alloc (.cells #[.int .i8 a0, .int .i16 a1] 31)) = V at *
  go_cut [9] from 17 to 26 (fun v9 wx => v9 = .int .i64 (codeB (netB s t l) (scanIn s ⟨a0, a1⟩ && inB hour 0 300)) ∧ Aside0 (Below V.heap.size V wx))
  case first =>
    have hbr : Below V.heap.size V V := Below.refl _ _
    go_region_held_law (fun w' => w'.cell? ⟨w.heap.size, 0, none⟩ = some (.int .i8 s) ∧ w'.cell? ⟨w.heap.size, 1, none⟩ = some (.int .i16 t) ∧ w'.cell? ⟨w.heap.size, 2, none⟩ = some (.slice A l.length c) ∧ w'.cell? ⟨w.heap.size + 1, 0, none⟩ = some (.int .i8 a0) ∧ w'.cell? ⟨w.heap.size + 1, 1, none⟩ = some (.int .i16 a1) ∧ Below V.heap.size V w')
      ((refine cells5 q0 q1 q2 q3 q4 ?_; (try go_split_ands); first | ((repeat (with_reducible first | assumption | apply Below.drew | apply below_alloc1)); done) | exact below_call1 (by assumption) hb24 | exact below_call1 (by assumption) hb20 | exact below_call1 (by repeat (with_reducible first | assumption | apply Below.drew | apply below_alloc1)) hb24 | exact below_call1 (by repeat (with_reducible first | assumption | apply Below.drew | apply below_alloc1)) hb20))
      (first
        | (go_at_call 32; refine (scanCode_is s t A c l _ _ [⟨a0, a1⟩] _ (Kd.C_below HRV.out (by go_split_ands; repeat (with_reducible first | assumption | apply Below.drew | apply below_alloc1))) hc OK.out (by repeat (with_reducible first | apply Kd.C_drew | exact one_scan _ _ (by simp) ⟨a0, a1⟩ | apply Kd.C_alloc)) (by simp) (by simp) HSC.out).mono ?_; rintro e w20 ⟨rfl, hb20⟩)
        | (go_at_call 33; refine (netCode_is s t A c l none 0 [] _ _ [hour] _ (Kd.C_below HRV.out (by go_split_ands; repeat (with_reducible first | assumption | apply Below.drew | apply below_alloc1))) hc OK.out (nil_reads _ _ _) (by simp) (by repeat (with_reducible first | apply Kd.C_drew | exact one_reads' _ _ (by simp) hour | apply Kd.C_alloc | refine Kd.C_below ?_ hb20)) (by simp)).mono ?_; rintro e w24 ⟨rfl, hb24⟩)
        | (go_at_call 31; refine (firstOf_is _ _ [_, _] _ (by repeat (with_reducible first | apply Kd.C_drew | exact two_reads _ _ (by simp) _ _ | apply Kd.C_alloc)) (by simp) (by simp)).mono ?_; rintro e w26 ⟨rfl, rfl⟩))
    all_goals
      go_wp2_with fail
      go_meet
      go_split_ands
      exact ⟨by rw [firstB_two, scansIn_eq1, allIn_one, show allIn [] 0 (s - 1) = true from rfl, Bool.true_and], ⟨by repeat (with_reducible first | assumption | apply Below.drew | apply below_alloc1)⟩⟩
  case rest =>
    obtain ⟨rfl, HX⟩ := hcut
    have Q0 := Aside0.mk q0
    have Q1 := Aside0.mk q1
    have Q2 := Aside0.mk q2
    have Q3 := Aside0.mk q3
    have Q4 := Aside0.mk q4
    have d0 := pw_cell_below HX.out q0
    have d1 := pw_cell_below HX.out q1
    have d2 := pw_cell_below HX.out q2
    have d3 := pw_cell_below HX.out q3
    have d4 := pw_cell_below HX.out q4
    have hb1 : Aside0 (Below w.heap.size w wc) := ⟨HBW.out.trans (HX.out.mono HBW.out.size)⟩
    have hwz : w.heap.size + 1 < wc.heap.size := by have := HX.out.size; omega
    have hwz0 : w.heap.size < wc.heap.size := by omega
    clear q0 q1 q2 q3 q4
    cases h1 : netB s t l with
    | false =>
      have ER : Aside0 (whereRes s t l ⟨a0, a1⟩ hour = ([], [], 1)) := ⟨by unfold whereRes; rw [h1]; rfl⟩
      clear h1
      simp only [codeB, Bool.false_eq_true, if_false]
      go_wp2
      go_ret3
      rw [ER.out]
      exact ⟨_, _, rfl, Kd.R_nil _ _ _ _ _, Kd.R_nil _ _ _ _ _, hb1.out⟩
    | true =>
      cases h2 : (scanIn s ⟨a0, a1⟩ && inB hour 0 300) with
      | false =>
        have ER : Aside0 (whereRes s t l ⟨a0, a1⟩ hour = ([], [], 2)) := ⟨by unfold whereRes; rw [h1, h2]; rfl⟩
        clear h1 h2
        simp only [codeB, Bool.false_eq_true, if_false, if_true]
        go_wp2
        go_ret3
        rw [ER.out]
        exact ⟨_, _, rfl, Kd.R_nil _ _ _ _ _, Kd.R_nil _ _ _ _ _, hb1.out⟩
      | true =>
        have ER : Aside0 (whereRes s t l ⟨a0, a1⟩ hour = (selL (statB t l a0.toNat a1.toNat hour) s.toNat, selL (laneB t l a0.toNat a1.toNat hour) l.length, 0)) := ⟨by unfold whereRes; rw [h1, h2]; rfl⟩
        obtain ⟨hl, hs1, hs8, ht0, ht1⟩ := laneV_of h1
        have hlen := netB_len h1
        rw [Bool.and_eq_true] at h2
        obtain ⟨hina, hho⟩ := h2
        unfold scanIn at hina
        rw [Bool.and_eq_true] at hina
        obtain ⟨x0, x1, hx, hx0, hx1, hx2, hx3⟩ := scansIn_nat hs8 hina
        injection hx with e1 e2
        subst e1 e2
        obtain ⟨hho0, hho1⟩ := inB_true.1 hho
        obtain ⟨sn, rfl⟩ := Int.eq_ofNat_of_zero_le (show 0 ≤ s by omega)
        have HL := Aside0.mk hl
        have hx0z : (x0 : Int) < 8 := by omega
        have hx1z : (x1 : Int) < 301 := by omega
        clear h1 hina hho hl hx2 hx3
        simp only [Int.toNat_natCast] at ER
        simp only [codeB, if_true]
        go_wp2_with fail
        refine (all_is sn t A c l x0 x1 _ (Kd.C_below HR.out hb1.out) hc HL.out ht0 ht1 hx0 hx1).mono ?_
        rintro e w2 ⟨G, lG, hG, rfl, hb2⟩
        have HTM : Aside0 (∀ s h, s < 8 → h < 301 → (G.set (x0 * 301 + x1) true).getD (s * 301 + h) false = tmB t l x0 x1 s h) := ⟨fun s h hs hh => tm_of_row lG HL.out hG hx0 hx1 s h hs hh⟩
        have HV2 : Aside0 (Below V.heap.size V w2) := ⟨HX.out.trans (hb2.mono HX.out.size)⟩
        clear hb2 hG d0 d1 d2 d3 d4
        go_wp2
        rw [run_storeRow _ w2.heap.size 67 noTimes _ (row_at _ _ _ _ rfl) (by rw [noTimes_length, lG]), setRow_alloc_at _ _ _ _ _ rfl]
        obtain ⟨W3, hW3⟩ : ∃ W3, W3 = w2.alloc (.cells (bcells G) 67) := ⟨_, rfl⟩
        rw [← hW3]
        have RG3 : RowAt W3 w2.heap.size 67 G := by rw [hW3]; exact RowAt.new _ _ rfl _ _
        have HV3 : Aside0 (Below V.heap.size V W3) := ⟨by rw [hW3]; exact HV2.out.alloc HV2.out.size _⟩
        have hz3 : Aside0 (W3.heap.size = w2.heap.size + 1) := ⟨by rw [hW3]; simp⟩
        clear hW3
        have d3 := pw_cell_below HV3.out Q3.out
        have d4 := pw_cell_below HV3.out Q4.out
        have hfr := RG3.frozen (x0 * 301 + x1)
        have hce := RG3.cell (x0 * 301 + x1) (by omega)
        have HRG3 := Aside0.mk RG3
        have hg8 : Aside0 (V.heap.size ≤ w2.heap.size) := ⟨HV2.out.size⟩
        clear RG3
        go_wp2
        go_cut [10] from 33 to 38 (fun v10 wx => v10 = .pointer (some ⟨w2.heap.size, 0, none⟩) ∧ Aside0 (RowAt wx w2.heap.size 67 (G.set (x0 * 301 + x1) true)) ∧ Aside0 (Below V.heap.size V wx) ∧ wx.heap.size = w2.heap.size + 1)
        case first =>
          go_region
          all_goals
            go_wp2_with fail
            go_meet
            exact ⟨rfl, ⟨(HRG3.out.set (x0 * 301 + x1) true).drew⟩, ⟨(HV3.out.setCell hg8.out _).drew⟩, by simp [hz3.out]⟩
        case rest =>
          obtain ⟨rfl, HRG, HV4, hz4⟩ := hcut
          have lG2 : (G.set (x0 * 301 + x1) true).length = 2408 := by rw [List.length_set]; exact lG
          generalize G.set (x0 * 301 + x1) true = G2 at *
          clear d3 d4 hfr hce HRG3 hz3 HV3 HV2
          have d0 := pw_cell_below HV4.out Q0.out
          obtain ⟨W4, hW4⟩ : ∃ W4 : World, W4 = wc := ⟨_, rfl⟩
          have T0 : Aside0 (Two .i64 2 W4.heap.size W4 ((W4.alloc (.cells #[] 2)).alloc (.cells #[] 2)) (.slice (some ⟨W4.heap.size, 0, none⟩) 0 0) (.slice (some ⟨W4.heap.size + 1, 0, none⟩) 0 0) [] []) := ⟨Two.start W4⟩
          have hgz : Aside0 (w2.heap.size < W4.heap.size) := ⟨by rw [hW4, hz4]; omega⟩
          have HRG4 : Aside0 (RowAt W4 w2.heap.size 67 G2) := ⟨by rw [hW4]; exact HRG.out⟩
          have HV5 : Aside0 (Below V.heap.size V W4) := ⟨by rw [hW4]; exact HV4.out⟩
          have hV5 : Aside0 (V.heap.size ≤ W4.heap.size) := ⟨HV5.out.size⟩
          have eg := enters_of Try.func35 (by kernel_rfl) rfl
          rw [← hW4] at d0 ⊢
          have hl0 : w.heap.size < W4.heap.size := by have := hV5.out; omega
          clear hW4 HRG HV4 hz4
          have e1 : IntKind.i64.wrap t = t := IntWalk.i64_in _ (by omega)
          have e2 : IntKind.i64.wrap (hour - t) = hour - t := IntWalk.i64_in _ (by omega)
          go_wp2
          go_loopg [12, 44] sn (fun gg v12 v44 wr => ∃ (kk : Nat), kk ≤ sn ∧ sn - kk ≤ gg ∧ v44 = .int .i8 kk ∧ Aside0 (Two .i64 2 W4.heap.size W4 wr v12 (.slice (some ⟨W4.heap.size + 1, 0, none⟩) 0 0) (selL (statB t l x0 x1 hour) kk) []))
          case atStart => exact ⟨0, Nat.zero_le _, by omega, rfl, T0⟩
          case round =>
            obtain ⟨kk, hkk, hgg, rfl, HT⟩ := hrel
            have HB := Aside0.mk (HV5.out.trans (HT.out.below.mono hV5.out))
            have f0 := pw_cell_below HB.out Q0.out
            have f1 := pw_cell_below HB.out Q1.out
            have f2 := pw_cell_below HB.out Q2.out
            have hRW := HRG4.out.below HT.out.below hgz.out
            have hl0 : w.heap.size < wr.heap.size := by have := HB.out.size; omega
            by_cases hlt : kk < sn
            · have hltz : (kk : Int) < (sn : Int) := by omega
              have hk8 : kk < 8 := by omega
              have HSS := Aside0.mk (selL_succ (statB t l x0 x1 hour) kk)
              have hsl := selL_length (statB t l x0 x1 hour) kk
              have e3 : IntKind.i64.wrap (kk : Int) = (kk : Int) := IntWalk.i64_in _ (by omega)
              have hbt := between_is w2.heap.size 67 G2 lG2 kk hk8 (hour - t) hour (by omega) (by omega) (by omega) (by omega) wr hRW
              rw [someH_congr (q := tmB t l x0 x1 kk) (fun h hh => HTM.out kk h hk8 hh)] at hbt
              have HBT := Aside0.mk hbt
              clear hbt hRW
              go_wp2_with fail
              refine HBT.out.mono ?_
              rintro e w5 ⟨rfl, rfl⟩
              cases hq : someH (tmB t l x0 x1 kk) (hour - t) hour with
              | false =>
                have HT2 : Aside0 (Two .i64 2 W4.heap.size W4 wr u12 (.slice (some ⟨W4.heap.size + 1, 0, none⟩) 0 0) (selL (statB t l x0 x1 hour) (kk + 1)) []) := ⟨by rw [HSS.out, if_neg (by unfold statB; rw [hq]; simp)]; exact HT.out⟩
                clear hq
                go_wp2
                go_roundg (sn - (kk + 1))
                case measure => omega
                case rel => exact ⟨kk + 1, by omega, by omega, by go_num, HT2⟩
              | true =>
                have HSX : Aside0 (selL (statB t l x0 x1 hour) (kk + 1) = selL (statB t l x0 x1 hour) kk ++ [(kk : Int)]) := ⟨by rw [HSS.out, if_pos (by unfold statB; exact hq)]⟩
                clear hq
                go_wp2_with (at_builtin; refine print_append_num (w0 := W4) W4.heap.size rfl (.tmp 56) (.tmp 59) 34 2 .i64 8 rfl Try.underlying34 infoI64 (by omega) _ (selL (statB t l x0 x1 hour) kk) ((kk : Int)) rfl (by go_simp) HT.out.l HT.out.below HT.out.size (by omega) ?_; intro v1 w6 hown1 hB1 hg1 hat1)
                have HT2 : Aside0 (Two .i64 2 W4.heap.size W4 w6 v1 (.slice (some ⟨W4.heap.size + 1, 0, none⟩) 0 0) (selL (statB t l x0 x1 hour) (kk + 1)) []) := ⟨by rw [HSX.out]; exact HT.out.grew_l hown1 hB1 hg1 hat1⟩
                clear hown1 hB1 hg1 hat1
                go_wp2
                go_roundg (sn - (kk + 1))
                case measure => omega
                case rel => exact ⟨kk + 1, by omega, by omega, by go_num, HT2⟩
            · have hltz : ¬ (kk : Int) < (sn : Int) := by omega
              have hk : kk = sn := by omega
              subst hk
              have HT0 := HT
              clear hltz hRW
              go_wp2
              go_loopg [13, 65] l.length (fun gg v13 v65 wq => ∃ (i : Nat), i ≤ l.length ∧ l.length - i ≤ gg ∧ v65 = .int .i64 i ∧ Aside0 (Two .i64 2 W4.heap.size W4 wq u12 v13 (selL (statB t l x0 x1 hour) kk) (selL (laneB t l x0 x1 hour) i)))
              case atStart => exact ⟨0, Nat.zero_le _, by omega, rfl, HT0⟩
              case round =>
                obtain ⟨i, hi, hg2, rfl, HT⟩ := hrel
                have HB2 := Aside0.mk (HV5.out.trans (HT.out.below.mono hV5.out))
                have k1 := pw_cell_below HB2.out Q1.out
                have hl1 : w.heap.size < wr.heap.size := by have := HB2.out.size; omega
                by_cases hlt : i < l.length
                · have hltz : (i : Int) < (l.length : Int) := by omega
                  obtain ⟨ad, e, hy0, hy1, hy2, hy3⟩ := at_T44 (Kd.C_below HRV.out HB2.out) (i : Int) (by omega) (by omega)
                  have hlv := HL.out (l.getD i z44) (by rw [List.getD_eq_getElem?_getD, List.getElem?_eq_getElem hlt]; exact List.getElem_mem hlt)
                  have HSS := Aside0.mk (selL_succ (laneB t l x0 x1 hour) i)
                  have hsl := selL_length (laneB t l x0 x1 hour) i
                  have EL : Aside0 (laneB t l x0 x1 hour i = (decide (1 < (l.getD i z44).f3) && someH (tmB t l x0 x1 (l.getD i z44).f0.toNat) (hour - (l.getD i z44).f3 + 1 - t) (hour - 1))) := ⟨rfl⟩
                  simp only [rd_T44, Int.toNat_natCast] at hy0 hy1 hy2 hy3
                  subst e
                  generalize l.getD i z44 = x at hy0 hy1 hy2 hy3 hlv EL
                  obtain ⟨f, g, m, n⟩ := x
                  obtain ⟨v0, v1, v2, v3, v4, v5, v6, v7⟩ := hlv
                  simp only at hy0 hy1 hy2 hy3 v0 v1 v2 v3 v4 v5 v6 v7 EL
                  obtain ⟨fn, rfl⟩ := Int.eq_ofNat_of_zero_le v0
                  rw [Int.toNat_natCast] at EL
                  have hf8 : fn < 8 := by omega
                  obtain ⟨W6, hW6⟩ : ∃ W6, W6 = wr.alloc (.cells #[.int .i8 (fn : Int), .int .i8 g, .int .i16 m, .int .i16 n] 44) := ⟨_, rfl⟩
                  have HT6 : Aside0 (Two .i64 2 W4.heap.size W4 W6 u12 u13 (selL (statB t l x0 x1 hour) kk) (selL (laneB t l x0 x1 hour) i)) := ⟨by rw [hW6]; exact HT.out.alloc _⟩
                  have j0 : W6.cell? ⟨wr.heap.size, 0, none⟩ = some (.int .i8 (fn : Int)) := by rw [hW6]; go_simp
                  have j3 : W6.cell? ⟨wr.heap.size, 3, none⟩ = some (.int .i16 n) := by rw [hW6]; go_simp
                  have HB6 := Aside0.mk (HV5.out.trans (HT6.out.below.mono hV5.out))
                  have k6 := pw_cell_below HB6.out Q1.out
                  have hRW := HRG4.out.below HT6.out.below hgz.out
                  have e3 : IntKind.i64.wrap n = n := IntWalk.i64_in _ (by omega)
                  have e4 : IntKind.i64.wrap (hour - n) = hour - n := IntWalk.i64_in _ (by omega)
                  have e5 : IntKind.i64.wrap (hour - n + 1) = hour - n + 1 := IntWalk.i64_in _ (by omega)
                  have e6 : IntKind.i64.wrap (hour - n + 1 - t) = hour - n + 1 - t := IntWalk.i64_in _ (by omega)
                  have e7 : IntKind.i64.wrap (hour - 1) = hour - 1 := IntWalk.i64_in _ (by omega)
                  have hbt := between_is w2.heap.size 67 G2 lG2 fn hf8 (hour - n + 1 - t) (hour - 1) (by omega) (by omega) (by omega) (by omega) W6 hRW
                  rw [someH_congr (q := tmB t l x0 x1 fn) (fun h hh => HTM.out fn h hf8 hh)] at hbt
                  have HBT := Aside0.mk hbt
                  clear hbt hRW
                  have HW6 := Aside0.mk hW6
                  clear hW6
                  by_cases hn : 1 < n
                  · have EL2 : Aside0 (laneB t l x0 x1 hour i = someH (tmB t l x0 x1 fn) (hour - n + 1 - t) (hour - 1)) := ⟨by rw [EL.out, decide_eq_true hn, Bool.true_and]⟩
                    go_wp2_with fail
                    rw [← HW6.out]
                    refine HBT.out.mono ?_
                    rintro e w5 ⟨rfl, rfl⟩
                    cases hq : someH (tmB t l x0 x1 fn) (hour - n + 1 - t) (hour - 1) with
                    | false =>
                      have HT7 : Aside0 (Two .i64 2 W4.heap.size W4 W6 u12 u13 (selL (statB t l x0 x1 hour) kk) (selL (laneB t l x0 x1 hour) (i + 1))) := ⟨by rw [HSS.out, if_neg (by rw [EL2.out, hq]; simp)]; exact HT6.out⟩
                      clear hq
                      go_wp2
                      go_roundg (l.length - (i + 1))
                      case measure => omega
                      case rel => exact ⟨i + 1, by omega, by omega, by go_num, HT7⟩
                    | true =>
                      have HSX : Aside0 (selL (laneB t l x0 x1 hour) (i + 1) = selL (laneB t l x0 x1 hour) i ++ [(i : Int)]) := ⟨by rw [HSS.out, if_pos (by rw [EL2.out, hq])]⟩
                      clear hq
                      go_wp2_with (at_builtin; refine print_append_num (w0 := W4) W4.heap.size rfl (.tmp 91) (.tmp 93) 34 2 .i64 8 rfl Try.underlying34 infoI64 (by omega) _ (selL (laneB t l x0 x1 hour) i) ((i : Int)) rfl (by go_simp) HT6.out.r HT6.out.below HT6.out.size (by omega) ?_; intro v1 w6 hown1 hB1 hg1 hat1)
                      have HT7 : Aside0 (Two .i64 2 W4.heap.size W4 w6 u12 v1 (selL (statB t l x0 x1 hour) kk) (selL (laneB t l x0 x1 hour) (i + 1))) := ⟨by rw [HSX.out]; exact HT6.out.grew_r hown1 hB1 hg1 hat1⟩
                      clear hown1 hB1 hg1 hat1
                      go_wp2
                      go_roundg (l.length - (i + 1))
                      case measure => omega
                      case rel => exact ⟨i + 1, by omega, by omega, by go_num, HT7⟩
                  · have hnz : ¬ (1 : Int) < n := hn
                    have HT7 : Aside0 (Two .i64 2 W4.heap.size W4 W6 u12 u13 (selL (statB t l x0 x1 hour) kk) (selL (laneB t l x0 x1 hour) (i + 1))) := ⟨by rw [HSS.out, if_neg (by rw [EL.out, decide_eq_false hn]; simp)]; exact HT6.out⟩
                    go_wp2_with fail
                    rw [← HW6.out]
                    go_wp2
                    go_roundg (l.length - (i + 1))
                    case measure => omega
                    case rel => exact ⟨i + 1, by omega, by omega, by go_num, HT7⟩
                · have hltz : ¬ (i : Int) < (l.length : Int) := by omega
                  have hk2 : i = l.length := by omega
                  have HTE : Aside0 (Two .i64 2 W4.heap.size W4 wr u12 u13 (selL (statB t l x0 x1 hour) kk) (selL (laneB t l x0 x1 hour) l.length)) := ⟨by rw [← hk2]; exact HT.out⟩
                  clear hk2 HT
                  go_wp2
                  go_ret3
                  rw [ER.out]
                  exact ⟨_, _, rfl, Kd.R_lower (Kd.R_of_own HTE.out.l (fun j hj h2 => HTE.out.ne j hj h2.symm)) (by have := hV5.out; omega), Kd.R_lower (Kd.R_of_own HTE.out.r (fun j hj h2 => HTE.out.ne j h2.symm hj)) (by have := hV5.out; omega), HBW.out.trans (HB2.out.mono HBW.out.size)⟩
def impl_WhereAt.f (a0_0 : Int) (a0_1 : Int) (l0_2 : List (S44)) (a1_0 : Int) (a1_1 : Int) (a2 : Int) : Option (List Int × List Int × Int) := if okNet a0_0 a0_1 l0_2 = true ∧ okScan ⟨a1_0, a1_1⟩ = true then some (whereRes a0_0 a0_1 l0_2 ⟨a1_0, a1_1⟩ a2) else none
theorem impl_WhereAt.calls (a0_0 : Int) (a0_1 : Int) (A0_2 : Option Addr) (c0_2 : Nat) (l0_2 : List (S44)) (a1_0 : Int) (a1_1 : Int) (a2 : Int) (r1 : List Int) (r2 : List Int) (r3 : Int) (w : World) (hr0_2 : Kd.C k44 w A0_2 l0_2.length l0_2) (hc0_2 : l0_2.length ≤ c0_2) (h : impl_WhereAt.f a0_0 a0_1 l0_2 a1_0 a1_1 a2 = some (r1, r2, r3)) :
    Calls Try.prog 8 #[.agg #[.int .i8 a0_0, .int .i16 a0_1, .slice A0_2 l0_2.length c0_2], .agg #[.int .i8 a1_0, .int .i16 a1_1], .int .i64 a2] w fun e w' => ∃ v0_ v1_ : Value, e = .returned (.tuple #[v0_, v1_, .int .i64 r3]) ∧ Kd.R (Kd.int .i64) 2 w' w.heap.size (fun k_ => some k_ ≠ (v1_ : Value).ownBlock) v0_ r1 ∧ Kd.R (Kd.int .i64) 2 w' w.heap.size (fun k_ => some k_ ≠ (v0_ : Value).ownBlock) v1_ r2 ∧ Below w.heap.size w w' := by
  unfold impl_WhereAt.f at h
  split at h
  · injection h with h
    have h1 : (whereRes a0_0 a0_1 l0_2 ⟨a1_0, a1_1⟩ a2).1 = r1 := by rw [h]
    have h2 : (whereRes a0_0 a0_1 l0_2 ⟨a1_0, a1_1⟩ a2).2.1 = r2 := by rw [h]
    have h3 : (whereRes a0_0 a0_1 l0_2 ⟨a1_0, a1_1⟩ a2).2.2 = r3 := by rw [h]
    rw [← h1, ← h2, ← h3]
    rename_i hh
    exact WhereAt_any _ _ _ _ _ _ _ _ w hr0_2 hc0_2 hh.1 hh.2
  · cases h
end Go.Proofs.Yticfecncdpdanaa.Q
