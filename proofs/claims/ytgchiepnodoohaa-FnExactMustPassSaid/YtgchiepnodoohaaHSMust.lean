/- spec's MustPass. -/
import Derived.Test.YtgchiepnodoohaaHMust
import Derived.Test.YtgchiepnodoohaaHSCanGo
set_option linter.unusedVariables false
set_option linter.unusedSimpArgs false
namespace Go.Proofs.Ytgchiepnodoohaa.Q
open Go.RowKit Go.Proofs.YtgchiepnodoohaaW.PrintWords Go.Proofs.YtgchiepnodoohaaW.PrintLast Go.Proofs.YtgchiepnodoohaaW.PrintMore
set_option maxHeartbeats 4000000 in
set_option maxRecDepth 100000 in
theorem sMustPass_any (s t : Int) (A0 : Option Addr) (c : Nat) (l : List S82) (a0 a1 b0 b1 : Int) (w : World) (hr : Kd.C k82 w A0 l.length l) (hc : l.length ≤ c) (hok : okNet s t l = true) (hoa : okScan ⟨a0, a1⟩ = true) (hob : okScan ⟨b0, b1⟩ = true) :
    Calls Try.prog 48 #[.agg #[.int .i8 s, .int .i16 t, .slice A0 l.length c], .agg #[.int .i8 a0, .int .i16 a1], .agg #[.int .i8 b0, .int .i16 b1]] w fun e w' =>
      ∃ v : Value, e = .returned (.tuple #[v, .int .i64 (mustRes s t l ⟨a0, a1⟩ ⟨b0, b1⟩).2]) ∧ Kd.R (Kd.int .i64) 2 w' w.heap.size (fun _ => True) v (mustRes s t l ⟨a0, a1⟩ ⟨b0, b1⟩).1 ∧ Below w.heap.size w w' := by
  have HN := Aside0.mk (NetAt.new (s := s) (t := t) hr hc 31)
  have OK := Aside0.mk hok
  have HOA := Aside0.mk hoa
  have HOB := Aside0.mk hob
  clear hr hok hoa hob
  go_enter Try.func48, Try.ntmps48
  go_wp2_with fail
  obtain ⟨V, hV⟩ : ∃ V, V = (((w.alloc (.cells #[.int .i8 s, .int .i16 t, .slice A0 l.length c] 31)).alloc (.cells #[.int .i8 a0, .int .i16 a1] 47)).alloc (.cells #[.int .i8 b0, .int .i16 b1] 47)).alloc (.cells #[] 2) := ⟨_, rfl⟩
  have HBW : Aside0 (Below w.heap.size w V) := ⟨by rw [hV]; exact ((((Below.refl _ _).alloc (Nat.le_refl _) _).alloc (by simp) _).alloc (by simp; omega) _).alloc (by simp; omega) _⟩
  have hzV : Aside0 (V.heap.size = w.heap.size + 1 + 1 + 1 + 1) := ⟨by rw [hV]; simp⟩
  have HVW : Aside0 (w.heap.size ≤ V.heap.size) := ⟨by have := hzV.out; omega⟩
  have HNN := HN
  have HN : Aside0 (NetAt w.heap.size s t l V) := ⟨by rw [hV]; exact ((HNN.out.alloc _).alloc _).alloc _⟩
  have HO0 : Aside0 (V.ownsRow (w.heap.size + 1 + 1 + 1) 2 1 (.slice (some ⟨w.heap.size + 1 + 1 + 1, 0, none⟩) 0 0) ([] : List Int).length (nums .i64 [])) := ⟨by rw [hV]; exact own_lit0 _ _ 2 _ (by simp) (by simp)⟩
  have qs : Aside0 (V.cell? ⟨w.heap.size, 0, none⟩ = some (.int .i8 s)) := ⟨by rw [hV]; go_simp⟩
  have q0 : Aside0 (V.cell? ⟨w.heap.size + 1, 0, none⟩ = some (.int .i8 a0)) := ⟨by rw [hV]; go_simp⟩
  have q1 : Aside0 (V.cell? ⟨w.heap.size + 1, 1, none⟩ = some (.int .i16 a1)) := ⟨by rw [hV]; go_simp⟩
  have q2 : Aside0 (V.cell? ⟨w.heap.size + 1 + 1, 0, none⟩ = some (.int .i8 b0)) := ⟨by rw [hV]; go_simp⟩
  have q3 : Aside0 (V.cell? ⟨w.heap.size + 1 + 1, 1, none⟩ = some (.int .i16 b1)) := ⟨by rw [hV]; go_simp⟩
  have HN0 : Aside0 (∃ V0 : World, V0.heap.size = w.heap.size + 1 + 1 + 1 ∧ NetAt w.heap.size s t l V0 ∧ Below V0.heap.size V0 V) := ⟨⟨_, by simp, (HNN.out.alloc (.cells #[.int .i8 a0, .int .i16 a1] 47)).alloc (.cells #[.int .i8 b0, .int .i16 b1] 47), by rw [hV]; exact (Below.refl _ _).alloc (Nat.le_refl _) _⟩⟩
  rw [← hV]
  clear hV
  refine (l07Scan_at HN.out OK.out a0 a1 HOA.out).mono ?_
  rintro e w1 ⟨rfl, hb⟩
  have H1 := Aside0.mk hb
  have d2 := (hb.cell (p := ⟨w.heap.size + 1 + 1, 0, none⟩) (by have := hzV.out; simp; omega)).trans q2.out
  have d3 := (hb.cell (p := ⟨w.heap.size + 1 + 1, 1, none⟩) (by have := hzV.out; simp; omega)).trans q3.out
  clear hb
  cases h1 : scanIn s ⟨a0, a1⟩ with
  | false =>
    have F1 := Aside0.mk h1
    clear h1
    go_wp2_with fail
    refine (l07Asked_at (HN.out.below H1.out) OK.out false).mono ?_
    rintro e w5 ⟨rfl, hb5⟩
    have H5 := Aside0.mk (H1.out.trans (hb5.mono H1.out.size))
    have hb6 := Aside0.mk (HBW.out.trans (H5.out.mono HVW.out))
    have HO6 := Aside0.mk (pw_own_below HO0.out H5.out)
    clear hb5
    cases hn : netB s t l with
    | false =>
      have ER : Aside0 (mustRes s t l ⟨a0, a1⟩ ⟨b0, b1⟩ = ([], 1)) := ⟨by unfold mustRes; rw [hn]; rfl⟩
      clear hn
      simp only [codeB, Bool.false_eq_true, if_false]
      go_wp2
      go_ret2
      rw [ER.out]
      exact ⟨_, rfl, Kd.R_lower (Kd.R_of_own HO6.out (fun _ _ => trivial)) (by omega), hb6.out⟩
    | true =>
      have ER : Aside0 (mustRes s t l ⟨a0, a1⟩ ⟨b0, b1⟩ = ([], 2)) := ⟨by unfold mustRes; rw [hn, scansIn_eq2, F1.out, Bool.false_and]; rfl⟩
      clear hn
      simp only [codeB, Bool.false_eq_true, if_false, if_true]
      go_wp2
      go_ret2
      rw [ER.out]
      exact ⟨_, rfl, Kd.R_lower (Kd.R_of_own HO6.out (fun _ _ => trivial)) (by omega), hb6.out⟩
  | true =>
    have F1 := Aside0.mk h1
    clear h1
    go_wp2_with fail
    refine (l07Scan_at (HN.out.below H1.out) OK.out b0 b1 HOB.out).mono ?_
    rintro e w2 ⟨rfl, hb⟩
    have H2 := Aside0.mk (H1.out.trans (hb.mono H1.out.size))
    clear hb d2 d3
    cases h2 : scanIn s ⟨b0, b1⟩ with
    | false =>
      have F2 := Aside0.mk h2
      clear h2
      go_wp2_with fail
      refine (l07Asked_at (HN.out.below H2.out) OK.out false).mono ?_
      rintro e w5 ⟨rfl, hb5⟩
      have H5 := Aside0.mk (H2.out.trans (hb5.mono H2.out.size))
      have hb6 := Aside0.mk (HBW.out.trans (H5.out.mono HVW.out))
      have HO6 := Aside0.mk (pw_own_below HO0.out H5.out)
      clear hb5
      cases hn : netB s t l with
      | false =>
        have ER : Aside0 (mustRes s t l ⟨a0, a1⟩ ⟨b0, b1⟩ = ([], 1)) := ⟨by unfold mustRes; rw [hn]; rfl⟩
        clear hn
        simp only [codeB, Bool.false_eq_true, if_false]
        go_wp2
        go_ret2
        rw [ER.out]
        exact ⟨_, rfl, Kd.R_lower (Kd.R_of_own HO6.out (fun _ _ => trivial)) (by omega), hb6.out⟩
      | true =>
        have ER : Aside0 (mustRes s t l ⟨a0, a1⟩ ⟨b0, b1⟩ = ([], 2)) := ⟨by unfold mustRes; rw [hn, scansIn_eq2, F1.out, F2.out]; rfl⟩
        clear hn
        simp only [codeB, Bool.false_eq_true, if_false, if_true]
        go_wp2
        go_ret2
        rw [ER.out]
        exact ⟨_, rfl, Kd.R_lower (Kd.R_of_own HO6.out (fun _ _ => trivial)) (by omega), hb6.out⟩
    | true =>
      have F2 := Aside0.mk h2
      clear h2
      go_wp2_with fail
      refine (l07Asked_at (HN.out.below H2.out) OK.out true).mono ?_
      rintro e w5 ⟨rfl, hb5⟩
      have H5 := Aside0.mk (H2.out.trans (hb5.mono H2.out.size))
      have hb6 := Aside0.mk (HBW.out.trans (H5.out.mono HVW.out))
      have HO6 := Aside0.mk (pw_own_below HO0.out H5.out)
      clear hb5
      cases hn : netB s t l with
      | false =>
        have ER : Aside0 (mustRes s t l ⟨a0, a1⟩ ⟨b0, b1⟩ = ([], 1)) := ⟨by unfold mustRes; rw [hn]; rfl⟩
        clear hn
        simp only [codeB, Bool.false_eq_true, if_false]
        go_wp2
        go_ret2
        rw [ER.out]
        exact ⟨_, rfl, Kd.R_lower (Kd.R_of_own HO6.out (fun _ _ => trivial)) (by omega), hb6.out⟩
      | true =>
        have EC : Aside0 (codeB (netB s t l) (scansIn s [⟨a0, a1⟩, ⟨b0, b1⟩]) = 0) := ⟨by rw [hn, scansIn_eq2, F1.out, F2.out]; rfl⟩
        obtain ⟨hl, hs1, hs8, ht0, ht1⟩ := laneV_of hn
        have hlen := netB_len hn
        have hina := F1.out
        have hinb := F2.out
        unfold scanIn at hina hinb
        rw [Bool.and_eq_true] at hina hinb
        obtain ⟨x0, x1, hx, hx0, hx1, hx2, hx3⟩ := scansIn_nat hs8 hina
        obtain ⟨y0, y1, hy, hy0, hy1, hy2, hy3⟩ := scansIn_nat hs8 hinb
        injection hx with e1 e2
        injection hy with e3 e4
        subst e1 e2 e3 e4
        have HL := Aside0.mk hl
        obtain ⟨sn, rfl⟩ := Int.eq_ofNat_of_zero_le (show 0 ≤ s by omega)
        have hzz := hzV.out
        have d0 := (H5.out.cell (p := ⟨w.heap.size + 1, 0, none⟩) (by simp; omega)).trans q0.out
        have d1 := (H5.out.cell (p := ⟨w.heap.size + 1, 1, none⟩) (by simp; omega)).trans q1.out
        have d2 := (H5.out.cell (p := ⟨w.heap.size + 1 + 1, 0, none⟩) (by simp; omega)).trans q2.out
        have d3 := (H5.out.cell (p := ⟨w.heap.size + 1 + 1, 1, none⟩) (by simp; omega)).trans q3.out
        clear hn hina hinb hl hx2 hx3 hy2 hy3 hzz
        simp only [codeB, if_true]
        go_wp2_with fail
        refine (l07Goes_is x0 x1 y0 y1 (-1) _ (HN.out.below H5.out) HL.out hlen ht0 ht1 hx0 hx1 hy0 hy1 (by omega) (by omega)).mono ?_
        rintro e w6 ⟨rfl, hb2⟩
        have H6 : Aside0 (Below V.heap.size V w6) := ⟨H5.out.trans (hb2.mono H5.out.size)⟩
        have HO7 := Aside0.mk (pw_own_below HO0.out H6.out)
        rw [arrB_but HL.out]
        clear hb2 d0 d1 d2 d3
        cases hg : arrB t l x0 x1 y0 y1 with
        | false =>
          have ER : Aside0 (mustRes sn t l ⟨x0, x1⟩ ⟨y0, y1⟩ = ([], 6)) := ⟨by unfold mustRes; rw [if_pos EC.out]; simp [hg]⟩
          clear hg
          go_wp2
          go_ret2
          rw [ER.out]
          exact ⟨_, rfl, Kd.R_lower (Kd.R_of_own HO7.out (fun _ _ => trivial)) (by omega), HBW.out.trans (H6.out.mono HVW.out)⟩
        | true =>
          have ER : Aside0 (mustRes sn t l ⟨x0, x1⟩ ⟨y0, y1⟩ = (mustL t l x0 x1 y0 y1 sn, 0)) := ⟨by unfold mustRes; rw [if_pos EC.out]; simp [hg]⟩
          have BW0 : Aside0 (Below (w.heap.size + 1 + 1 + 1) V w6) := ⟨H6.out.mono (by have := hzV.out; omega)⟩
          have hsn8 : sn ≤ 8 := by omega
          clear hg
          go_wp2
          go_loopg [8, 10] sn (fun gg v8 v10 wr => ∃ (kk : Nat), kk ≤ sn ∧ sn - kk ≤ gg ∧ v10 = .int .i64 kk ∧ Aside0 (wr.ownsRow (w.heap.size + 1 + 1 + 1) 2 1 v8 (mustL t l x0 x1 y0 y1 kk).length (nums .i64 (mustL t l x0 x1 y0 y1 kk))) ∧ Aside0 (Below (w.heap.size + 1 + 1 + 1) V wr))
          case atStart => exact ⟨0, Nat.zero_le _, by omega, rfl, HO7, BW0⟩
          case round =>
            obtain ⟨kk, hkk, hgg, rfl, HO, BW⟩ := hrel
            have hsz := BW.out.size
            have hzz := hzV.out
            have ds := (BW.out.cell (p := ⟨w.heap.size, 0, none⟩) (by simp; omega)).trans qs.out
            have d0 := (BW.out.cell (p := ⟨w.heap.size + 1, 0, none⟩) (by simp)).trans q0.out
            have d1 := (BW.out.cell (p := ⟨w.heap.size + 1, 1, none⟩) (by simp)).trans q1.out
            have d2 := (BW.out.cell (p := ⟨w.heap.size + 1 + 1, 0, none⟩) (by simp)).trans q2.out
            have d3 := (BW.out.cell (p := ⟨w.heap.size + 1 + 1, 1, none⟩) (by simp)).trans q3.out
            by_cases hlt : kk < sn
            · have hltz : (kk : Int) < (sn : Int) := by omega
              have HMS := Aside0.mk (mustL_succ t l x0 x1 y0 y1 kk)
              have HML := Aside0.mk (mustL_length t l x0 x1 y0 y1 kk)
              cases hb1 : ((kk : Int) != (x0 : Int)) with
              | false =>
                have hmb : mustL t l x0 x1 y0 y1 (kk + 1) = mustL t l x0 x1 y0 y1 kk := by
                  rw [HMS.out, if_neg]
                  have : kk = x0 := by simp at hb1; omega
                  simp [mustB, this]
                have HO6 : Aside0 (wr.ownsRow (w.heap.size + 1 + 1 + 1) 2 1 u8 (mustL t l x0 x1 y0 y1 (kk + 1)).length (nums .i64 (mustL t l x0 x1 y0 y1 (kk + 1)))) := ⟨by rw [hmb]; exact HO.out⟩
                clear hmb
                go_wp2
                go_roundg (sn - (kk + 1))
                case measure => omega
                case rel => exact ⟨kk + 1, by omega, by omega, by go_num, HO6, BW⟩
              | true =>
                cases hb2 : ((kk : Int) != (y0 : Int)) with
                | false =>
                  have hmb : mustL t l x0 x1 y0 y1 (kk + 1) = mustL t l x0 x1 y0 y1 kk := by
                    rw [HMS.out, if_neg]
                    have : kk = y0 := by simp at hb2; omega
                    simp [mustB, this]
                  have HO6 : Aside0 (wr.ownsRow (w.heap.size + 1 + 1 + 1) 2 1 u8 (mustL t l x0 x1 y0 y1 (kk + 1)).length (nums .i64 (mustL t l x0 x1 y0 y1 (kk + 1)))) := ⟨by rw [hmb]; exact HO.out⟩
                  clear hmb
                  go_wp2
                  go_roundg (sn - (kk + 1))
                  case measure => omega
                  case rel => exact ⟨kk + 1, by omega, by omega, by go_num, HO6, BW⟩
                | true =>
                  have HKX : Aside0 (kk ≠ x0) := ⟨by simp at hb1; omega⟩
                  have HKY : Aside0 (kk ≠ y0) := ⟨by simp at hb2; omega⟩
                  have HNR : Aside0 (NetAt w.heap.size sn t l wr) := ⟨by obtain ⟨V0, h1, h2, h3⟩ := HN0.out; exact h2.below (h3.trans (by rw [h1]; exact BW.out))⟩
                  go_wp2_with fail
                  refine (l07Goes_is x0 x1 y0 y1 (kk : Int) _ HNR.out HL.out hlen ht0 ht1 hx0 hx1 hy0 hy1 (by omega) (by omega)).mono ?_
                  rintro e w7 ⟨rfl, hb7⟩
                  have BW7 : Aside0 (Below (w.heap.size + 1 + 1 + 1) V w7) := ⟨BW.out.trans (hb7.mono (by omega))⟩
                  have HO7 := Aside0.mk (pw_own_below HO.out hb7)
                  have hs7 : w.heap.size + 1 + 1 + 1 ≤ w7.heap.size := by have := hb7.size; omega
                  clear hb7 ds d0 d1 d2 d3
                  cases hq : arrB t (but (kk : Int) l) x0 x1 y0 y1 with
                  | true =>
                    have hmb : mustL t l x0 x1 y0 y1 (kk + 1) = mustL t l x0 x1 y0 y1 kk := by
                      rw [HMS.out, if_neg]
                      simp [mustB, hq]
                    have HO6 : Aside0 (w7.ownsRow (w.heap.size + 1 + 1 + 1) 2 1 u8 (mustL t l x0 x1 y0 y1 (kk + 1)).length (nums .i64 (mustL t l x0 x1 y0 y1 (kk + 1)))) := ⟨by rw [hmb]; exact HO7.out⟩
                    clear hmb hq
                    go_wp2
                    go_roundg (sn - (kk + 1))
                    case measure => omega
                    case rel => exact ⟨kk + 1, by omega, by omega, by go_num, HO6, BW7⟩
                  | false =>
                    have hmb : mustL t l x0 x1 y0 y1 (kk + 1) = mustL t l x0 x1 y0 y1 kk ++ [(kk : Int)] := by
                      rw [HMS.out, if_pos]
                      simp [mustB, hq, HKX.out, HKY.out]
                    have HMB := Aside0.mk hmb
                    have hml := HML.out
                    clear hmb hq
                    go_wp2_with (at_builtin; refine print_append_num (w0 := V) (w.heap.size + 1 + 1 + 1) rfl (.tmp 54) (.tmp 56) 36 2 .i64 8 rfl Try.underlying36 infoI64 (by omega) _ (mustL t l x0 x1 y0 y1 kk) ((kk : Int)) rfl (by go_simp) HO7.out BW7.out hs7 (by omega) ?_; intro v1 w8 hown1 hB1 hg1 hat1)
                    rw [← HMB.out] at hown1
                    have HO8 := Aside0.mk hown1
                    have HB8 := Aside0.mk hB1
                    clear hown1 hB1 hg1 hat1
                    go_wp2
                    go_roundg (sn - (kk + 1))
                    case measure => omega
                    case rel => exact ⟨kk + 1, by omega, by omega, by go_num, HO8, HB8⟩
            · have hltz : ¬ (kk : Int) < (sn : Int) := by omega
              have hk : kk = sn := by omega
              have HO6 : Aside0 (wr.ownsRow (w.heap.size + 1 + 1 + 1) 2 1 u8 (mustL t l x0 x1 y0 y1 sn).length (nums .i64 (mustL t l x0 x1 y0 y1 sn))) := ⟨by rw [← hk]; exact HO.out⟩
              clear hk HO
              go_wp2
              go_ret2
              rw [ER.out]
              exact ⟨_, rfl, Kd.R_lower (Kd.R_of_own HO6.out (fun _ _ => trivial)) (by omega), HBW.out.trans (BW.out.mono (by omega))⟩
def spec_MustPass.f (a0_0 : Int) (a0_1 : Int) (l0_2 : List (S82)) (a1_0 : Int) (a1_1 : Int) (a2_0 : Int) (a2_1 : Int) : Option (List Int × Int) :=
  if okNet a0_0 a0_1 l0_2 = true ∧ okScan ⟨a1_0, a1_1⟩ = true ∧ okScan ⟨a2_0, a2_1⟩ = true then some (mustRes a0_0 a0_1 l0_2 ⟨a1_0, a1_1⟩ ⟨a2_0, a2_1⟩) else none
theorem spec_MustPass.calls (a0_0 : Int) (a0_1 : Int) (A0_2 : Option Addr) (c0_2 : Nat) (l0_2 : List (S82)) (a1_0 : Int) (a1_1 : Int) (a2_0 : Int) (a2_1 : Int) (r1 : List Int) (r2 : Int) (w : World) (hr0_2 : Kd.C k82 w A0_2 l0_2.length l0_2) (hc0_2 : l0_2.length ≤ c0_2) (h : spec_MustPass.f a0_0 a0_1 l0_2 a1_0 a1_1 a2_0 a2_1 = some (r1, r2)) :
    Calls Try.prog 48 #[.agg #[.int .i8 a0_0, .int .i16 a0_1, .slice A0_2 l0_2.length c0_2], .agg #[.int .i8 a1_0, .int .i16 a1_1], .agg #[.int .i8 a2_0, .int .i16 a2_1]] w fun e w' => ∃ v0_ : Value, e = .returned (.tuple #[v0_, .int .i64 r2]) ∧ Kd.R (Kd.int .i64) 2 w' w.heap.size (fun _ => True) v0_ r1 ∧ Below w.heap.size w w' := by
  unfold spec_MustPass.f at h
  split at h
  · injection h with h
    have h1 : (mustRes a0_0 a0_1 l0_2 ⟨a1_0, a1_1⟩ ⟨a2_0, a2_1⟩).1 = r1 := by rw [h]
    have h2 : (mustRes a0_0 a0_1 l0_2 ⟨a1_0, a1_1⟩ ⟨a2_0, a2_1⟩).2 = r2 := by rw [h]
    rw [← h1, ← h2]
    rename_i hh
    exact sMustPass_any _ _ _ _ _ _ _ _ _ w hr0_2 hc0_2 hh.1 hh.2.1 hh.2.2
  · cases h
end Go.Proofs.Ytgchiepnodoohaa.Q
