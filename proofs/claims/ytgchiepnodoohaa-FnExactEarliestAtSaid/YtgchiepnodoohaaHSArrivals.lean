/- spec's ArrivalsAt. -/
import Derived.Test.YtgchiepnodoohaaHArrivals
set_option linter.unusedVariables false
set_option linter.unusedSimpArgs false
namespace Go.Proofs.Ytgchiepnodoohaa.Q
open Go.RowKit Go.Proofs.YtgchiepnodoohaaW.PrintWords Go.Proofs.YtgchiepnodoohaaW.PrintLast Go.Proofs.YtgchiepnodoohaaW.PrintMore
set_option maxHeartbeats 4000000 in
set_option maxRecDepth 100000 in
theorem sArrivalsAt_any (s t : Int) (A : Option Addr) (c : Nat) (l : List S82) (a0 a1 st : Int) (w : World) (hr : Kd.C k82 w A l.length l) (hc : l.length ≤ c) (hok : okNet s t l = true) (hoa : okScan ⟨a0, a1⟩ = true) :
    Calls Try.prog 31 #[.agg #[.int .i8 s, .int .i16 t, .slice A l.length c], .agg #[.int .i8 a0, .int .i16 a1], .int .i64 st] w fun e w' => ∃ v : Value, e = .returned (.tuple #[v, .int .i64 (arrRes s t l ⟨a0, a1⟩ st).2]) ∧ Kd.R (Kd.int .i64) 2 w' w.heap.size (fun _ => True) v (arrRes s t l ⟨a0, a1⟩ st).1 ∧ Below w.heap.size w w' := by
  have HN := Aside0.mk (NetAt.new (s := s) (t := t) hr hc 31)
  have OK := Aside0.mk hok
  have HOA := Aside0.mk hoa
  clear hr hok hoa
  go_enter Try.func31, Try.ntmps31
  go_wp2_with fail
  have HBW : Aside0 (Below w.heap.size w (((w.alloc (.cells #[.int .i8 s, .int .i16 t, .slice A l.length c] 31)).alloc (.cells #[.int .i8 a0, .int .i16 a1] 47)).alloc (.cells #[] 2))) := ⟨(((Below.refl _ _).alloc (Nat.le_refl _) _).alloc (by simp) _).alloc (by simp; omega) _⟩
  have HVW : Aside0 (w.heap.size ≤ (((w.alloc (.cells #[.int .i8 s, .int .i16 t, .slice A l.length c] 31)).alloc (.cells #[.int .i8 a0, .int .i16 a1] 47)).alloc (.cells #[] 2)).heap.size) := ⟨by simp; omega⟩
  have HN := Aside0.mk ((HN.out.alloc (.cells #[.int .i8 a0, .int .i16 a1] 47)).alloc (.cells #[] 2))
  have HO0 : Aside0 ((((w.alloc (.cells #[.int .i8 s, .int .i16 t, .slice A l.length c] 31)).alloc (.cells #[.int .i8 a0, .int .i16 a1] 47)).alloc (.cells #[] 2)).ownsRow w.heap.size 2 1 (.slice (some ⟨w.heap.size + 1 + 1, 0, none⟩) 0 0) ([] : List Int).length (nums .i64 [])) := ⟨own_lit0 ((w.alloc (.cells #[.int .i8 s, .int .i16 t, .slice A l.length c] 31)).alloc (.cells #[.int .i8 a0, .int .i16 a1] 47)) w.heap.size 2 (w.heap.size + 1 + 1) (by simp) (by simp; omega)⟩
  have q0 : Aside0 ((((w.alloc (.cells #[.int .i8 s, .int .i16 t, .slice A l.length c] 31)).alloc (.cells #[.int .i8 a0, .int .i16 a1] 47)).alloc (.cells #[] 2)).cell? ⟨w.heap.size + 1, 0, none⟩ = some (.int .i8 a0)) := ⟨by go_simp⟩
  have q1 : Aside0 ((((w.alloc (.cells #[.int .i8 s, .int .i16 t, .slice A l.length c] 31)).alloc (.cells #[.int .i8 a0, .int .i16 a1] 47)).alloc (.cells #[] 2)).cell? ⟨w.heap.size + 1, 1, none⟩ = some (.int .i16 a1)) := ⟨by go_simp⟩
  have hz : w.heap.size + 1 + 1 < (((w.alloc (.cells #[.int .i8 s, .int .i16 t, .slice A l.length c] 31)).alloc (.cells #[.int .i8 a0, .int .i16 a1] 47)).alloc (.cells #[] 2)).heap.size := by simp
  generalize (((w.alloc (.cells #[.int .i8 s, .int .i16 t, .slice A l.length c] 31)).alloc (.cells #[.int .i8 a0, .int .i16 a1] 47)).alloc (.cells #[] 2)) = V at *
  refine (l07Scan_at HN.out OK.out a0 a1 HOA.out).mono ?_
  rintro e w1 ⟨rfl, hb⟩
  have H1 := Aside0.mk hb
  clear hb
  cases h1 : scanIn s ⟨a0, a1⟩ with
  | false =>
    have F1 := Aside0.mk h1
    clear h1
    go_wp2_with fail
    refine (l07Asked_at (HN.out.below H1.out) OK.out false).mono ?_
    rintro e w5 ⟨rfl, hb5⟩
    have h5 := H1.out.trans (hb5.mono H1.out.size)
    have hb6 := Aside0.mk (HBW.out.trans (h5.mono HVW.out))
    have HO6 := Aside0.mk (pw_own_below HO0.out h5)
    clear hb5 h5
    cases hn : netB s t l with
    | false =>
      have ER : Aside0 (arrRes s t l ⟨a0, a1⟩ st = ([], 1)) := ⟨by unfold arrRes; rw [hn]; rfl⟩
      clear hn
      simp only [codeB, Bool.false_eq_true, if_false]
      go_wp2
      go_ret2
      rw [ER.out]
      exact ⟨_, rfl, Kd.R_of_own HO6.out (fun _ _ => trivial), hb6.out⟩
    | true =>
      have ER : Aside0 (arrRes s t l ⟨a0, a1⟩ st = ([], 2)) := ⟨by unfold arrRes; rw [hn, F1.out, Bool.false_and]; rfl⟩
      clear hn
      simp only [codeB, Bool.false_eq_true, if_false, if_true]
      go_wp2
      go_ret2
      rw [ER.out]
      exact ⟨_, rfl, Kd.R_of_own HO6.out (fun _ _ => trivial), hb6.out⟩
  | true =>
    have F1 := Aside0.mk h1
    clear h1
    go_wp2_with fail
    refine (l07Station_at (HN.out.below H1.out) OK.out st).mono ?_
    rintro e w' ⟨rfl, rfl⟩
    cases h2 : inB st 0 (s - 1) with
    | false =>
      have F2 := Aside0.mk h2
      clear h2
      go_wp2_with fail
      refine (l07Asked_at (HN.out.below H1.out) OK.out false).mono ?_
      rintro e w5 ⟨rfl, hb5⟩
      have h5 := H1.out.trans (hb5.mono H1.out.size)
      have hb6 := Aside0.mk (HBW.out.trans (h5.mono HVW.out))
      have HO6 := Aside0.mk (pw_own_below HO0.out h5)
      clear hb5 h5
      cases hn : netB s t l with
      | false =>
        have ER : Aside0 (arrRes s t l ⟨a0, a1⟩ st = ([], 1)) := ⟨by unfold arrRes; rw [hn]; rfl⟩
        clear hn
        simp only [codeB, Bool.false_eq_true, if_false]
        go_wp2
        go_ret2
        rw [ER.out]
        exact ⟨_, rfl, Kd.R_of_own HO6.out (fun _ _ => trivial), hb6.out⟩
      | true =>
        have ER : Aside0 (arrRes s t l ⟨a0, a1⟩ st = ([], 2)) := ⟨by unfold arrRes; rw [hn, F1.out, F2.out]; rfl⟩
        clear hn
        simp only [codeB, Bool.false_eq_true, if_false, if_true]
        go_wp2
        go_ret2
        rw [ER.out]
        exact ⟨_, rfl, Kd.R_of_own HO6.out (fun _ _ => trivial), hb6.out⟩
    | true =>
      have F2 := Aside0.mk h2
      clear h2
      go_wp2_with fail
      refine (l07Asked_at (HN.out.below H1.out) OK.out true).mono ?_
      rintro e w5 ⟨rfl, hb5⟩
      have H5 := Aside0.mk (H1.out.trans (hb5.mono H1.out.size))
      have hb6 := Aside0.mk (HBW.out.trans (H5.out.mono HVW.out))
      have HO6 := Aside0.mk (pw_own_below HO0.out H5.out)
      clear hb5
      cases hn : netB s t l with
      | false =>
        have ER : Aside0 (arrRes s t l ⟨a0, a1⟩ st = ([], 1)) := ⟨by unfold arrRes; rw [hn]; rfl⟩
        clear hn
        simp only [codeB, Bool.false_eq_true, if_false]
        go_wp2
        go_ret2
        rw [ER.out]
        exact ⟨_, rfl, Kd.R_of_own HO6.out (fun _ _ => trivial), hb6.out⟩
      | true =>
        have ER : Aside0 (arrRes s t l ⟨a0, a1⟩ st = (hoursFrom (fun h => arrB t l a0.toNat a1.toNat st.toNat h) 301 0, 0)) := ⟨by unfold arrRes; rw [hn, F1.out, F2.out]; rfl⟩
        obtain ⟨hl, hs1, hs8, ht0, ht1⟩ := laneV_of hn
        have hlen := netB_len hn
        have hina := F1.out
        unfold scanIn at hina
        rw [Bool.and_eq_true] at hina
        obtain ⟨x0, x1, hx, hx0, hx1, hx2, hx3⟩ := scansIn_nat hs8 hina
        injection hx with e1 e2
        subst e1 e2
        obtain ⟨hst0, hst1⟩ := inB_true.1 F2.out
        obtain ⟨st, rfl⟩ := Int.eq_ofNat_of_zero_le hst0
        have hst8 : st < 8 := by omega
        have hst8z : (st : Int) < 8 := by omega
        have HL := Aside0.mk hl
        have d0 := (H5.out.cell (p := ⟨w.heap.size + 1, 0, none⟩) (by simp; omega)).trans q0.out
        have d1 := (H5.out.cell (p := ⟨w.heap.size + 1, 1, none⟩) (by simp; omega)).trans q1.out
        clear hn hina hl hx2 hx3 hst0 hst1
        simp only [codeB, if_true]
        go_wp2_with fail
        refine (l07Behind_is x0 x1 (-1) _ (HN.out.below H5.out) HL.out hlen ht0 ht1 hx0 hx1 (by omega) (by omega)).mono ?_
        rintro e w6 ⟨gb, hgb, G, lG, hRG, hG, rfl, hb2⟩
        rw [but_none HL.out] at hG
        have HE : Aside0 (∀ h, h < 301 → G.getD (st * 301 + h) false = arrB t l x0 x1 st h) := ⟨fun h hh => by rw [← arrB_eq HL.out hG hst8 hh]; rfl⟩
        have HRG := Aside0.mk hRG
        have HO7 : Aside0 (w6.ownsRow w.heap.size 2 1 (.slice (some ⟨w.heap.size + 1 + 1, 0, none⟩) 0 0) ([] : List Int).length (nums .i64 [])) := ⟨pw_own_below HO6.out hb2⟩
        have hb3 : Aside0 (Below w.heap.size w w6) := ⟨hb6.out.trans (hb2.mono hb6.out.size)⟩
        have hg2 : w.heap.size + 1 + 1 < gb := by have := H5.out.size; omega
        clear hb2 hG hRG d0 d1
        go_wp2
        go_loopg [8, 11] 301 (fun gg v8 v11 wr => ∃ (kk : Nat) (xs : List Int), kk ≤ 301 ∧ 301 - kk ≤ gg ∧ v11 = .int .i64 kk ∧ xs.length ≤ kk ∧ Aside0 (wr.ownsRow w.heap.size 2 1 v8 xs.length (nums .i64 xs)) ∧ Aside0 (Below w.heap.size w wr) ∧ Aside0 (RowAt wr gb 127 G) ∧ (v8.ownBlock ≠ some gb) ∧ Aside0 (xs ++ hoursFrom (fun h => arrB t l x0 x1 st h) (301 - kk) kk = hoursFrom (fun h => arrB t l x0 x1 st h) 301 0))
        case atStart => exact ⟨0, [], Nat.zero_le _, by omega, rfl, Nat.le_refl _, HO7, hb3, HRG, by simp [Value.ownBlock]; omega, ⟨rfl⟩⟩
        case round =>
          obtain ⟨kk, xs, hkk, hg, rfl, hxs, HO, BW, HG, hnb, HA⟩ := hrel
          by_cases hlt : kk < 301
          · have hltz : (kk : Int) ≤ 300 := by omega
            have hltz2 : (kk : Int) < 301 := by omega
            have hcell := HG.out.cell (st * 301 + kk) (by omega)
            rw [HE.out kk hlt] at hcell
            have hgl := HG.out.lt
            have hd : hoursFrom (fun h => arrB t l x0 x1 st h) (301 - kk) kk = if arrB t l x0 x1 st kk = true then (kk : Int) :: hoursFrom (fun h => arrB t l x0 x1 st h) (301 - (kk + 1)) (kk + 1) else hoursFrom (fun h => arrB t l x0 x1 st h) (301 - (kk + 1)) (kk + 1) := by
              rw [show 301 - kk = (301 - (kk + 1)) + 1 by omega, hoursFrom]
            cases hq : arrB t l x0 x1 st kk with
            | false =>
              rw [hq] at hcell
              have HD2 : Aside0 (xs ++ hoursFrom (fun h => arrB t l x0 x1 st h) (301 - (kk + 1)) (kk + 1) = hoursFrom (fun h => arrB t l x0 x1 st h) 301 0) := ⟨by rw [← HA.out, hd, if_neg (by simp [hq])]⟩
              clear hq hd HA
              go_wp2
              go_roundg (301 - (kk + 1))
              case measure => omega
              case rel => exact ⟨kk + 1, xs, by omega, by omega, by go_num, by omega, HO, BW, HG, hnb, HD2⟩
            | true =>
              rw [hq] at hcell
              have HD2 : Aside0 ((xs ++ [(kk : Int)]) ++ hoursFrom (fun h => arrB t l x0 x1 st h) (301 - (kk + 1)) (kk + 1) = hoursFrom (fun h => arrB t l x0 x1 st h) 301 0) := ⟨by rw [← HA.out, hd, if_pos hq]; simp⟩
              clear hq hd HA
              go_wp2_with (at_builtin; refine print_append_num (w0 := w) w.heap.size rfl (.tmp 37) (.tmp 39) 36 2 .i64 8 rfl Try.underlying36 infoI64 (by omega) _ xs (kk : Int) rfl (by go_simp) HO.out BW.out BW.out.size (by omega) ?_; intro v1 w3 hown1 hB1 hg1 hat1)
              have HO1 := Aside0.mk hown1
              have HB1 := Aside0.mk hB1
              have HG1 : Aside0 (RowAt w3 gb 127 G) := ⟨⟨(hg1.block gb hgl (fun h => hnb h.symm)).trans HG.out.out⟩⟩
              have hnb1 : v1.ownBlock ≠ some gb := by
                rcases hat1 with h | ⟨b, h, hb⟩
                · rw [h]
                  exact hnb
                · rw [h]
                  intro h2
                  injection h2 with h2
                  omega
              clear hown1 hB1 hg1 hat1 hnb
              go_wp2
              go_roundg (301 - (kk + 1))
              case measure => omega
              case rel => exact ⟨kk + 1, xs ++ [(kk : Int)], by omega, by omega, by go_num, by simp; omega, HO1, HB1, HG1, hnb1, HD2⟩
          · have hltz : ¬ (kk : Int) ≤ 300 := by omega
            have hk : kk = 301 := by omega
            have HA2 : Aside0 (xs = hoursFrom (fun h => arrB t l x0 x1 st h) 301 0) := ⟨by rw [← HA.out, hk]; simp [hoursFrom]⟩
            clear HA hk
            go_wp2
            go_ret2
            rw [ER.out]
            refine ⟨_, rfl, ?_, BW.out⟩
            simp only [Int.toNat_natCast]
            rw [← HA2.out]
            exact Kd.R_of_own HO.out (fun _ _ => trivial)
def spec_ArrivalsAt.f (a0_0 : Int) (a0_1 : Int) (l0_2 : List (S82)) (a1_0 : Int) (a1_1 : Int) (a2 : Int) : Option (List Int × Int) := if okNet a0_0 a0_1 l0_2 = true ∧ okScan ⟨a1_0, a1_1⟩ = true then some (arrRes a0_0 a0_1 l0_2 ⟨a1_0, a1_1⟩ a2) else none
theorem spec_ArrivalsAt.calls (a0_0 : Int) (a0_1 : Int) (A0_2 : Option Addr) (c0_2 : Nat) (l0_2 : List (S82)) (a1_0 : Int) (a1_1 : Int) (a2 : Int) (r1 : List Int) (r2 : Int) (w : World) (hr0_2 : Kd.C k82 w A0_2 l0_2.length l0_2) (hc0_2 : l0_2.length ≤ c0_2) (h : spec_ArrivalsAt.f a0_0 a0_1 l0_2 a1_0 a1_1 a2 = some (r1, r2)) :
    Calls Try.prog 31 #[.agg #[.int .i8 a0_0, .int .i16 a0_1, .slice A0_2 l0_2.length c0_2], .agg #[.int .i8 a1_0, .int .i16 a1_1], .int .i64 a2] w fun e w' => ∃ v0_ : Value, e = .returned (.tuple #[v0_, .int .i64 r2]) ∧ Kd.R (Kd.int .i64) 2 w' w.heap.size (fun _ => True) v0_ r1 ∧ Below w.heap.size w w' := by
  unfold spec_ArrivalsAt.f at h
  split at h
  · injection h with h
    have h1 : (arrRes a0_0 a0_1 l0_2 ⟨a1_0, a1_1⟩ a2).1 = r1 := by rw [h]
    have h2 : (arrRes a0_0 a0_1 l0_2 ⟨a1_0, a1_1⟩ a2).2 = r2 := by rw [h]
    rw [← h1, ← h2]
    rename_i hh
    exact sArrivalsAt_any _ _ _ _ _ _ _ _ w hr0_2 hc0_2 hh.1 hh.2
  · cases h
end Go.Proofs.Ytgchiepnodoohaa.Q
