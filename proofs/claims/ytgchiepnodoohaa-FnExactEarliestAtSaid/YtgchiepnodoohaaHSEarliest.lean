/- spec's EarliestAt (so far: the plain law of its least hours). -/
import Derived.Test.YtgchiepnodoohaaHEarliest
import Derived.Test.YtgchiepnodoohaaHSArrivals
set_option linter.unusedVariables false
set_option linter.unusedSimpArgs false
namespace Go.Proofs.Ytgchiepnodoohaa.Q
open Go.RowKit Go.Proofs.YtgchiepnodoohaaW.PrintWords Go.Proofs.YtgchiepnodoohaaW.PrintLast Go.Proofs.YtgchiepnodoohaaW.PrintMore
theorem firstH_congr {p q : Nat → Bool} : ∀ (n h : Nat), (∀ i, h ≤ i → i < h + n → p i = q i) → firstH p n h = firstH q n h
  | 0, _, _ => rfl
  | n + 1, h, e => by
    simp only [firstH, e h (Nat.le_refl _) (by omega)]
    rw [firstH_congr n (h + 1) (fun i h1 h2 => e i (by omega) (by omega))]
theorem firstH_at {p : Nat → Bool} : ∀ (n h k : Nat), h ≤ k → k < h + n → p k = true → (∀ i, h ≤ i → i < k → p i = false) → firstH p n h = (k : Int)
  | 0, h, k, h1, h2, _, _ => by omega
  | n + 1, h, k, h1, h2, hk, hn => by
    unfold firstH
    by_cases e : h = k
    · subst e
      rw [if_pos hk]
    · rw [if_neg (by rw [hn h (Nat.le_refl _) (by omega)]; simp)]
      exact firstH_at n (h + 1) k (by omega) (by omega) hk (fun i h3 h4 => hn i (by omega) h4)
/-- What spec looks at: the arrivals and the scan itself. -/
theorem earl_eq {t : Int} {l : List S82} (hl : ∀ x ∈ l, laneV x) (a0 h0 st : Nat) (hh : h0 < 301) : firstH (fun h => arrB t l a0 h0 st h || (decide (h = h0) && decide (st = a0))) 301 0 = earl t l a0 h0 st := by
  unfold earl
  split
  · rename_i e
    refine firstH_at 301 0 h0 (by omega) (by omega) (by simp [e]) (fun i _ h2 => ?_)
    have h3 : arrB t l a0 h0 st i = false := by
      cases h4 : arrB t l a0 h0 st i with
      | false => rfl
      | true =>
        have := (((arrB_iff hl a0 h0 st i).1 h4).gt hl).1
        omega
    rw [h3, decide_eq_false (by omega : ¬ i = h0)]
    rfl
  · rename_i e
    exact firstH_congr 301 0 (fun i _ _ => by simp [e])
set_option maxHeartbeats 4000000 in
set_option maxRecDepth 100000 in
theorem sEarliestAt_any (s t : Int) (A : Option Addr) (c : Nat) (l : List S82) (a0 a1 : Int) (w : World) (hr : Kd.C k82 w A l.length l) (hc : l.length ≤ c) (hok : okNet s t l = true) (hoa : okScan ⟨a0, a1⟩ = true) :
    Calls Try.prog 38 #[.agg #[.int .i8 s, .int .i16 t, .slice A l.length c], .agg #[.int .i8 a0, .int .i16 a1]] w fun e w' => ∃ v : Value, e = .returned (.tuple #[v, .int .i64 (earlRes s t l ⟨a0, a1⟩).2]) ∧ Kd.R (Kd.int .i64) 2 w' w.heap.size (fun _ => True) v (earlRes s t l ⟨a0, a1⟩).1 ∧ Below w.heap.size w w' := by
  have HN := Aside0.mk (NetAt.new (s := s) (t := t) hr hc 31)
  have OK := Aside0.mk hok
  have HOA := Aside0.mk hoa
  clear hr hok hoa
  go_enter Try.func38, Try.ntmps38
  go_wp2_with fail
  have HBW : Aside0 (Below w.heap.size w (((w.alloc (.cells #[.int .i8 s, .int .i16 t, .slice A l.length c] 31)).alloc (.cells #[.int .i8 a0, .int .i16 a1] 47)).alloc (.cells #[] 2))) := ⟨(((Below.refl _ _).alloc (Nat.le_refl _) _).alloc (by simp) _).alloc (by simp; omega) _⟩
  have HVW : Aside0 (w.heap.size ≤ (((w.alloc (.cells #[.int .i8 s, .int .i16 t, .slice A l.length c] 31)).alloc (.cells #[.int .i8 a0, .int .i16 a1] 47)).alloc (.cells #[] 2)).heap.size) := ⟨by simp; omega⟩
  have HN := Aside0.mk ((HN.out.alloc (.cells #[.int .i8 a0, .int .i16 a1] 47)).alloc (.cells #[] 2))
  have HO0 : Aside0 ((((w.alloc (.cells #[.int .i8 s, .int .i16 t, .slice A l.length c] 31)).alloc (.cells #[.int .i8 a0, .int .i16 a1] 47)).alloc (.cells #[] 2)).ownsRow w.heap.size 2 1 (.slice (some ⟨w.heap.size + 1 + 1, 0, none⟩) 0 0) ([] : List Int).length (nums .i64 [])) := ⟨own_lit0 ((w.alloc (.cells #[.int .i8 s, .int .i16 t, .slice A l.length c] 31)).alloc (.cells #[.int .i8 a0, .int .i16 a1] 47)) w.heap.size 2 (w.heap.size + 1 + 1) (by simp) (by simp; omega)⟩
  have HO1 : Aside0 ((((w.alloc (.cells #[.int .i8 s, .int .i16 t, .slice A l.length c] 31)).alloc (.cells #[.int .i8 a0, .int .i16 a1] 47)).alloc (.cells #[] 2)).ownsRow (w.heap.size + 1 + 1) 2 1 (.slice (some ⟨w.heap.size + 1 + 1, 0, none⟩) 0 0) ([] : List Int).length (nums .i64 [])) := ⟨own_lit0 ((w.alloc (.cells #[.int .i8 s, .int .i16 t, .slice A l.length c] 31)).alloc (.cells #[.int .i8 a0, .int .i16 a1] 47)) (w.heap.size + 1 + 1) 2 (w.heap.size + 1 + 1) (by simp) (by simp)⟩
  have q0 : Aside0 ((((w.alloc (.cells #[.int .i8 s, .int .i16 t, .slice A l.length c] 31)).alloc (.cells #[.int .i8 a0, .int .i16 a1] 47)).alloc (.cells #[] 2)).cell? ⟨w.heap.size + 1, 0, none⟩ = some (.int .i8 a0)) := ⟨by go_simp⟩
  have q1 : Aside0 ((((w.alloc (.cells #[.int .i8 s, .int .i16 t, .slice A l.length c] 31)).alloc (.cells #[.int .i8 a0, .int .i16 a1] 47)).alloc (.cells #[] 2)).cell? ⟨w.heap.size + 1, 1, none⟩ = some (.int .i16 a1)) := ⟨by go_simp⟩
  have q2 : Aside0 ((((w.alloc (.cells #[.int .i8 s, .int .i16 t, .slice A l.length c] 31)).alloc (.cells #[.int .i8 a0, .int .i16 a1] 47)).alloc (.cells #[] 2)).cell? ⟨w.heap.size, 0, none⟩ = some (.int .i8 s)) := ⟨by go_simp⟩
  have hz : w.heap.size + 1 + 1 < (((w.alloc (.cells #[.int .i8 s, .int .i16 t, .slice A l.length c] 31)).alloc (.cells #[.int .i8 a0, .int .i16 a1] 47)).alloc (.cells #[] 2)).heap.size := by simp
  generalize (((w.alloc (.cells #[.int .i8 s, .int .i16 t, .slice A l.length c] 31)).alloc (.cells #[.int .i8 a0, .int .i16 a1] 47)).alloc (.cells #[] 2)) = V at *
  refine (l07Scan_at HN.out OK.out a0 a1 HOA.out).mono ?_
  rintro e w1 ⟨rfl, hb⟩
  have H1 := Aside0.mk hb
  clear hb
  go_wp2_with fail
  refine (l07Asked_at (HN.out.below H1.out) OK.out (scanIn s ⟨a0, a1⟩)).mono ?_
  rintro e w5 ⟨rfl, hb5⟩
  have H5 := Aside0.mk (H1.out.trans (hb5.mono H1.out.size))
  have hb6 := Aside0.mk (HBW.out.trans (H5.out.mono HVW.out))
  have HO6 := Aside0.mk (pw_own_below HO0.out H5.out)
  clear hb5
  cases hn : netB s t l with
  | false =>
    have ER : Aside0 (earlRes s t l ⟨a0, a1⟩ = ([], 1)) := ⟨by unfold earlRes; rw [hn]; rfl⟩
    clear hn
    simp only [codeB, Bool.false_eq_true, if_false]
    go_wp2
    go_ret2
    rw [ER.out]
    exact ⟨_, rfl, Kd.R_of_own HO6.out (fun _ _ => trivial), hb6.out⟩
  | true =>
    cases h1 : scanIn s ⟨a0, a1⟩ with
    | false =>
      have ER : Aside0 (earlRes s t l ⟨a0, a1⟩ = ([], 2)) := ⟨by unfold earlRes; rw [hn, h1]; rfl⟩
      clear hn h1
      simp only [codeB, Bool.false_eq_true, if_false, if_true]
      go_wp2
      go_ret2
      rw [ER.out]
      exact ⟨_, rfl, Kd.R_of_own HO6.out (fun _ _ => trivial), hb6.out⟩
    | true =>
      have ER : Aside0 (earlRes s t l ⟨a0, a1⟩ = ((List.range s.toNat).map (earl t l a0.toNat a1.toNat), 0)) := ⟨by unfold earlRes; rw [hn, h1]; rfl⟩
      obtain ⟨hl, hs1, hs8, ht0, ht1⟩ := laneV_of hn
      have hlen := netB_len hn
      have hina := h1
      unfold scanIn at hina
      rw [Bool.and_eq_true] at hina
      obtain ⟨x0, x1, hx, hx0, hx1, hx2, hx3⟩ := scansIn_nat hs8 hina
      injection hx with e1 e2
      subst e1 e2
      have HL := Aside0.mk hl
      obtain ⟨sn, rfl⟩ := Int.eq_ofNat_of_zero_le (show 0 ≤ s by omega)
      have d0 := (H5.out.cell (p := ⟨w.heap.size + 1, 0, none⟩) (by simp; omega)).trans q0.out
      have d1 := (H5.out.cell (p := ⟨w.heap.size + 1, 1, none⟩) (by simp; omega)).trans q1.out
      clear hn h1 hina hl hx2 hx3
      simp only [codeB, if_true]
      go_wp2_with fail
      refine (l07Behind_is x0 x1 (-1) _ (HN.out.below H5.out) HL.out hlen ht0 ht1 hx0 hx1 (by omega) (by omega)).mono ?_
      rintro e w6 ⟨gb, hgb, G, lG, hRG, hG, rfl, hb2⟩
      rw [but_none HL.out] at hG
      have HE : Aside0 (∀ st h, st < 8 → h < 301 → G.getD (st * 301 + h) false = arrB t l x0 x1 st h) := ⟨fun st h hs hh => by rw [← arrB_eq HL.out hG hs hh]; rfl⟩
      have HRG := Aside0.mk hRG
      have HB6 : Aside0 (Below V.heap.size V w6) := ⟨H5.out.trans (hb2.mono H5.out.size)⟩
      have HO7 : Aside0 (w6.ownsRow (w.heap.size + 1 + 1) 2 1 (.slice (some ⟨w.heap.size + 1 + 1, 0, none⟩) 0 0) ([] : List Int).length (nums .i64 [])) := ⟨pw_own_below (pw_own_below HO1.out H5.out) hb2⟩
      have hg2 : w.heap.size + 1 + 1 < gb := by have := H5.out.size; omega
      have hsn8 : sn ≤ 8 := by omega
      have HB7 : Aside0 (Below (w.heap.size + 1 + 1) V w6) := ⟨HB6.out.mono (by omega)⟩
      clear hb2 hG hRG d0 d1
      go_wp2
      go_loopg [6, 9] sn (fun gg v6 v9 wr => ∃ (st : Nat) (xs : List Int), st ≤ sn ∧ sn - st ≤ gg ∧ v9 = .int .i64 st ∧ Aside0 (wr.ownsRow (w.heap.size + 1 + 1) 2 1 v6 xs.length (nums .i64 xs)) ∧ Aside0 (Below (w.heap.size + 1 + 1) V wr) ∧ Aside0 (RowAt wr gb 127 G) ∧ (v6.ownBlock ≠ some gb) ∧ Aside0 (xs = (List.range st).map (earl t l x0 x1)))
      case atStart => exact ⟨0, [], Nat.zero_le _, by omega, rfl, HO7, HB7, HRG, by simp [Value.ownBlock]; omega, ⟨by simp⟩⟩
      case round =>
        obtain ⟨st, xs, hst, hg, rfl, HO, BW, HG, hnb, HA⟩ := hrel
        have d0 := (BW.out.cell (p := ⟨w.heap.size + 1, 0, none⟩) (by simp)).trans q0.out
        have d1 := (BW.out.cell (p := ⟨w.heap.size + 1, 1, none⟩) (by simp)).trans q1.out
        have d2 := (BW.out.cell (p := ⟨w.heap.size, 0, none⟩) (by simp; omega)).trans q2.out
        by_cases hlt : st < sn
        · have hltz : (st : Int) < (sn : Int) := by omega
          go_wp2
          obtain ⟨wo, hwo⟩ : ∃ wo : World, wo = wr := ⟨_, rfl⟩
          subst hwo
          go_loopg [10, 11] 301 (fun gg v10 v11 wq => ∃ (m : Nat), m ≤ 301 ∧ m ≤ gg ∧ v11 = .int .i64 ((m : Int) - 1) ∧ v10 = .int .i64 (firstH (fun h => arrB t l x0 x1 st h || (decide (h = x1) && decide (st = x0))) (301 - m) m) ∧ wq = wo)
          case atStart => exact ⟨301, by omega, by omega, rfl, rfl, rfl⟩
          case round =>
            obtain ⟨m, hm, hgm, rfl, rfl, rfl⟩ := hrel
            by_cases hm0 : m = 0
            · subst hm0
              have HA2 : Aside0 (xs ++ [firstH (fun h => arrB t l x0 x1 st h || (decide (h = x1) && decide (st = x0))) 301 0] = (List.range (st + 1)).map (earl t l x0 x1)) := ⟨by rw [earl_eq HL.out x0 x1 st hx1, HA.out, List.range_succ]; simp⟩
              have hxl : xs.length ≤ 8 := by rw [HA.out, List.length_map, List.length_range]; omega
              have hgl := HG.out.lt
              have hmz : ¬ (0 : Int) ≤ -1 := by omega
              clear HA
              go_wp2_with (at_builtin; refine print_append_num (w0 := V) (w.heap.size + 1 + 1) rfl (.tmp 55) (.tmp 57) 36 2 .i64 8 rfl Try.underlying36 infoI64 (by omega) _ xs (firstH (fun h => arrB t l x0 x1 st h || (decide (h = x1) && decide (st = x0))) 301 0) rfl (by go_simp) HO.out BW.out (by have := BW.out.size; omega) (by omega) ?_; intro v1 w3 hown1 hB1 hg1 hat1)
              have HO1' := Aside0.mk hown1
              have HB1 := Aside0.mk hB1
              have HG1 : Aside0 (RowAt w3 gb 127 G) := ⟨⟨(hg1.block gb hgl (fun h => hnb h.symm)).trans HG.out.out⟩⟩
              have hnb1 : v1.ownBlock ≠ some gb := by
                rcases hat1 with h | ⟨b, h, hb⟩
                · rw [h]
                  exact hnb
                · rw [h]
                  intro h2
                  injection h2 with h2
                  omega
              clear hown1 hB1 hg1 hat1 hnb
              go_wp2
              go_roundg (sn - (st + 1))
              case measure => omega
              case rel => exact ⟨st + 1, xs ++ [firstH (fun h => arrB t l x0 x1 st h || (decide (h = x1) && decide (st = x0))) 301 0], by omega, by omega, by go_num, HO1', HB1, HG1, hnb1, HA2⟩
            · obtain ⟨k, rfl⟩ : ∃ k, m = k + 1 := ⟨m - 1, by omega⟩
              have hkz : ((k + 1 : Nat) : Int) - 1 = (k : Int) := by omega
              have hk0 : (0 : Int) ≤ (k : Int) := by omega
              have hk1 : (k : Int) < 301 := by omega
              have hs8z : (st : Int) < 8 := by omega
              have hcell := HG.out.cell (st * 301 + k) (by omega)
              rw [HE.out st k (by omega) (by omega)] at hcell
              have hd : firstH (fun h => arrB t l x0 x1 st h || (decide (h = x1) && decide (st = x0))) (301 - k) k = if (arrB t l x0 x1 st k || (decide (k = x1) && decide (st = x0))) = true then (k : Int) else firstH (fun h => arrB t l x0 x1 st h || (decide (h = x1) && decide (st = x0))) (301 - (k + 1)) (k + 1) := by
                rw [show 301 - k = (301 - (k + 1)) + 1 by omega, firstH]
              rw [hkz]
              cases hq : arrB t l x0 x1 st k with
              | true =>
                rw [hq] at hcell hd
                have hd2 : Aside0 (firstH (fun h => arrB t l x0 x1 st h || (decide (h = x1) && decide (st = x0))) (301 - k) k = (k : Int)) := ⟨by rw [hd]; simp⟩
                clear hd hq
                go_wp2
                go_roundg k
                case measure => omega
                case rel => exact ⟨k, by omega, by omega, by go_num, by rw [hd2.out], rfl⟩
              | false =>
                rw [hq] at hcell hd
                clear hq
                by_cases hkx : k = x1
                · have g1 : ((k : Int) == (x1 : Int)) = true := by simp [hkx]
                  by_cases hsx : st = x0
                  · have g2 : ((st : Int) == (x0 : Int)) = true := by simp [hsx]
                    have hd2 : Aside0 (firstH (fun h => arrB t l x0 x1 st h || (decide (h = x1) && decide (st = x0))) (301 - k) k = (k : Int)) := ⟨by rw [hd]; simp [hkx, hsx]⟩
                    clear hd hkx hsx
                    go_wp2
                    go_roundg k
                    case measure => omega
                    case rel => exact ⟨k, by omega, by omega, by go_num, by rw [hd2.out], rfl⟩
                  · have g2 : ((st : Int) == (x0 : Int)) = false := beq_false_of_ne (by omega)
                    have hd2 : Aside0 (firstH (fun h => arrB t l x0 x1 st h || (decide (h = x1) && decide (st = x0))) (301 - k) k = firstH (fun h => arrB t l x0 x1 st h || (decide (h = x1) && decide (st = x0))) (301 - (k + 1)) (k + 1)) := ⟨by rw [hd]; simp [hsx]⟩
                    clear hd hkx hsx
                    go_wp2
                    go_roundg k
                    case measure => omega
                    case rel => exact ⟨k, by omega, by omega, by go_num, by rw [hd2.out], rfl⟩
                · have g1 : ((k : Int) == (x1 : Int)) = false := beq_false_of_ne (by omega)
                  have hd2 : Aside0 (firstH (fun h => arrB t l x0 x1 st h || (decide (h = x1) && decide (st = x0))) (301 - k) k = firstH (fun h => arrB t l x0 x1 st h || (decide (h = x1) && decide (st = x0))) (301 - (k + 1)) (k + 1)) := ⟨by rw [hd]; simp [hkx]⟩
                  clear hd hkx
                  go_wp2
                  go_roundg k
                  case measure => omega
                  case rel => exact ⟨k, by omega, by omega, by go_num, by rw [hd2.out], rfl⟩
        · have hltz : ¬ (st : Int) < (sn : Int) := by omega
          have hk : st = sn := by omega
          have HA2 : Aside0 (xs = (List.range sn).map (earl t l x0 x1)) := ⟨by rw [HA.out, hk]⟩
          clear HA hk
          go_wp2
          go_ret2
          rw [ER.out]
          refine ⟨_, rfl, ?_, HBW.out.trans (BW.out.mono (by omega))⟩
          simp only [Int.toNat_natCast]
          rw [← HA2.out]
          exact Kd.R_lower (Kd.R_of_own HO.out (fun _ _ => trivial)) (by omega)
def spec_EarliestAt.f (a0_0 : Int) (a0_1 : Int) (l0_2 : List (S82)) (a1_0 : Int) (a1_1 : Int) : Option (List Int × Int) := if okNet a0_0 a0_1 l0_2 = true ∧ okScan ⟨a1_0, a1_1⟩ = true then some (earlRes a0_0 a0_1 l0_2 ⟨a1_0, a1_1⟩) else none
theorem spec_EarliestAt.calls (a0_0 : Int) (a0_1 : Int) (A0_2 : Option Addr) (c0_2 : Nat) (l0_2 : List (S82)) (a1_0 : Int) (a1_1 : Int) (r1 : List Int) (r2 : Int) (w : World) (hr0_2 : Kd.C k82 w A0_2 l0_2.length l0_2) (hc0_2 : l0_2.length ≤ c0_2) (h : spec_EarliestAt.f a0_0 a0_1 l0_2 a1_0 a1_1 = some (r1, r2)) :
    Calls Try.prog 38 #[.agg #[.int .i8 a0_0, .int .i16 a0_1, .slice A0_2 l0_2.length c0_2], .agg #[.int .i8 a1_0, .int .i16 a1_1]] w fun e w' => ∃ v0_ : Value, e = .returned (.tuple #[v0_, .int .i64 r2]) ∧ Kd.R (Kd.int .i64) 2 w' w.heap.size (fun _ => True) v0_ r1 ∧ Below w.heap.size w w' := by
  unfold spec_EarliestAt.f at h
  split at h
  · injection h with h
    have h1 : (earlRes a0_0 a0_1 l0_2 ⟨a1_0, a1_1⟩).1 = r1 := by rw [h]
    have h2 : (earlRes a0_0 a0_1 l0_2 ⟨a1_0, a1_1⟩).2 = r2 := by rw [h]
    rw [← h1, ← h2]
    rename_i hh
    exact sEarliestAt_any _ _ _ _ _ _ _ w hr0_2 hc0_2 hh.1 hh.2
  · cases h
end Go.Proofs.Ytgchiepnodoohaa.Q
