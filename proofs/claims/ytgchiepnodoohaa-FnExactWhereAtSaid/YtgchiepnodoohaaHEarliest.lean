/- slices.Index at a slice of an array of bools. -/
import Derived.Test.YtgchiepnodoohaaHArrivals
set_option linter.unusedVariables false
set_option linter.unusedSimpArgs false
namespace Go.Proofs.Ytgchiepnodoohaa.Q
open Go.RowKit Go.Proofs.YtgchiepnodoohaaW.PrintWords Go.Proofs.YtgchiepnodoohaaW.PrintLast Go.Proofs.YtgchiepnodoohaaW.PrintMore
/-- The index, from index i on, of the first true; -1 for none. -/
def trueFrom : List Bool → Int → Int
  | [], _ => -1
  | b :: r, i => if b = true then i else trueFrom r (i + 1)
set_option maxHeartbeats 1000000 in
theorem indexB_is (g n c : Nat) (T : TypeId) (G : List Bool) (hn : G.length = n) (hb : n ≤ 1048576) (w : World) (hr : RowAt w g T G) :
    Calls Try.prog 79 #[.slice (some ⟨g, 0, none⟩) n c, .bool true] w fun e w' => e = .returned (.int .i64 (trueFrom G 0)) ∧ w = w' := by
  have HR := Aside0.mk hr
  clear hr
  go_enter Try.func79, Try.ntmps79
  go_wp2
  go_loopg [8] n (fun gg v8 wr => ∃ (kk : Nat), kk ≤ n ∧ n - kk ≤ gg ∧ v8 = .int .i64 kk ∧ Aside0 (trueFrom (G.drop kk) kk = trueFrom G 0) ∧ wr = w)
  case atStart => exact ⟨0, by omega, by omega, rfl, ⟨rfl⟩, rfl⟩
  case round =>
    obtain ⟨kk, hkk, hg, rfl, HA, rfl⟩ := hrel
    by_cases hlt : kk < n
    · have hltz : (kk : Int) < (n : Int) := by omega
      have hx0 := HR.out.cell kk (by omega)
      have hd := drop_cons_of' G false kk (by omega)
      cases hq : G.getD kk false with
      | false =>
        rw [hq] at hx0 hd
        have HD : Aside0 (trueFrom (G.drop (kk + 1)) ((kk : Int) + 1) = trueFrom G 0) := ⟨by rw [← HA.out, hd, trueFrom, if_neg (by simp)]⟩
        clear hd HA hq
        go_wp2
        go_roundg (n - (kk + 1))
        case measure => omega
        case rel => exact ⟨kk + 1, by omega, by omega, by go_num, HD, rfl⟩
      | true =>
        rw [hq] at hx0 hd
        have HD : Aside0 ((kk : Int) = trueFrom G 0) := ⟨by rw [← HA.out, hd, trueFrom, if_pos rfl]⟩
        clear hd HA hq
        go_wp2
        go_ret
        exact ⟨by rw [← HD.out]; rfl, rfl⟩
    · have hltz : ¬ (kk : Int) < (n : Int) := by omega
      have HD : Aside0 (trueFrom G 0 = -1) := ⟨by rw [← HA.out, List.drop_of_length_le (by omega)]; rfl⟩
      go_wp2
      go_ret
      exact ⟨by rw [HD.out]; rfl, rfl⟩
end Go.Proofs.Ytgchiepnodoohaa.Q
/- impl's EarliestAt. -/
set_option linter.unusedVariables false
set_option linter.unusedSimpArgs false
namespace Go.Proofs.Ytgchiepnodoohaa.Q
open Go.RowKit Go.Proofs.YtgchiepnodoohaaW.PrintWords Go.Proofs.YtgchiepnodoohaaW.PrintLast Go.Proofs.YtgchiepnodoohaaW.PrintMore
/-- The first hour, of n from h on, at which p holds; -1 for none. -/
def firstH (p : Nat → Bool) : Nat → Nat → Int
  | 0, _ => -1
  | n + 1, h => if p h = true then (h : Int) else firstH p n (h + 1)
theorem trueFrom_eq (p : Nat → Bool) : ∀ (P : List Bool) (h : Nat), (∀ i, i < P.length → P.getD i false = p (h + i)) → trueFrom P h = firstH p P.length h
  | [], h, _ => rfl
  | b :: r, h, hp => by
    have h0 := hp 0 (by simp)
    simp at h0
    subst h0
    simp only [trueFrom, List.length_cons, firstH]
    split
    · rfl
    · have := trueFrom_eq p r (h + 1) (fun i hi => by have := hp (i + 1) (by simp; omega); simp at this; rw [List.getD_eq_getElem?_getD, this]; congr 1; omega)
      rw [← this]
      congr 1
def earl (t : Int) (l : List S82) (a0 h0 st : Nat) : Int := if st = a0 then (h0 : Int) else firstH (fun h => arrB t l a0 h0 st h) 301 0
def earlRes (s t : Int) (l : List S82) (a : S47) : List Int × Int := coded (codeB (netB s t l) (scanIn s a)) [] ((List.range s.toNat).map (earl t l a.f0.toNat a.f1.toNat))
attribute [local go_sem] zcH noHours_length setRow_alloc_at setRow_alloc_past bcells_set bcells_size List.length_set
set_option maxHeartbeats 4000000 in
set_option maxRecDepth 100000 in
theorem EarliestAt_any (s t : Int) (A : Option Addr) (c : Nat) (l : List S82) (a0 a1 : Int) (w : World) (hr : Kd.C k82 w A l.length l) (hc : l.length ≤ c) (hok : okNet s t l = true) (hoa : okScan ⟨a0, a1⟩ = true) :
    Calls Try.prog 39 #[.agg #[.int .i8 s, .int .i16 t, .slice A l.length c], .agg #[.int .i8 a0, .int .i16 a1]] w fun e w' => ∃ v : Value, e = .returned (.tuple #[v, .int .i64 (earlRes s t l ⟨a0, a1⟩).2]) ∧ Kd.R (Kd.int .i64) 2 w' w.heap.size (fun _ => True) v (earlRes s t l ⟨a0, a1⟩).1 ∧ Below w.heap.size w w' := by
  have HR := Aside0.mk hr
  have OK := Aside0.mk hok
  have HSC : Aside0 (∀ x ∈ [(⟨a0, a1⟩ : S47)], okScan x = true) := ⟨by simp [hoa]⟩
  clear hr hok hoa
  go_enter Try.func39, Try.ntmps39
  go_wp2_with fail
  have HBW : Aside0 (Below w.heap.size w ((w.alloc (.cells #[.int .i8 s, .int .i16 t, .slice A l.length c] 31)).alloc (.cells #[.int .i8 a0, .int .i16 a1] 47))) := ⟨((Below.refl _ _).alloc (Nat.le_refl _) _).alloc (by simp) _⟩
  have q0 : Aside0 (((w.alloc (.cells #[.int .i8 s, .int .i16 t, .slice A l.length c] 31)).alloc (.cells #[.int .i8 a0, .int .i16 a1] 47)).cell? ⟨w.heap.size, 0, none⟩ = some (.int .i8 s)) := ⟨by go_simp⟩
  have q1 : Aside0 (((w.alloc (.cells #[.int .i8 s, .int .i16 t, .slice A l.length c] 31)).alloc (.cells #[.int .i8 a0, .int .i16 a1] 47)).cell? ⟨w.heap.size, 1, none⟩ = some (.int .i16 t)) := ⟨by go_simp⟩
  have q2 : Aside0 (((w.alloc (.cells #[.int .i8 s, .int .i16 t, .slice A l.length c] 31)).alloc (.cells #[.int .i8 a0, .int .i16 a1] 47)).cell? ⟨w.heap.size, 2, none⟩ = some (.slice A l.length c)) := ⟨by go_simp⟩
  have q3 : Aside0 (((w.alloc (.cells #[.int .i8 s, .int .i16 t, .slice A l.length c] 31)).alloc (.cells #[.int .i8 a0, .int .i16 a1] 47)).cell? ⟨w.heap.size + 1, 0, none⟩ = some (.int .i8 a0)) := ⟨by go_simp⟩
  have q4 : Aside0 (((w.alloc (.cells #[.int .i8 s, .int .i16 t, .slice A l.length c] 31)).alloc (.cells #[.int .i8 a0, .int .i16 a1] 47)).cell? ⟨w.heap.size + 1, 1, none⟩ = some (.int .i16 a1)) := ⟨by go_simp⟩
  have HRV := Aside0.mk (Kd.C_below HR.out HBW.out)
  have hz : w.heap.size + 1 < ((w.alloc (.cells #[.int .i8 s, .int .i16 t, .slice A l.length c] 31)).alloc (.cells #[.int .i8 a0, .int .i16 a1] 47)).heap.size := by simp
  have hzV : w.heap.size + 1 + 1 = ((w.alloc (.cells #[.int .i8 s, .int .i16 t, .slice A l.length c] 31)).alloc (.cells #[.int .i8 a0, .int .i16 a1] 47)).heap.size := by simp
  generalize ((w.alloc (.cells #[.int .i8 s, .int .i16 t, .slice A l.length c] 31)).alloc (.cells #[.int .i8 a0, .int .i16 a1] 47)) = V at *
  refine (scanCode_is s t A c l _ _ [⟨a0, a1⟩] _ (Kd.C_alloc HRV.out _) hc OK.out (one_scan _ _ hzV ⟨a0, a1⟩) (by simp) (by simp) HSC.out).mono ?_
  rintro e wc ⟨rfl, hb⟩
  have HX := Aside0.mk (below_call hb)
  rw [scansIn_eq1]
  clear hb
  have d0 := pw_cell_below HX.out q0.out
  have d1 := pw_cell_below HX.out q1.out
  have d2 := pw_cell_below HX.out q2.out
  have d3 := pw_cell_below HX.out q3.out
  have d4 := pw_cell_below HX.out q4.out
  have hb1 : Aside0 (Below w.heap.size w wc) := ⟨HBW.out.trans (HX.out.mono HBW.out.size)⟩
  have hwz : w.heap.size + 1 < wc.heap.size := by have := HX.out.size; omega
  have hwz0 : w.heap.size < wc.heap.size := by omega
  cases h1 : netB s t l with
  | false =>
    have ER : Aside0 (earlRes s t l ⟨a0, a1⟩ = ([], 1)) := ⟨by unfold earlRes; rw [h1]; rfl⟩
    clear h1
    simp only [codeB, Bool.false_eq_true, if_false]
    go_wp2
    go_ret2
    rw [ER.out]
    exact ⟨_, rfl, Kd.R_nil _ _ _ _ _, hb1.out⟩
  | true =>
    cases h2 : scanIn s ⟨a0, a1⟩ with
    | false =>
      have ER : Aside0 (earlRes s t l ⟨a0, a1⟩ = ([], 2)) := ⟨by unfold earlRes; rw [h1, h2]; rfl⟩
      clear h1 h2
      simp only [codeB, Bool.false_eq_true, if_false, if_true]
      go_wp2
      go_ret2
      rw [ER.out]
      exact ⟨_, rfl, Kd.R_nil _ _ _ _ _, hb1.out⟩
    | true =>
      have ER : Aside0 (earlRes s t l ⟨a0, a1⟩ = ((List.range s.toNat).map (earl t l a0.toNat a1.toNat), 0)) := ⟨by unfold earlRes; rw [h1, h2]; rfl⟩
      obtain ⟨hl, hs1, hs8, ht0, ht1⟩ := laneV_of h1
      have hina := h2
      unfold scanIn at hina
      rw [Bool.and_eq_true] at hina
      obtain ⟨x0, x1, hx, hx0, hx1, hx2, hx3⟩ := scansIn_nat hs8 hina
      injection hx with e1 e2
      subst e1 e2
      have HL := Aside0.mk hl
      obtain ⟨sn, rfl⟩ := Int.eq_ofNat_of_zero_le (show 0 ≤ s by omega)
      clear h1 h2 hina hl hx2 hx3
      simp only [codeB, if_true]
      go_wp2_with fail
      refine (all_is sn t A c l x0 x1 _ (Kd.C_alloc (Kd.C_below HR.out hb1.out) _) hc HL.out ht0 ht1 hx0 hx1).mono ?_
      rintro e w2 ⟨G, lG, hG, rfl, hb2⟩
      have HG := Aside0.mk hG
      have HO0 : Aside0 (w2.ownsRow V.heap.size 2 1 (.slice (some ⟨wc.heap.size, 0, none⟩) 0 0) ([] : List Int).length (nums .i64 [])) := ⟨pw_own_below (own_lit0 wc V.heap.size 2 wc.heap.size rfl HX.out.size) hb2⟩
      have HV2 : Aside0 (Below V.heap.size V w2) := ⟨(HX.out.alloc HX.out.size _).trans (hb2.mono (by have := HX.out.size; simp; omega))⟩
      have hsn8 : sn ≤ 8 := by omega
      clear hb2 hG d0 d1 d2 d3 d4
      go_wp2
      go_loopg [7, 21] 8 (fun gg v7 v21 wr => ∃ (kk : Nat) (xs : List Int), kk ≤ 8 ∧ 8 - kk ≤ gg ∧ v21 = .int .i64 kk ∧ xs.length ≤ 8 ∧ Aside0 (wr.ownsRow V.heap.size 2 1 v7 xs.length (nums .i64 xs)) ∧ Aside0 (Below V.heap.size V wr) ∧ Aside0 (xs = (List.range (min kk sn)).map (earl t l x0 x1)))
      case atStart => exact ⟨0, [], Nat.zero_le _, by omega, rfl, by simp, HO0, HV2, ⟨by simp⟩⟩
      case round =>
        obtain ⟨kk, xs, hkk, hg, rfl, hxs, HO, BW, HA⟩ := hrel
        have d0 := pw_cell_below BW.out q0.out
        have d3 := pw_cell_below BW.out q3.out
        have d4 := pw_cell_below BW.out q4.out
        have hl1 : w.heap.size + 1 < wr.heap.size := by have := BW.out.size; omega
        have hl0 : w.heap.size < wr.heap.size := by omega
        by_cases hlt : kk < 8
        · have hltz : (kk : Int) < 8 := by omega
          have hixT := fun w => run_indexT .i64 G lG kk hlt w
          have lp := part_length G (kk * 301) 301 (by omega)
          go_wp2
          rw [run_storeRow _ wr.heap.size 98 noHours _ (row_at _ _ _ _ rfl) (by rw [noHours_length, lp])]
          have HO6 : Aside0 ((wr.alloc (.cells (bcells ((G.drop (kk * 301)).take 301)) 98)).ownsRow V.heap.size 2 1 u7 xs.length (nums .i64 xs)) := ⟨HO.out.alloc _⟩
          have BW6 : Aside0 (Below V.heap.size V (wr.alloc (.cells (bcells ((G.drop (kk * 301)).take 301)) 98))) := ⟨BW.out.alloc BW.out.size _⟩
          have HR6 : Aside0 (RowAt (wr.alloc (.cells (bcells ((G.drop (kk * 301)).take 301)) 98)) wr.heap.size 98 ((G.drop (kk * 301)).take 301)) := ⟨RowAt.new _ _ rfl _ _⟩
          have HE : Aside0 (trueFrom ((G.drop (kk * 301)).take 301) 0 = firstH (fun h => arrB t l x0 x1 kk h) 301 0) := ⟨by
            have := trueFrom_eq (fun h => arrB t l x0 x1 kk h) ((G.drop (kk * 301)).take 301) 0 (fun i hi => by rw [part_getD _ _ _ _ (by omega), Nat.zero_add, ← arrB_eq HL.out HG.out hlt (by omega)]; rfl)
            rw [lp] at this
            exact this⟩
          have hxl : xs.length ≤ kk := by rw [HA.out, List.length_map, List.length_range]; omega
          by_cases hks : sn ≤ kk
          · have HA2 : Aside0 (xs = (List.range (min (kk + 1) sn)).map (earl t l x0 x1)) := ⟨by rw [HA.out, Nat.min_eq_right hks, Nat.min_eq_right (by omega)]⟩
            go_wp2
            go_roundg (8 - (kk + 1))
            case measure => omega
            case rel => exact ⟨kk + 1, xs, by omega, by omega, by go_num, hxs, HO6, BW6, HA2⟩
          · have hsn : (List.range (min (kk + 1) sn)).map (earl t l x0 x1) = xs ++ [earl t l x0 x1 kk] := by
              rw [HA.out, Nat.min_eq_left (by omega), Nat.min_eq_left (by omega), List.range_succ]
              simp
            by_cases hkx : kk = x0
            · have HA2 : Aside0 (xs ++ [(x1 : Int)] = (List.range (min (kk + 1) sn)).map (earl t l x0 x1)) := ⟨by rw [hsn]; unfold earl; rw [if_pos hkx]⟩
              have hb5 : ((kk : Int) == (x0 : Int)) = true := by simp [hkx]
              clear hsn hkx
              go_wp2_with (at_builtin; refine print_append_num (w0 := V) V.heap.size rfl (.tmp 42) (.tmp 46) 36 2 .i64 8 rfl Try.underlying36 infoI64 (by omega) _ xs ((x1 : Int)) rfl (by go_simp) HO6.out BW6.out BW6.out.size (by omega) ?_; intro v1 w3 hown1 hB1 hg1 hat1)
              have HO1 := Aside0.mk hown1
              have HB1 := Aside0.mk hB1
              clear hown1 hB1 hg1 hat1
              go_wp2
              go_roundg (8 - (kk + 1))
              case measure => omega
              case rel => exact ⟨kk + 1, xs ++ [(x1 : Int)], by omega, by omega, by go_num, by simp; omega, HO1, HB1, HA2⟩
            · have HA2 : Aside0 (xs ++ [firstH (fun h => arrB t l x0 x1 kk h) 301 0] = (List.range (min (kk + 1) sn)).map (earl t l x0 x1)) := ⟨by rw [hsn]; unfold earl; rw [if_neg hkx]⟩
              have hb5 : ((kk : Int) == (x0 : Int)) = false := beq_false_of_ne (by omega)
              clear hsn hkx
              go_wp2_with fail
              refine (indexB_is wr.heap.size 301 301 _ _ lp (by omega) _ HR6.out).mono ?_
              rintro e w' ⟨rfl, rfl⟩
              rw [HE.out]
              go_wp2_with (at_builtin; refine print_append_num (w0 := V) V.heap.size rfl (.tmp 25) (.tmp 28) 36 2 .i64 8 rfl Try.underlying36 infoI64 (by omega) _ xs (firstH (fun h => arrB t l x0 x1 kk h) 301 0) rfl (by go_simp) HO6.out BW6.out BW6.out.size (by omega) ?_; intro v1 w3 hown1 hB1 hg1 hat1)
              have HO1 := Aside0.mk hown1
              have HB1 := Aside0.mk hB1
              clear hown1 hB1 hg1 hat1
              go_wp2
              go_roundg (8 - (kk + 1))
              case measure => omega
              case rel => exact ⟨kk + 1, xs ++ [firstH (fun h => arrB t l x0 x1 kk h) 301 0], by omega, by omega, by go_num, by simp; omega, HO1, HB1, HA2⟩
        · have hltz : ¬ (kk : Int) < 8 := by omega
          have hk : kk = 8 := by omega
          have HA2 : Aside0 (xs = (List.range sn).map (earl t l x0 x1)) := ⟨by rw [HA.out, hk, Nat.min_eq_right hsn8]⟩
          clear HA hk
          go_wp2
          go_ret2
          rw [ER.out]
          refine ⟨_, rfl, ?_, HBW.out.trans (BW.out.mono HBW.out.size)⟩
          simp only [Int.toNat_natCast]
          rw [← HA2.out]
          exact Kd.R_lower (Kd.R_of_own HO.out (fun _ _ => trivial)) HBW.out.size
def impl_EarliestAt.f (a0_0 : Int) (a0_1 : Int) (l0_2 : List (S82)) (a1_0 : Int) (a1_1 : Int) : Option (List Int × Int) := if okNet a0_0 a0_1 l0_2 = true ∧ okScan ⟨a1_0, a1_1⟩ = true then some (earlRes a0_0 a0_1 l0_2 ⟨a1_0, a1_1⟩) else none
theorem impl_EarliestAt.calls (a0_0 : Int) (a0_1 : Int) (A0_2 : Option Addr) (c0_2 : Nat) (l0_2 : List (S82)) (a1_0 : Int) (a1_1 : Int) (r1 : List Int) (r2 : Int) (w : World) (hr0_2 : Kd.C k82 w A0_2 l0_2.length l0_2) (hc0_2 : l0_2.length ≤ c0_2) (h : impl_EarliestAt.f a0_0 a0_1 l0_2 a1_0 a1_1 = some (r1, r2)) :
    Calls Try.prog 39 #[.agg #[.int .i8 a0_0, .int .i16 a0_1, .slice A0_2 l0_2.length c0_2], .agg #[.int .i8 a1_0, .int .i16 a1_1]] w fun e w' => ∃ v0_ : Value, e = .returned (.tuple #[v0_, .int .i64 r2]) ∧ Kd.R (Kd.int .i64) 2 w' w.heap.size (fun _ => True) v0_ r1 ∧ Below w.heap.size w w' := by
  unfold impl_EarliestAt.f at h
  split at h
  · injection h with h
    have h1 : (earlRes a0_0 a0_1 l0_2 ⟨a1_0, a1_1⟩).1 = r1 := by rw [h]
    have h2 : (earlRes a0_0 a0_1 l0_2 ⟨a1_0, a1_1⟩).2 = r2 := by rw [h]
    rw [← h1, ← h2]
    rename_i hh
    exact EarliestAt_any _ _ _ _ _ _ _ w hr0_2 hc0_2 hh.1 hh.2
  · cases h
end Go.Proofs.Ytgchiepnodoohaa.Q
