/- spec's MostScans. -/
import Derived.Test.YticfecncdpdanaaHSBad
import Derived.Test.YticfecncdpdanaaHMost
import Derived.StillTailTactics
import Derived.Deep.RegionHeldLaw
set_option linter.unusedVariables false
set_option linter.unusedSimpArgs false
namespace Go.Proofs.Yticfecncdpdanaa.Q
open Go.RowKit Go.Proofs.YticfecncdpdanaaW.PrintWords Go.Proofs.YticfecncdpdanaaW.PrintLast Go.Proofs.YticfecncdpdanaaW.PrintMore
open Go.Proofs.Yticfecncdpdanaa.Most
attribute [local go_sem] max2_int min2_int max_two min_two
/-- Which scans can be gone to from one scan; the rows of all. -/
def goRow (go : Nat → Nat → Bool) (i k : Nat) : List Bool := (List.range k).map (go i)
def goRows (go : Nat → Nat → Bool) (n i : Nat) : List (List Bool) := (List.range i).map fun i => goRow go i n
theorem goRow_succ (go : Nat → Nat → Bool) (i k : Nat) : goRow go i (k + 1) = goRow go i k ++ [go i k] := by simp [goRow, List.range_succ]
theorem goRow_length (go : Nat → Nat → Bool) (i k : Nat) : (goRow go i k).length = k := by simp [goRow]
theorem goRow_get (go : Nat → Nat → Bool) (i n k : Nat) (h : k < n) : (goRow go i n).getD k false = go i k := by simp [goRow, List.getD_eq_getElem?_getD, h]
theorem goRows_succ (go : Nat → Nat → Bool) (n i : Nat) : goRows go n (i + 1) = goRows go n i ++ [goRow go i n] := by simp [goRows, List.range_succ]
theorem goRows_length (go : Nat → Nat → Bool) (n i : Nat) : (goRows go n i).length = i := by simp [goRows]
theorem goRows_get (go : Nat → Nat → Bool) (n m i : Nat) (h : i < m) : (goRows go n m).getD i [] = goRow go i n := by simp [goRows, List.getD_eq_getElem?_getD, h]
/-- The kind of a row of bools in a row. -/
abbrev kRow : Kd (List Bool) := Kd.slice 4 Kd.bool
theorem goes_at {W : World} {base : Nat} {ok : Nat → Prop} {v : Value} {go : Nat → Nat → Bool} {n : Nat} (h : Kd.R kRow 93 W base ok v (goRows go n n)) (i k : Nat) (hi : i < n) (hk : k < n) :
    ∃ ad c ad2 c2, v = .slice (some ad) n c ∧ W.cell? (ad.add i) = some (.slice (some ad2) n c2) ∧ W.cell? (ad2.add k) = some (.bool (go i k)) := by
  obtain ⟨A, c, e, _, hC⟩ := Kd.R_reads h
  rw [goRows_length] at e hC
  obtain ⟨ad, cs, e2, h1, h2, h3⟩ := Kd.C_get hC [] (i : Int) (by omega) (by omega)
  subst e2
  obtain ⟨A2, c2, h4, h5, h6⟩ := h2
  subst h4
  simp only [Int.toNat_natCast] at h3 h5 h6
  have hg := goRows_get go n n i hi
  rw [hg] at h5 h6 h3
  rw [goRow_length] at h5 h6
  have h7 := h3 0 _ rfl
  obtain ⟨ad2, e3, h8⟩ := Kd.at_bool h6 (k : Int) (by omega) (by omega)
  subst e3
  simp only [rdOf, Int.toNat_natCast, goRow_get go i n k hk] at h8
  rw [goRow_length] at h7
  refine ⟨ad, c, ad2, c2, e, ?_, h8⟩
  simpa [kRow, Kd.slice] using h7
theorem only_keep {b : Nat} {w w' : World} (h : Only b w w') : KeepBut w w' b none := ⟨Nat.le_of_eq h.size.symm, fun i _ hi _ => h.block i hi⟩
/-- What is told last: -1 for nothing. -/
def lastV : Option Nat → Int
  | none => -1
  | some j => (j : Int)
/-- What the row of lengths holds. -/
structure LongAt (n : Nat) (f : Nat → Nat) (xs : List Int) : Prop where
  len : xs.length = n
  get : ∀ j, j < n → xs.getD j 0 = (f j : Int)
theorem LongAt.set {n : Nat} {f g : Nat → Nat} {xs : List Int} (h : LongAt n f xs) (i : Nat) (hi : i < n) (hg : ∀ j, j ≠ i → g j = f j) : LongAt n g (xs.set i (g i : Int)) := by
  refine ⟨by rw [List.length_set]; exact h.len, fun j hj => ?_⟩
  rw [getD_setZ _ _ _ _ (by rw [h.len]; exact hi)]
  split
  · rename_i hji
    rw [hji]
  · rename_i hji
    rw [hg j hji]
    exact h.get j hj
set_option maxHeartbeats 40000000 in
set_option maxRecDepth 100000 in
theorem sMostScans_any (s t : Int) (A : Option Addr) (c : Nat) (l : List S44) (A1 : Option Addr) (c1 : Nat) (ss : List S31) (w : World) (hr : Kd.C k44 w A l.length l) (hc : l.length ≤ c) (hok : okNet s t l = true)
    (hr1 : Kd.C k31 w A1 ss.length ss) (hc1 : ss.length ≤ c1) (hl1 : ss.length ≤ 1048576) (hsc : ∀ x ∈ ss, okScan x = true) :
    Calls Try.prog 23 #[.agg #[.int .i8 s, .int .i16 t, .slice A l.length c], .slice A1 ss.length c1] w fun e w' =>
      ∃ v : Value, e = .returned (.tuple #[v, .int .i64 (mostRes s t l ss).2]) ∧ Kd.R (Kd.int .i64) 2 w' w.heap.size (fun _ => True) v (mostRes s t l ss).1 ∧ Below w.heap.size w w' := by
  have HN := Aside0.mk (NetAt.new (s := s) (t := t) hr hc 28)
  have HR1 := Aside0.mk hr1
  have OK := Aside0.mk hok
  have HSC := Aside0.mk hsc
  clear hr hr1 hok hsc
  go_enter Try.func23, Try.ntmps23
  go_wp2_with fail
  refine (l07Scans_at ((HN.out).alloc (.cells #[] 2)) OK.out A1 c1 ss (Kd.C_alloc (Kd.C_alloc HR1.out _) _) hc1 hl1 HSC.out).mono ?_
  rintro e w1 ⟨rfl, hb⟩
  obtain ⟨V, hV⟩ : ∃ V, V = w.alloc (.cells #[.int .i8 s, .int .i16 t, .slice A l.length c] 28) := ⟨_, rfl⟩
  have hVs : V.heap.size = w.heap.size + 1 := by rw [hV]; simp
  have hVw : Aside0 (Below w.heap.size w V) := ⟨by rw [hV]; exact (Below.refl _ _).alloc (Nat.le_refl _) _⟩
  rw [← hV] at hb HN
  have HB1 : Aside0 (Below V.heap.size V w1) := ⟨((Below.refl _ _).alloc (Nat.le_refl _) _).trans (hb.mono (by simp))⟩
  have hb1 : Aside0 (Below w.heap.size w w1) := ⟨hVw.out.trans (HB1.out.mono hVw.out.size)⟩
  have HO0 : Aside0 (w1.ownsRow V.heap.size 2 1 (.slice (some ⟨w.heap.size + 1, 0, none⟩) 0 0) ([] : List Int).length (nums .i64 [])) := ⟨pw_own_below (own_lit0 V V.heap.size 2 (w.heap.size + 1) hVs.symm (Nat.le_refl _)) hb⟩
  have HR1V := Aside0.mk (Kd.C_below HR1.out hVw.out)
  have HVS := Aside0.mk hVs
  have hpw : w.heap.size + 1 < w1.heap.size := by have := hb.size; simp at this; omega
  clear hb hV hVs
  by_cases h0 : scansCodeB s t l ss = 0
  · obtain ⟨h1, h2, h3⟩ := scansCodeB_zero h0
    obtain ⟨hl, hs1, hs8, ht0, ht1⟩ := laneV_of h1
    have hlen := netB_len h1
    have HIN := Aside0.mk (scansIn_all hs8 h2)
    have HL := Aside0.mk hl
    have ER : Aside0 (mostRes s t l ss = (outL (goB t l ss) ss.length ss.length, 0)) := ⟨by unfold mostRes coded; rw [if_pos h0]⟩
    rw [h0]
    clear h0 h1 h2 hl
    have hvw := hVw.out.size
    obtain ⟨n, hn⟩ : ∃ n, ss.length = n := ⟨_, rfl⟩
    have HNN := Aside0.mk hn
    rw [hn] at HR1V hc1 h3 ER ⊢
    have hmk := fun W => run_make_row' (P := Try.prog) 91 3 (.int .i64 0) 8 Try.underlying91 infoZ rfl .i64 .i64 n (by omega) (by omega) W
    rw [madeZ n] at hmk
    clear hn hl1
    obtain ⟨mc, hmc⟩ : ∃ mc, ((List.replicate n (0 : Int)).map (Value.int .i64)).toArray = mc := ⟨_, rfl⟩
    have HMC := Aside0.mk hmc
    rw [hmc] at hmk
    clear hmc
    have e0 : IntKind.i64.wrap ((n : Int) - 1) = (n : Int) - 1 := IntWalk.i64_in _ (by omega)
    go_wp2
    obtain ⟨q, hq⟩ : ∃ q, w1.heap.size = q := ⟨_, rfl⟩
    obtain ⟨U0, hU0⟩ : ∃ U0, U0 = (w1.alloc (.cells mc 3)).alloc (.cells #[] 93) := ⟨_, rfl⟩
    have HBU : Aside0 (Below q w1 U0) := ⟨by rw [hU0, ← hq]; exact ((Below.refl _ _).alloc (Nat.le_refl _) _).alloc (by simp) _⟩
    have hsU : q + 1 < U0.heap.size := by rw [hU0]; simp [hq]
    have HZ0 : Aside0 (RowZ U0 q 3 (List.replicate n 0)) := ⟨⟨by
      rw [hU0, HMC.out, ← hq]
      exact (Below.heap_alloc _ _ _ (by simp)).trans (heap_alloc_new w1 _)⟩⟩
    obtain ⟨p0, hp0⟩ : ∃ p0, p0 = w.heap.size + 1 := ⟨_, rfl⟩
    have HP0 := Aside0.mk hp0
    rw [← hp0] at HO0 ⊢
    have hpq : p0 < q := by omega
    have HG0 : Aside0 (Kd.R kRow 93 U0 (q + 1) (fun k => p0 < k) (.slice (some ⟨q + 1, 0, none⟩) 0 0) (goRows (goB t l ss) n 0)) := ⟨by
      rw [hU0]
      exact R_empty' kRow 93 (w1.alloc (.cells mc 3)) (q + 1) (q + 1) _ (by simp [hq]) (by simp [hq]) (show p0 < q + 1 by omega)⟩
    have HBQ := Aside0.mk hq
    simp only [hq] at ⊢
    rw [← hU0]
    have hVq : V.heap.size ≤ q := by have := HB1.out.size; omega
    have HNU := Aside0.mk (HN.out.below (HB1.out.trans (HBU.out.mono (by omega))))
    have HR1U := Aside0.mk (Kd.C_below HR1V.out (HB1.out.trans (HBU.out.mono (by omega))))
    clear hU0 hmk HMC hq hp0
    --CUT1
    go_loopg [9, 10] n (fun gg v9 v10 wr => ∃ (i : Nat), i ≤ n ∧ n - i ≤ gg ∧ v10 = .int .i64 (i : Int) ∧ Aside0 (Kd.R kRow 93 wr (q + 1) (fun k => p0 < k) v9 (goRows (goB t l ss) n i)) ∧ Aside0 (Below (q + 1) U0 wr))
    case atStart => exact ⟨0, by omega, by omega, rfl, HG0, ⟨Below.refl _ _⟩⟩
    case round =>
      obtain ⟨i, hin, hgg, rfl, HG, BW⟩ := hrel
      by_cases hlt : i < n
      · have hltz : (i : Int) < (n : Int) := by omega
        have hszw := BW.out.size
        have HBV : Aside0 (Below V.heap.size V wr) := ⟨HB1.out.trans ((HBU.out.mono (by omega)).trans (BW.out.mono (by omega)))⟩
        have HNr := Aside0.mk (HN.out.below HBV.out)
        have HR1r := Aside0.mk (Kd.C_below HR1V.out HBV.out)
        obtain ⟨ad, e, hx0, hx1⟩ := at_T31 HR1r.out (i : Int) (by omega) (by omega)
        obtain ⟨a0, h0, ha, ha0, hh0⟩ := scan_at HIN.out i (by rw [HNN.out]; exact hlt)
        simp only [rd_T31, Int.toNat_natCast] at hx0 hx1
        rw [ha] at hx0 hx1
        have HAT := Aside0.mk ha
        subst e
        clear ha
        simp only at hx0 hx1
        have e1 : IntKind.i64.wrap ((i : Int) + 1) = ((i + 1 : Nat) : Int) := by rw [IntWalk.i64_in _ (by omega)]; omega
        go_wp2_with fail
        refine (l07Behind_is a0 h0 (-1) _ HNr.out HL.out hlen ht0 ht1 ha0 hh0 (by omega) (by omega)).mono ?_
        rintro e w5 ⟨gb, hgb, G, lG, hRG, hG, rfl, hb5⟩
        rw [but_none HL.out] at hG
        have HGG := Aside0.mk hG
        have HRG := Aside0.mk hRG
        have hs5 := hb5.size
        have HG5 := Aside0.mk (Kd.R_below HG.out hb5)
        have BW5 : Aside0 (Below (q + 1) U0 w5) := ⟨BW.out.trans (hb5.mono (by omega))⟩
        have HR15 := Aside0.mk (Kd.C_below HR1r.out hb5)
        have HW0 : Aside0 ((w5.alloc (.cells #[] 4)).ownsRow w5.heap.size 4 1 (.slice (some ⟨w5.heap.size, 0, none⟩) 0 0) (goRow (goB t l ss) i 0).length (encs Value.bool (goRow (goB t l ss) i 0))) := ⟨own_lit_of w5 w5.heap.size 4 [] (Nat.le_refl _) (by simp)⟩
        have HBW0 : Aside0 (Below w5.heap.size w5 (w5.alloc (.cells #[] 4))) := ⟨(Below.refl _ _).alloc (Nat.le_refl _) _⟩
        have hgbl := hRG.lt
        clear hx0 hx1 hRG hG hb5 HG
        go_wp2
        --CUT2
        go_loopg [12, 13] n (fun gg v12 v13 wq => ∃ (k : Nat), k ≤ n ∧ n - k ≤ gg ∧ v13 = .int .i64 (k : Int) ∧ Aside0 (wq.ownsRow w5.heap.size 4 1 v12 (goRow (goB t l ss) i k).length (encs Value.bool (goRow (goB t l ss) i k))) ∧ Aside0 (Below w5.heap.size w5 wq))
        case atStart => exact ⟨0, by omega, by omega, rfl, HW0, HBW0⟩
        case round =>
          obtain ⟨k, hkn, hg2, rfl, HW, HB⟩ := hrel
          have hszq := HB.out.size
          by_cases hkl : k < n
          · have hkz : (k : Int) < (n : Int) := by omega
            obtain ⟨ad', e', hy0, hy1⟩ := at_T31 HR15.out (k : Int) (by omega) (by omega)
            injection e' with e'
            subst e'
            obtain ⟨b0, h1, hb, hb0, hh1⟩ := scan_at HIN.out k (by rw [HNN.out]; exact hkl)
            simp only [rd_T31, Int.toNat_natCast] at hy0 hy1
            rw [hb] at hy0 hy1
            simp only at hy0 hy1
            have hb0z : (b0 : Int) < 8 := by omega
            have hh1z : (h1 : Int) < 301 := by omega
            have hgc := HRG.out.cell (b0 * 301 + h1) (by omega)
            have hga : G.getD (b0 * 301 + h1) false = goB t l ss i k := by
              rw [goB_at HAT.out hb, ← arrB_eq HL.out HGG.out hb0 hh1]
              rfl
            have HRS := Aside0.mk (goRow_succ (goB t l ss) i k)
            have hrl := goRow_length (goB t l ss) i k
            rw [hga] at hgc
            obtain ⟨bv, hbv⟩ : ∃ bv, goB t l ss i k = bv := ⟨_, rfl⟩
            rw [hbv] at hgc HRS
            have e2 : IntKind.i64.wrap ((k : Int) + 1) = ((k + 1 : Nat) : Int) := by rw [IntWalk.i64_in _ (by omega)]; omega
            have HWR : Aside0 (Kd.R Kd.bool 4 wr.drew w5.heap.size (fun _ => True) u12 (goRow (goB t l ss) i k)) := ⟨Kd.R_drew (Kd.R_of_own HW.out (fun _ _ => trivial))⟩
            have hBq := HB.out
            have y0 := pw_cell_below hBq hy0
            have y1 := pw_cell_below hBq hy1
            have yg := pw_cell_below hBq hgc
            have hBd : Below w5.heap.size w5 wr.drew := hBq.drew
            have HY : Aside0 (∀ W, Below w5.heap.size w5 W → W.cell? (ad.add (k * 2)) = some (.int .i8 (b0 : Int)) ∧ W.cell? ⟨(ad.add (k * 2)).block, (ad.add (k * 2)).off + 1, none⟩ = some (.int .i16 (h1 : Int)) ∧ W.cell? ⟨gb, b0 * 301 + h1, none⟩ = some (.bool bv) ∧ Below w5.heap.size w5 W) := ⟨fun W hW => ⟨pw_cell_below hW hy0, pw_cell_below hW hy1, pw_cell_below hW hgc, hW⟩⟩
            clear hb hga hbv HW hy0 hy1 hgc
            go_wp2_with fail
            go_region_held_law (fun w' => w'.cell? (ad.add (k * 2)) = some (.int .i8 (b0 : Int)) ∧ w'.cell? ⟨(ad.add (k * 2)).block, (ad.add (k * 2)).off + 1, none⟩ = some (.int .i16 (h1 : Int)) ∧ w'.cell? ⟨gb, b0 * 301 + h1, none⟩ = some (.bool bv) ∧ Below w5.heap.size w5 w')
              ((refine HY.out _ ?_; (try go_split_ands); ((repeat (first | (with_reducible assumption) | (with_reducible apply Below.drew) | (with_reducible apply below_alloc2))); done)))
              ((refine Kd.R_append_step Kd.bool (w0 := w5) (W := wr.drew) w5.heap.size rfl (.tmp 49) (.tmp 65) 93 4 (.bool false) 1 rfl Try.underlying93 infoBo rfl (by decide) (by omega) _ (goRow (goB t l ss) i k) bv [.bool bv] (fun _ => True) (fun _ => False) rfl rfl rfl (fun _ h => h.elim) (fun _ _ => trivial) HWR.out hBd hszq (by omega) ?_; intro v1 w8 hR1 hB1 hg1 hat1))
            have hown1 := Kd.own_of_R hR1
            rw [← HRS.out] at hown1
            have HW1 := Aside0.mk hown1
            have HB1' := Aside0.mk hB1
            clear hown1 hB1 hg1 hat1 hrl
            go_wp2
            go_roundg (n - (k + 1))
            case measure => omega
            case rel => exact ⟨k + 1, by omega, by omega, by go_num, HW1, HB1'⟩
          · have hkz : ¬ (k : Int) < (n : Int) := by omega
            have hkk : k = n := by omega
            subst hkk
            have HGq := Aside0.mk (Kd.R_below HG5.out HB.out)
            have HRW : Aside0 (Kd.R Kd.bool 4 wr w5.heap.size (fun _ => True) u12 (goRow (goB t l ss) i k)) := ⟨Kd.R_of_own HW.out (fun _ _ => trivial)⟩
            obtain ⟨A12, c12, e12⟩ := Kd.R_slice HRW.out
            subst e12
            have HRS := Aside0.mk (goRows_succ (goB t l ss) k i)
            have hrl := goRows_length (goB t l ss) k i
            have BWq : Aside0 (Below (q + 1) U0 wr) := ⟨BW5.out.trans (HB.out.mono (by omega))⟩
            have HM : Aside0 (kRow.M wr (q + 1) (fun k => w5.heap.size ≤ k) (goRow (goB t l ss) i k) [.slice A12 (goRow (goB t l ss) i k).length c12]) := ⟨Kd.M_row (Kd.R_mono (Kd.R_lower (Kd.R_bound HRW.out) (by omega)) (fun j hj => hj.2.1))⟩
            have HOK : Aside0 (∀ j, w5.heap.size ≤ j → p0 < j ∧ some j ≠ u9.ownBlock) := ⟨fun j hj => ⟨by omega, fun e => by have := Kd.R_lt HG5.out j e.symm; omega⟩⟩
            --CUT3
            go_wp2_with (at_builtin; go_loud (refine Kd.R_append kRow (w0 := U0) (q + 1) rfl (.tmp 67) (.tmp 69) 92 93 (.slice none 0 0) 24 rfl Try.underlying92 infoSb rfl (by decide) (by omega) _ (goRows (goB t l ss) k i) (goRow (goB t l ss) i k) [.slice A12 (goRow (goB t l ss) i k).length c12] (fun k => p0 < k) (fun k => w5.heap.size ≤ k) rfl (by go_simp) HM.out HOK.out (fun j hj => by omega) HGq.out BWq.out (by omega) (by omega) ?_); intro v1 w8 hown1 hB1 hg1 hat1)
            rw [← HRS.out] at hown1
            have HG1 := Aside0.mk hown1
            have HB1' := Aside0.mk hB1
            clear hown1 hB1 hg1 hat1 hrl
            go_wp2
            go_roundg (k - (i + 1))
            case measure => omega
            case rel => exact ⟨i + 1, by omega, by omega, by go_num, HG1, HB1'⟩
      · have hltz : ¬ (i : Int) < (n : Int) := by omega
        obtain rfl : n = i := by omega
        obtain ⟨W1, hW1⟩ : ∃ W1 : World, W1 = wr := ⟨_, rfl⟩
        subst hW1
        obtain ⟨A9, c9, e9⟩ := Kd.R_slice HG.out
        subst e9
        have HGL := goRows_length (goB t l ss) n n
        have HZ1 := Aside0.mk (HZ0.out.below BW.out (by omega))
        have HZL : Aside0 (LongAt n (longL (goB t l ss) n 0) (List.replicate n (0 : Int))) := ⟨⟨by simp, fun j hj => by simp [longL, List.getD_eq_getElem?_getD, List.getElem?_replicate, hj]⟩⟩
        have HKG : Aside0 (∀ W, KeepBut W1 W q none → Kd.R kRow 93 W (q + 1) (fun k => p0 < k) (.slice A9 (goRows (goB t l ss) n n).length c9) (goRows (goB t l ss) n n)) := ⟨fun W hW => Kd.R_mono (Kd.R_keep (Kd.R_bound HG.out) hW (fun k hk => by have := hk.2.1; omega)) (fun k hk => hk.1)⟩
        have hszw := BW.out.size
        have HB1W : Aside0 (Below V.heap.size V W1) := ⟨HB1.out.trans ((HBU.out.mono (by omega)).trans (BW.out.mono (by omega)))⟩
        rw [HGL] at HKG ⊢
        have HO1 : Aside0 (W1.ownsRow V.heap.size 2 1 (.slice (some ⟨p0, 0, none⟩) 0 0) ([] : List Int).length (nums .i64 [])) := ⟨pw_own_below HO0.out (by rw [HBQ.out]; exact HBU.out.trans (BW.out.mono (by omega)))⟩
        clear HGL HG BW
        go_wp2
        --CUT4
        go_loopg [14] n (fun gg v14 wr => ∃ (d : Nat) (xs : List Int), d ≤ n ∧ n - d ≤ gg ∧ v14 = .int .i64 ((n : Int) - 1 - d) ∧ Aside0 (RowZ wr q 3 xs) ∧ Aside0 (LongAt n (longL (goB t l ss) n d) xs) ∧ Aside0 (Only q W1 wr))
        case atStart => exact ⟨0, _, by omega, by omega, by simp, HZ1, HZL, ⟨Only.refl _ _⟩⟩
        case round =>
          obtain ⟨d, xs, hd, hgg, rfl, HZ, HLA, HON⟩ := hrel
          by_cases hlt : d < n
          · obtain ⟨i, hi⟩ : ∃ i : Nat, n - 1 - d = i := ⟨_, rfl⟩
            have hiz : (n : Int) - 1 - d = (i : Int) := by omega
            have hin : i < n := by omega
            have HID : Aside0 (i = n - (d + 1)) := ⟨by omega⟩
            have HLO : Aside0 (i + 1 = n - d) := ⟨by omega⟩
            rw [hiz]
            have hge : (0 : Int) ≤ (i : Int) := by omega
            have hinz : (i : Int) < (n : Int) := by omega
            have hs1 : i + 1 + d ≤ n := by omega
            have hs2 : n ≤ i + 1 + d := by omega
            have hxi := HZ.out.cell i (by rw [HLA.out.len]; exact hin)
            have hfi := HZ.out.frozen i
            have e1 : IntKind.i64.wrap ((i : Int) + 1) = ((i + 1 : Nat) : Int) := by rw [IntWalk.i64_in _ (by omega)]; omega
            obtain ⟨f0, hf0⟩ : ∃ f0 : Nat → Nat → Nat, f0 = fun m j => if j = i then maxSel (longL (goB t l ss) n d) (goB t l ss i) (n - d) m else longL (goB t l ss) n d j := ⟨_, rfl⟩
            have HF0 := Aside0.mk hf0
            have hfi1 : ∀ m, f0 m i = maxSel (longL (goB t l ss) n d) (goB t l ss i) (n - d) m := fun m => by rw [hf0]; simp
            have hfo : ∀ m j, j ≠ i → f0 m j = longL (goB t l ss) n d j := fun m j hj => by rw [hf0]; simp [hj]
            have HFI := Aside0.mk hfi1
            have HFO := Aside0.mk hfo
            have HLA1 : Aside0 (LongAt n (f0 0) (xs.set i 1)) := ⟨by
              have := HLA.out.set (g := f0 0) i hin (fun j hj => hfo 0 j hj)
              rw [hfi1] at this
              exact this⟩
            clear hf0 hfi1 hfo hiz hi
            go_wp2
            have HZ2 : Aside0 (RowZ (wr.setCell ⟨q, i, none⟩ (.int .i64 1)) q 3 (xs.set i 1)) := ⟨HZ.out.set _ _⟩
            have HON2 : Aside0 (Only q W1 (wr.setCell ⟨q, i, none⟩ (.int .i64 1))) := ⟨HON.out.setCell _ _⟩
            generalize wr.setCell ⟨q, i, none⟩ (.int .i64 1) = W3 at *
            clear hxi hfi HZ HON
            obtain ⟨wo, hwo⟩ : ∃ wo : World, wo = W3 := ⟨_, rfl⟩
            subst hwo
            go_loopg [15] n (fun gg v15 wr => ∃ (m : Nat) (xs : List Int), m ≤ d ∧ d - m ≤ gg ∧ v15 = .int .i64 ((i + 1 + m : Nat) : Int) ∧ Aside0 (RowZ wr q 3 xs) ∧ Aside0 (LongAt n (f0 m) xs) ∧ Aside0 (Only q W1 wr))
            case atStart => exact ⟨0, _, by omega, by omega, by simp, HZ2, HLA1, HON2⟩
            case round =>
              obtain ⟨m, ys, hm, hg2, rfl, HZ, HLB, HON⟩ := hrel
              by_cases hmd : m < d
              · obtain ⟨k, hk⟩ : ∃ k, i + 1 + m = k := ⟨_, rfl⟩
                have hkn : k < n := by omega
                have hki : k ≠ i := by omega
                have hkz : (k : Int) < (n : Int) := by omega
                have HK : Aside0 (i + 1 + (m + 1) = k + 1) := ⟨by omega⟩
                have HSU : Aside0 (f0 (m + 1) i = if goB t l ss i k = true then max (f0 m i) (f0 m k + 1) else f0 m i) := ⟨by rw [HFI.out, HFI.out, HFO.out m k hki, maxSel, ← HLO.out, hk]⟩
                rw [hk]
                clear hk
                obtain ⟨ad, c8, ad2, c2, e9, g1, g2⟩ := goes_at (HKG.out wr (only_keep HON.out)) i k hin hkn
                injection e9 with e9 _ e11
                subst e9 e11
                have hxi := HZ.out.cell i (by rw [HLB.out.len]; exact hin)
                have hxk := HZ.out.cell k (by rw [HLB.out.len]; exact hkn)
                have hfi := HZ.out.frozen i
                rw [HLB.out.get i hin] at hxi
                rw [HLB.out.get k hkn] at hxk
                have hle1 := long_le (goB t l ss) n d (by omega) k
                have hle2 := maxSel_le (longL (goB t l ss) n d) (goB t l ss i) (n - d) n (long_le (goB t l ss) n d (by omega)) m
                rw [← HFI.out m] at hle2
                rw [← HFO.out m k hki] at hle1
                have e2 : IntKind.i64.wrap ((k : Int) + 1) = ((k + 1 : Nat) : Int) := by rw [IntWalk.i64_in _ (by omega)]; omega
                have e3 : IntKind.i64.wrap ((f0 m k : Int) + 1) = (f0 m k : Int) + 1 := by rw [IntWalk.i64_in _ (by omega)]
                cases hq : goB t l ss i k with
                | false =>
                  rw [hq] at g2
                  have HLN : Aside0 (LongAt n (f0 (m + 1)) ys) := ⟨⟨HLB.out.len, fun j hj => by
                    rw [HLB.out.get j hj]
                    by_cases hji : j = i
                    · rw [hji, HSU.out, hq, if_neg (by simp)]
                    · rw [HFO.out _ _ hji, HFO.out _ _ hji]⟩⟩
                  clear hq HSU
                  go_wp2
                  go_roundg (d - (m + 1))
                  case measure => omega
                  case rel => exact ⟨m + 1, ys, by omega, by omega, by rw [HK.out]; go_num, HZ, HLN, HON⟩
                | true =>
                  rw [hq] at g2
                  obtain ⟨x, hx⟩ : ∃ x, f0 m i = x := ⟨_, rfl⟩
                  obtain ⟨y, hy⟩ : ∃ y, f0 m k = y := ⟨_, rfl⟩
                  have HSN : Aside0 (f0 (m + 1) i = max x (y + 1)) := ⟨by rw [HSU.out, hq, if_pos rfl, hx, hy]⟩
                  rw [hx] at hxi hle2
                  rw [hy] at hxk hle1 e3
                  clear hx hy hq HSU
                  by_cases hc : x < y + 1
                  · have hcz : (x : Int) < (y : Int) + 1 := by omega
                    have HLN : Aside0 (LongAt n (f0 (m + 1)) (ys.set i ((y : Int) + 1))) := ⟨by
                      have := HLB.out.set (g := f0 (m + 1)) i hin (fun j hj => by rw [HFO.out _ _ hj, HFO.out _ _ hj])
                      have e : ((f0 (m + 1) i : Nat) : Int) = (y : Int) + 1 := by rw [HSN.out]; omega
                      rw [e] at this
                      exact this⟩
                    have HZN : Aside0 (RowZ (wr.setCell ⟨q, i, none⟩ (.int .i64 ((y : Int) + 1))).drew q 3 (ys.set i ((y : Int) + 1))) := ⟨(HZ.out.set _ _).drew⟩
                    have HONN : Aside0 (Only q W1 (wr.setCell ⟨q, i, none⟩ (.int .i64 ((y : Int) + 1))).drew) := ⟨(HON.out.setCell _ _).drew⟩
                    clear hc
                    go_wp2
                    go_still_tail 13, (by kernel_rfl)
                    change wpList _ _ _ _ _ wr.drew
                    go_wp2
                    go_roundg (d - (m + 1))
                    case measure => omega
                    case rel => exact ⟨m + 1, _, by omega, by omega, by rw [HK.out]; go_num, HZN, HLN, HONN⟩
                  · have hcz : ¬ (x : Int) < (y : Int) + 1 := by omega
                    have HLN : Aside0 (LongAt n (f0 (m + 1)) (ys.set i ((x : Int)))) := ⟨by
                      have := HLB.out.set (g := f0 (m + 1)) i hin (fun j hj => by rw [HFO.out _ _ hj, HFO.out _ _ hj])
                      have e : ((f0 (m + 1) i : Nat) : Int) = (x : Int) := by rw [HSN.out]; omega
                      rw [e] at this
                      exact this⟩
                    have HZN : Aside0 (RowZ (wr.setCell ⟨q, i, none⟩ (.int .i64 ((x : Int)))).drew q 3 (ys.set i ((x : Int)))) := ⟨(HZ.out.set _ _).drew⟩
                    have HONN : Aside0 (Only q W1 (wr.setCell ⟨q, i, none⟩ (.int .i64 ((x : Int)))).drew) := ⟨(HON.out.setCell _ _).drew⟩
                    clear hc
                    go_wp2
                    go_still_tail 13, (by kernel_rfl)
                    change wpList _ _ _ _ _ wr.drew
                    go_wp2
                    go_roundg (d - (m + 1))
                    case measure => omega
                    case rel => exact ⟨m + 1, _, by omega, by omega, by rw [HK.out]; go_num, HZN, HLN, HONN⟩
              · have hkz : ¬ ((i + 1 + m : Nat) : Int) < (n : Int) := by omega
                have HLN : Aside0 (LongAt n (longL (goB t l ss) n (d + 1)) ys) := ⟨⟨HLB.out.len, fun j hj => by
                  have hmd2 : m = d := by omega
                  rw [HLB.out.get j hj, longL, ← HID.out]
                  by_cases hji : j = i
                  · rw [if_pos hji, hji, HFI.out, hmd2]
                  · rw [if_neg hji, HFO.out _ _ hji]⟩⟩
                go_wp2
                go_roundg (n - (d + 1))
                case measure => omega
                case rel => exact ⟨d + 1, ys, by omega, by omega, by congr 1; omega, HZ, HLN, HON⟩
          · have hltz : ¬ (0 : Int) ≤ (n : Int) - 1 - d := by omega
            obtain rfl : n = d := by omega
            --CUT5
            obtain ⟨W2, hW2⟩ : ∃ W2 : World, W2 = wr := ⟨_, rfl⟩
            subst hW2
            obtain ⟨L, hL⟩ : ∃ L, L = longL (goB t l ss) n n := ⟨_, rfl⟩
            have HLL := Aside0.mk hL
            rw [← hL] at HLA
            have HLB : Aside0 (∀ j, 1 ≤ n → L j ≤ n) := ⟨fun j _ => by rw [hL]; exact long_le (goB t l ss) n n (Nat.le_refl _) j⟩
            have HNB : Aside0 (∀ k, needL L k ≤ n) := ⟨fun k => need_le L n (fun j => by rw [hL]; exact long_le (goB t l ss) n n (Nat.le_refl _) j) k⟩
            clear hL
            have HO2 : Aside0 (W2.ownsRow V.heap.size 2 1 (.slice (some ⟨p0, 0, none⟩) 0 0) ([] : List Int).length (nums .i64 [])) := ⟨own_only HO1.out HON.out (fun j hj => by
              have : p0 = j := by simpa [Value.ownBlock] using hj
              omega)⟩
            have HBL0 : Aside0 (∀ j, (Value.slice (some ⟨p0, 0, none⟩) 0 0).ownBlock = some j → j = p0 ∨ W2.heap.size ≤ j) := ⟨fun j hj => by
              have : p0 = j := by simpa [Value.ownBlock] using hj
              exact .inl this.symm⟩
            have HB2 : Aside0 (Below V.heap.size V W2) := ⟨HB1W.out.trans (HON.out.below hVq)⟩
            have HRG2 := Aside0.mk (HKG.out W2 (only_keep HON.out))
            have hq2 := HZ.out.lt
            have h2le : V.heap.size ≤ W2.heap.size := HB2.out.size
            clear HON HKG
            go_wp2
            go_loopg [16, 17] n (fun gg v16 v17 wr => ∃ (k : Nat), k ≤ n ∧ n - k ≤ gg ∧ v16 = .int .i64 ((needL L k : Nat) : Int) ∧ v17 = .int .i64 (k : Int) ∧ wr = W2)
            case atStart => exact ⟨0, by omega, by omega, rfl, rfl, rfl⟩
            case round =>
              obtain ⟨k, hkn, hgg, rfl, rfl, rfl⟩ := hrel
              by_cases hlt : k < n
              · have hkz : (k : Int) < (n : Int) := by omega
                have hxk := HZ.out.cell k (by rw [HLA.out.len]; exact hlt)
                rw [HLA.out.get k hlt] at hxk
                have HNS : Aside0 (needL L (k + 1) = max (needL L k) (L k)) := ⟨rfl⟩
                obtain ⟨x, hx⟩ : ∃ x, needL L k = x := ⟨_, rfl⟩
                obtain ⟨y, hy⟩ : ∃ y, L k = y := ⟨_, rfl⟩
                rw [hx, hy] at HNS
                rw [hy] at hxk
                rw [hx]
                clear hx hy
                have e2 : IntKind.i64.wrap ((k : Int) + 1) = ((k + 1 : Nat) : Int) := by rw [IntWalk.i64_in _ (by omega)]; omega
                by_cases hc : x < y
                · have hcz : (x : Int) < (y : Int) := by omega
                  have HN2 : Aside0 (needL L (k + 1) = y) := ⟨by rw [HNS.out]; omega⟩
                  clear hc
                  go_wp2
                  go_roundg (n - (k + 1))
                  case measure => omega
                  case rel => exact ⟨k + 1, by omega, by omega, by rw [HN2.out], by go_num, rfl⟩
                · have hcz : ¬ (x : Int) < (y : Int) := by omega
                  have HN2 : Aside0 (needL L (k + 1) = x) := ⟨by rw [HNS.out]; omega⟩
                  clear hc
                  go_wp2
                  go_roundg (n - (k + 1))
                  case measure => omega
                  case rel => exact ⟨k + 1, by omega, by omega, by rw [HN2.out], by go_num, rfl⟩
              · have hkz : ¬ (k : Int) < (n : Int) := by omega
                obtain rfl : n = k := by omega
                obtain ⟨W2, hW2⟩ : ∃ W2 : World, W2 = wr := ⟨_, rfl⟩
                subst hW2
                go_wp2
                go_loopg [6, 16, 18, 19] n (fun gg v6 v16 v18 v19 wr => ∃ (k : Nat), k ≤ n ∧ n - k ≤ gg ∧ v16 = .int .i64 (((pickL (goB t l ss) L n k).2.2 : Nat) : Int) ∧ v18 = .int .i64 (lastV (pickL (goB t l ss) L n k).2.1) ∧ v19 = .int .i64 (k : Int) ∧
                  Aside0 (wr.ownsRow V.heap.size 2 1 v6 (pickL (goB t l ss) L n k).1.length (nums .i64 (pickL (goB t l ss) L n k).1)) ∧ Aside0 (Below V.heap.size V wr) ∧ Aside0 (KeepBut W2 wr p0 none) ∧ Aside0 (∀ j, v6.ownBlock = some j → j = p0 ∨ W2.heap.size ≤ j))
                case atStart => exact ⟨0, by omega, by omega, rfl, rfl, rfl, HO2, HB2, ⟨KeepBut.refl _ _ _⟩, HBL0⟩
                case round =>
                  obtain ⟨k, hkn, hgg, rfl, rfl, rfl, HO, HB, HKB, HBL⟩ := hrel
                  have HPS : Aside0 (pickL (goB t l ss) L n (k + 1) = pick1 (goB t l ss) L (pickL (goB t l ss) L n k) k) := ⟨rfl⟩
                  have hpn := pick_need (goB t l ss) L n k
                  have hpl := pick_length (goB t l ss) L n k
                  have HPL := Aside0.mk (pick_last (goB t l ss) L n k)
                  have HPT := Aside0.mk (pick_stop (goB t l ss) L n k)
                  have hnb := HNB.out n
                  obtain ⟨out, la, nd, hs⟩ : ∃ out la nd, pickL (goB t l ss) L n k = (out, la, nd) := ⟨_, _, _, rfl⟩
                  have HS := Aside0.mk hs
                  rw [hs] at HO HPS hpn hpl HPL HPT ⊢
                  clear hs
                  simp only at HO hpn hpl HPL HPT ⊢
                  have fin : ∀ w' : World, w' = wr → (k = n ∨ nd = 0) → ∃ v : Value, Ending.returned (.tuple #[u6, .int .i64 0]) = .returned (.tuple #[v, .int .i64 (mostRes s t l ss).2]) ∧ Kd.R (Kd.int .i64) 2 w' w.heap.size (fun _ => True) v (mostRes s t l ss).1 ∧ Below w.heap.size w w' := fun w' hw' hh => by
                    subst hw'
                    have hout : out = outL (goB t l ss) n n := by
                      rw [← most_same, ← HLL.out]
                      rcases hh with rfl | h9
                      · rw [HS.out]
                      · have := HPT.out h9 (n - k)
                        rw [show k + (n - k) = n by omega] at this
                        rw [this]
                    rw [ER.out, ← hout]
                    exact ⟨_, rfl, Kd.R_lower (Kd.R_of_own HO.out (fun _ _ => trivial)) hvw, hVw.out.trans (HB.out.mono hVw.out.size)⟩
                  have FIN := Aside0.mk fin
                  clear fin
                  by_cases hlt : k < n
                  · have hkz : (k : Int) < (n : Int) := by omega
                    by_cases hnd : 0 < nd
                    · have hnz : (0 : Int) < (nd : Int) := by omega
                      have hndd : decide ((0 : Int) < (nd : Int)) = true := decide_eq_true hnz
                      have hxk := (HZ.out.keep HKB.out (by omega)).cell k (by rw [HLA.out.len]; exact hlt)
                      rw [HLA.out.get k hlt] at hxk
                      have e2 : IntKind.i64.wrap ((k : Int) + 1) = ((k + 1 : Nat) : Int) := by rw [IntWalk.i64_in _ (by omega)]; omega
                      have e3 : IntKind.i64.wrap ((nd : Int) - 1) = (nd : Int) - 1 := IntWalk.i64_in _ (by omega)
                      have hszv : V.heap.size ≤ wr.heap.size := HB.out.size
                      have HGR := Aside0.mk (Kd.R_keep HRG2.out HKB.out (fun j hj => by omega))
                      clear FIN HPT
                      by_cases hlk : L k = nd
                      · have hbe : (((L k : Nat) : Int) == (nd : Int)) = true := by simp [hlk]
                        rw [hlk] at hxk hbe
                        cases la with
                        | none =>
                          have HPK : Aside0 (pickL (goB t l ss) L n (k + 1) = (out ++ [(k : Int)], some k, nd - 1)) := ⟨by rw [HPS.out]; exact if_pos ⟨hnd, hlk, rfl⟩⟩
                          clear hlk HPS
                          simp only [lastV]
                          --CUT6
                          go_wp2_with (at_builtin; refine print_append_num (w0 := V) V.heap.size rfl (.tmp 150) (.tmp 152) 34 2 .i64 8 rfl Try.underlying34 infoI64 (by omega) _ out ((k : Int)) rfl (by go_simp) HO.out HB.out hszv (by omega) ?_; intro v1 w6 hown1 hB1 hg1 hat1)
                          have HKN : Aside0 (KeepBut W2 w6 p0 none) := ⟨KeepBut.append HKB.out hg1 HBL.out⟩
                          have HBLN : Aside0 (∀ j, v1.ownBlock = some j → j = p0 ∨ W2.heap.size ≤ j) := ⟨fun j hj => by
                            rcases hat1 with h1 | ⟨b1, h1, h2⟩
                            · exact HBL.out j (h1.symm.trans hj)
                            · rw [h1] at hj
                              injection hj with hj
                              have := HKB.out.1
                              omega⟩
                          have HO6 : Aside0 (w6.ownsRow V.heap.size 2 1 v1 (pickL (goB t l ss) L n (k + 1)).1.length (nums .i64 (pickL (goB t l ss) L n (k + 1)).1)) := ⟨by rw [HPK.out]; exact hown1⟩
                          have HB6 := Aside0.mk hB1
                          clear hown1 hB1 hg1 hat1
                          go_wp2
                          go_roundg (n - (k + 1))
                          case measure => omega
                          case rel => exact ⟨k + 1, by omega, by omega, by rw [HPK.out]; show _ = Value.int .i64 ((nd - 1 : Nat) : Int); congr 1; omega, by rw [HPK.out]; rfl, by go_num, HO6, HB6, HKN, HBLN⟩
                        | some j =>
                          have hjk := HPL.out j rfl
                          obtain ⟨ad, c8, ad2, c2, e9, g1, g2⟩ := goes_at HGR.out j k (by omega) hlt
                          injection e9 with e9 _ e11
                          subst e9 e11
                          have hj0 : ¬ ((j : Nat) : Int) < 0 := by omega
                          have hjd : decide (((j : Nat) : Int) < 0) = false := decide_eq_false hj0
                          have hjn : (j : Int) < (n : Int) := by omega
                          cases hq : goB t l ss j k with
                          | true =>
                            rw [hq] at g2
                            have HPK : Aside0 (pickL (goB t l ss) L n (k + 1) = (out ++ [(k : Int)], some k, nd - 1)) := ⟨by rw [HPS.out]; exact if_pos ⟨hnd, hlk, hq⟩⟩
                            clear hlk HPS hq
                            simp only [lastV]
                            go_wp2_with (at_builtin; refine print_append_num (w0 := V) V.heap.size rfl (.tmp 150) (.tmp 152) 34 2 .i64 8 rfl Try.underlying34 infoI64 (by omega) _ out ((k : Int)) rfl (by go_simp) HO.out HB.out hszv (by omega) ?_; intro v1 w6 hown1 hB1 hg1 hat1)
                            have HKN : Aside0 (KeepBut W2 w6 p0 none) := ⟨KeepBut.append HKB.out hg1 HBL.out⟩
                            have HBLN : Aside0 (∀ j, v1.ownBlock = some j → j = p0 ∨ W2.heap.size ≤ j) := ⟨fun j hj => by
                              rcases hat1 with h1 | ⟨b1, h1, h2⟩
                              · exact HBL.out j (h1.symm.trans hj)
                              · rw [h1] at hj
                                injection hj with hj
                                have := HKB.out.1
                                omega⟩
                            have HO6 : Aside0 (w6.ownsRow V.heap.size 2 1 v1 (pickL (goB t l ss) L n (k + 1)).1.length (nums .i64 (pickL (goB t l ss) L n (k + 1)).1)) := ⟨by rw [HPK.out]; exact hown1⟩
                            have HB6 := Aside0.mk hB1
                            clear hown1 hB1 hg1 hat1
                            go_wp2
                            go_roundg (n - (k + 1))
                            case measure => omega
                            case rel => exact ⟨k + 1, by omega, by omega, by rw [HPK.out]; show _ = Value.int .i64 ((nd - 1 : Nat) : Int); congr 1; omega, by rw [HPK.out]; rfl, by go_num, HO6, HB6, HKN, HBLN⟩
                          | false =>
                            rw [hq] at g2
                            have HPK : Aside0 (pickL (goB t l ss) L n (k + 1) = (out, some j, nd)) := ⟨by rw [HPS.out]; unfold pick1; simp only; rw [if_neg (fun h => by rw [hq] at h; exact absurd h.2.2 (by simp))]⟩
                            have HON9 : Aside0 (wr.ownsRow V.heap.size 2 1 u6 (pickL (goB t l ss) L n (k + 1)).1.length (nums .i64 (pickL (goB t l ss) L n (k + 1)).1)) := ⟨by rw [HPK.out]; exact HO.out⟩
                            clear hlk HPS hq
                            simp only [lastV]
                            go_wp2
                            go_roundg (n - (k + 1))
                            case measure => omega
                            case rel => exact ⟨k + 1, by omega, by omega, by rw [HPK.out], by rw [HPK.out]; first | rfl | exact congrArg _ HLV.out.symm, by go_num, HON9, HB, HKB, HBL⟩
                      · have hbe : (((L k : Nat) : Int) == (nd : Int)) = false := by rw [beq_eq_false_iff_ne]; omega
                        have HPK : Aside0 (pickL (goB t l ss) L n (k + 1) = (out, la, nd)) := ⟨by rw [HPS.out]; unfold pick1; simp only; rw [if_neg (fun h => hlk h.2.1)]⟩
                        have HON9 : Aside0 (wr.ownsRow V.heap.size 2 1 u6 (pickL (goB t l ss) L n (k + 1)).1.length (nums .i64 (pickL (goB t l ss) L n (k + 1)).1)) := ⟨by rw [HPK.out]; exact HO.out⟩
                        obtain ⟨lv, hlv⟩ : ∃ lv, lastV la = lv := ⟨_, rfl⟩
                        have HLV := Aside0.mk hlv
                        rw [hlv]
                        clear hlk HPS hlv
                        go_wp2
                        go_roundg (n - (k + 1))
                        case measure => omega
                        case rel => exact ⟨k + 1, by omega, by omega, by rw [HPK.out], by rw [HPK.out]; first | rfl | exact congrArg _ HLV.out.symm, by go_num, HON9, HB, HKB, HBL⟩
                    · have hnd0 : nd = 0 := by omega
                      have FR := Aside0.mk (FIN.out wr rfl (.inr hnd0))
                      subst hnd0
                      generalize lastV la = lv at *
                      clear FIN HPS HPT HPL
                      go_wp2
                      go_ret2
                      exact FR.out
                  · have hkz : ¬ (k : Int) < (n : Int) := by omega
                    have FR := Aside0.mk (FIN.out wr rfl (.inl (by omega)))
                    generalize lastV la = lv at *
                    clear FIN HPS HPT HPL
                    go_wp2
                    go_ret2
                    exact FR.out
  · have hne : (scansCodeB s t l ss != 0) = true := by simp [h0]
    have ER : Aside0 (mostRes s t l ss = ([], scansCodeB s t l ss)) := ⟨by unfold mostRes coded; rw [if_neg h0]⟩
    clear h0
    generalize hcd : scansCodeB s t l ss = cd at *
    go_wp2
    go_ret2
    rw [ER.out]
    exact ⟨_, rfl, Kd.R_lower (Kd.R_of_own HO0.out (fun _ _ => trivial)) hVw.out.size, hb1.out⟩
def spec_MostScans.f (a0_0 : Int) (a0_1 : Int) (l0_2 : List (S44)) (l1 : List (S31)) : Option (List Int × Int) :=
  if okNet a0_0 a0_1 l0_2 = true ∧ l1.length ≤ 1048576 ∧ l1.all okScan = true then some (mostRes a0_0 a0_1 l0_2 l1) else none
theorem spec_MostScans.calls (a0_0 : Int) (a0_1 : Int) (A0_2 : Option Addr) (c0_2 : Nat) (l0_2 : List (S44)) (A1 : Option Addr) (c1 : Nat) (l1 : List (S31)) (r1 : List Int) (r2 : Int) (w : World) (hr0_2 : Kd.C k44 w A0_2 l0_2.length l0_2) (hc0_2 : l0_2.length ≤ c0_2) (hr1 : Kd.C k31 w A1 l1.length l1) (hc1 : l1.length ≤ c1) (h : spec_MostScans.f a0_0 a0_1 l0_2 l1 = some (r1, r2)) :
    Calls Try.prog 23 #[.agg #[.int .i8 a0_0, .int .i16 a0_1, .slice A0_2 l0_2.length c0_2], .slice A1 l1.length c1] w fun e w' => ∃ v0_ : Value, e = .returned (.tuple #[v0_, .int .i64 r2]) ∧ Kd.R (Kd.int .i64) 2 w' w.heap.size (fun _ => True) v0_ r1 ∧ Below w.heap.size w w' := by
  unfold spec_MostScans.f at h
  split at h
  · injection h with h
    have h1 : (mostRes a0_0 a0_1 l0_2 l1).1 = r1 := by rw [h]
    have h2 : (mostRes a0_0 a0_1 l0_2 l1).2 = r2 := by rw [h]
    rw [← h1, ← h2]
    rename_i hh
    exact sMostScans_any _ _ _ _ _ _ _ _ w hr0_2 hc0_2 hh.1 hr1 hc1 hh.2.1 (List.all_eq_true.1 hh.2.2)
  · cases h
end Go.Proofs.Yticfecncdpdanaa.Q
