/- impl's (purse).fewest: the walk. -/
import Derived.Test.YtlcnjpibfjhibaaHEndless
import Derived.Test.YtlcnjpibfjhibaaCntPure
set_option linter.unusedVariables false
set_option linter.unusedSimpArgs false
namespace Go.Proofs.Ytlcnjpibfjhibaa.Q
open Go.RowKit Go.Proofs.YtlcnjpibfjhibaaW.PrintWords Go.Proofs.YtlcnjpibfjhibaaW.PrintLast Go.Proofs.YtlcnjpibfjhibaaW.PrintMore
open Go.Proofs.Ytlcnjpibfjhibaa.Loops
/-- What fewest says: counts, how many, and whether there are any. -/
def fewOut (vs hs : List Int) (m a : Nat) : List Int × Int × Bool :=
  if ((tabD vs hs m vs.length).getD a z80).f0 = 0 then ([], 0, false)
  else (cntD (tabD vs hs m) vs vs.length (a : Int) ((tabD vs hs m vs.length).getD a z80).f1, ((tabD vs hs m vs.length).getD a z80).f1, true)
set_option maxHeartbeats 4000000 in
set_option maxRecDepth 100000 in
theorem fewest_any (Av Ah : Option Addr) (cv ch : Nat) (vs hs : List Int) (n a : Nat) (w : World) (hrv : Kd.C (Kd.int .i64) w Av n vs) (hcv : n ≤ cv) (hrh : Kd.C (Kd.int .i64) w Ah n hs) (hch : n ≤ ch) (hn : n ≤ 5) (ha : a < 1999)
    (hv : ∀ v ∈ vs, 1 ≤ v ∧ v ≤ 1000000) (hh : ∀ h ∈ hs, 0 ≤ h ∧ h ≤ 1099511627776) (r1 : List Int) (r2 : Int) (r3 : Bool) (hres : fewOut vs hs (a + 1) a = (r1, r2, r3)) :
    Calls Try.prog 51 #[.agg #[.slice Av n cv, .slice Ah n ch], .int .i64 (a : Int)] w fun e w' => ∃ v0 : Value, e = .returned (.tuple #[v0, .int .i64 r2, .bool r3]) ∧ Kd.R (Kd.int .i64) 2 w' w.heap.size (fun _ => True) v0 r1 ∧ Below w.heap.size w w' := by
  have hlv : vs.length = n := hrv.1
  have hlh : hs.length = n := hrh.1
  have HTA := fun W (h1 : Kd.C (Kd.int .i64) W Av n vs) (h2 : Kd.C (Kd.int .i64) W Ah n hs) => table_any Av Ah cv ch vs hs n a W h1 hcv h2 hch hn (by omega) hv hh
  obtain ⟨m, hm⟩ : ∃ m, a + 1 = m := ⟨_, rfl⟩
  have hm2 : m ≤ 2000 := by omega
  have ham : a < m := by omega
  rw [hm] at hres
  rw [hm] at HTA
  obtain ⟨top, htop⟩ : ∃ top, (tabD vs hs m vs.length).getD a z80 = top := ⟨_, rfl⟩
  have hcnt := fun h0 => counts_is (vs := vs) (hs := hs) (by omega) hv (fun h hh' => (hh h hh').1) (by omega) (m := m) hm2 (a := a) ham h0
  have hok := (tabD_ok m (show vs.length = hs.length by omega) (fun v hv' => (hv v hv').1) (fun h hh' => (hh h hh').1) vs.length (Nat.le_refl _)).ways a ham
  unfold fewOut at hres
  rw [htop] at hcnt hok hres
  obtain ⟨tt, htt⟩ : ∃ tt, tabT vs hs m = tt := ⟨_, rfl⟩
  have hr0 : rd_L5 tt 0 = tabD vs hs m vs.length := by rw [← htt]; exact rd_tab vs hs m 0 (by omega)
  have htl : tt.length = n + 1 := by rw [← htt, tabT_length, hlv]
  have hrl : (rd_L5 tt 0).length = m := by rw [hr0, tabD_length]
  have hrt : rd_T80 (rd_L5 tt 0) (a : Int) = top := by rw [hr0]; unfold rd_T80; rw [Int.toNat_natCast, htop]
  rw [htt] at hcnt HTA
  have HRV := Aside0.mk hrv
  have HRH := Aside0.mk hrh
  have HT := Aside0.mk HTA
  have HCNT := Aside0.mk hcnt
  have HOK := Aside0.mk hok
  have HRES := Aside0.mk hres
  have HRL := Aside0.mk hrl
  have HRT := Aside0.mk hrt
  have HTL := Aside0.mk htl
  have HLV := Aside0.mk hlv
  have HLH := Aside0.mk hlh
  clear hrv hrh HTA hcnt hok hres hrl hrt hr0 htop hm htt htl hlv hlh hv hh
  obtain ⟨W1, hW1⟩ : ∃ W1, W1 = w.alloc (.cells #[.slice Av n cv, .slice Ah n ch] 58) := ⟨_, rfl⟩
  have HB1 : Aside0 (Below w.heap.size w W1) := ⟨by rw [hW1]; exact (Below.refl _ _).alloc (Nat.le_refl _) _⟩
  have HC1 : Aside0 (W1.heap[w.heap.size]? = some (.cells #[.slice Av n cv, .slice Ah n ch] 58 (0, 0))) := ⟨by rw [hW1]; exact blk_new w _⟩
  have HE1 := Aside0.mk hW1
  have HS1 : Aside0 (W1.heap.size = w.heap.size + 1) := ⟨by rw [hW1]; simp⟩
  clear hW1
  go_enter Try.func51, Try.ntmps51
  obtain ⟨f0, f1⟩ := top
  go_upto_region 2 with ((go_at_call 74; rw [← HE1.out]; refine (HT.out W1 (Kd.C_below HRV.out HB1.out) (Kd.C_below HRH.out HB1.out)).mono ?_; rintro e w3 ⟨B, rfl, hC3, hb3⟩))
  have HB3 : Aside0 (Below w.heap.size w w3) := ⟨HB1.out.trans (hb3.mono (by rw [HS1.out]; omega))⟩
  have HBL3 : Aside0 (w3.heap[w.heap.size]? = some (.cells #[.slice Av n cv, .slice Ah n ch] 58 (0, 0))) := ⟨(hb3.block _ (by rw [HS1.out]; omega)).trans HC1.out⟩
  obtain ⟨ad, A1, c1, e1, hx, hl1, hi1⟩ := at_L5 hC3 0 (by omega) (by omega)
  rw [HRL.out] at hx hl1 hi1
  obtain ⟨ad1, e2, y0, y1⟩ := at_T80 hi1 (a : Int) (by omega) (by omega)
  cases e1
  cases e2
  rw [HRT.out] at y0 y1
  rw [show ((0 : Int)).toNat = 0 from rfl, Addr.add_zero'] at hx
  rw [Int.toNat_natCast] at y0 y1
  simp only at y0 y1
  have hp0 : w3.cell? ⟨w.heap.size, 0, none⟩ = some (.slice Av n cv) := by rw [cell_of_row w3 _ 0 _ _ (0, 0) HBL3.out]; rfl
  have hp1 : w3.cell? ⟨w.heap.size, 1, none⟩ = some (.slice Ah n ch) := by rw [cell_of_row w3 _ 1 _ _ (0, 0) HBL3.out]; rfl
  have HC3 := Aside0.mk hC3
  have haz : (0 : Int) ≤ (a : Int) := by omega
  have hamz : (a : Int) < (m : Int) := by omega
  have hnz : (0 : Int) < (n : Int) + 1 := by omega
  clear hC3 hb3 hl1 hi1
  by_cases hz : f0 = 0
  · have hz1 : decide (f0 = 0) = true := decide_eq_true hz
    have hz2 : (f0 == 0) = true := by rw [hz]; rfl
    have hr := HRES.out
    rw [if_pos hz] at hr
    injection hr with q1 hr
    injection hr with q2 q3
    have HQ := Aside0.mk q1
    subst q2 q3
    clear hz q1
    go_wp2
    go_ret3
    exact ⟨_, rfl, by rw [← HQ.out]; exact Kd.R_nil _ _ _ _ _, HB3.out⟩
  · have hz1 : decide (f0 = 0) = false := decide_eq_false hz
    have hz2 : (f0 == 0) = false := by simpa using hz
    have hpos : 0 < f0 := by have := HOK.out.1; omega
    have hr := HRES.out
    rw [if_neg hz] at hr
    injection hr with q1 hr
    injection hr with q2 q3
    have HQ := Aside0.mk q1
    subst q2 q3
    obtain ⟨k, hk⟩ := HCNT.out hpos
    have HK := Aside0.mk hk
    clear hz q1 hk
    have hbr : Below w3.heap.size w3 w3 := Below.refl _ _
    have HCT : Aside0 (∀ W, Below w3.heap.size w3 W → Calls Try.prog 75 #[.agg #[.slice Av n cv, .slice Ah n ch], .slice (some ⟨B, 0, none⟩) (n + 1) (n + 1), .int .i64 (a : Int)] W fun e w' => ∃ v0 : Value, e = .returned v0 ∧ Kd.R (Kd.int .i64) 2 w' W.heap.size (fun _ => True) v0 r1 ∧ Below W.heap.size W w') := ⟨fun W hW => by
      have hv' := Kd.C_below (Kd.C_below HRV.out HB3.out) hW
      have hh' := Kd.C_below (Kd.C_below HRH.out HB3.out) hW
      have ht' := Kd.C_below HC3.out hW
      have h8 := impl_purse_counts.calls k Av cv vs Ah ch hs (some ⟨B, 0, none⟩) (n + 1) tt (a : Int) r1 W (by rw [HLV.out]; exact hv') (by rw [HLV.out]; exact hcv) (by rw [HLH.out]; exact hh') (by rw [HLH.out]; exact hch) (by rw [HTL.out]; exact ht') (by rw [HTL.out]; exact Nat.le_refl _) (by rw [← HQ.out]; exact HK.out k (Nat.le_refl _))
      rw [HLV.out, HLH.out, HTL.out] at h8
      exact h8⟩
    have HY : Aside0 (∀ W, Below w3.heap.size w3 W → W.cell? ⟨w.heap.size, 0, none⟩ = some (.slice Av n cv) ∧ W.cell? ⟨w.heap.size, 1, none⟩ = some (.slice Ah n ch) ∧ W.cell? ⟨B, 0, none⟩ = some (.slice (some ad1) m c1) ∧ W.cell? ⟨(ad1.add (a * 2)).block, (ad1.add (a * 2)).off + 1, none⟩ = some (.int .i64 f1) ∧ Below w3.heap.size w3 W) := ⟨fun W hW => ⟨pw_cell_below hW hp0, pw_cell_below hW hp1, pw_cell_below hW hx, pw_cell_below hW y1, hW⟩⟩
    go_wp2_with fail
    go_region_held_law (fun w' => w'.cell? ⟨w.heap.size, 0, none⟩ = some (.slice Av n cv) ∧ w'.cell? ⟨w.heap.size, 1, none⟩ = some (.slice Ah n ch) ∧ w'.cell? ⟨B, 0, none⟩ = some (.slice (some ad1) m c1) ∧ w'.cell? ⟨(ad1.add (a * 2)).block, (ad1.add (a * 2)).off + 1, none⟩ = some (.int .i64 f1) ∧ Below w3.heap.size w3 w')
      ((refine HY.out _ ?_; (try go_split_ands); first | exact hB9 | exact hbr.drew | assumption))
      ((go_at_call 75; refine (HCT.out _ (by go_split_ands; assumption)).mono ?_; rintro e w9 ⟨v9, rfl, hR9, hb9⟩; have hB9 : Below w3.heap.size w3 w9 := hbr.drew.trans (hb9.mono (Nat.le_refl _))))
    have HR9 := Aside0.mk hR9
    have HB9 := Aside0.mk hB9
    clear hR9 hB9 hb9
    go_wp2
    go_ret3
    exact ⟨_, rfl, Kd.R_lower HR9.out HB3.out.size, HB3.out.trans (HB9.out.mono HB3.out.size)⟩
end Go.Proofs.Ytlcnjpibfjhibaa.Q
