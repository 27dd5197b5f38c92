/- impl's FalseScans. -/
import Derived.Test.YtjcokfdafingeaaHBad
import Derived.Test.YtjcokfdafingeaaDelScan
import Derived.Test.YtjcokfdafingeaaCloneScan
import Derived.Deep.RegionHeldLaw
set_option linter.unusedVariables false
set_option linter.unusedSimpArgs false
namespace Go.Proofs.Ytjcokfdafingeaa.Q
open Go.RowKit Go.Proofs.YtjcokfdafingeaaW.PrintWords Go.Proofs.YtjcokfdafingeaaW.PrintLast Go.Proofs.YtjcokfdafingeaaW.PrintMore
/-- Whether all is right without scan i. -/
def falseB (t : Int) (l : List S71) (ss : List S47) (i : Nat) : Bool := decide (badFrom t l (ss.eraseIdx i) 0 < 0)
def falseL (t : Int) (l : List S71) (ss : List S47) : Nat → List Int
  | 0 => []
  | k + 1 => if falseB t l ss k = true then falseL t l ss k ++ [(k : Int)] else falseL t l ss k
theorem falseL_length (t : Int) (l : List S71) (ss : List S47) : ∀ k, (falseL t l ss k).length ≤ k
  | 0 => Nat.le_refl _
  | k + 1 => by
    have := falseL_length t l ss k
    rw [falseL]
    split
    · rw [List.length_append, List.length_singleton]; omega
    · omega
def falseRes (s t : Int) (l : List S71) (ss : List S47) : List Int × Int := coded (scansCodeB s t l ss) [] (falseL t l ss ss.length)
theorem cells3n {V W : World} {p0 p1 p2 : Addr} {v0 v1 v2 : Value} (q0 : V.cell? p0 = some v0) (q1 : V.cell? p1 = some v1) (q2 : V.cell? p2 = some v2) (hB : Below V.heap.size V W) : W.cell? p0 = some v0 ∧ W.cell? p1 = some v1 ∧ W.cell? p2 = some v2 ∧ Below V.heap.size V W := ⟨pw_cell_below hB q0, pw_cell_below hB q1, pw_cell_below hB q2, hB⟩
set_option maxHeartbeats 40000000 in
set_option maxRecDepth 100000 in
theorem FalseScans_any (s t : Int) (A : Option Addr) (c : Nat) (l : List S71) (A1 : Option Addr) (c1 : Nat) (ss : List S47) (w : World) (hr : Kd.C k71 w A l.length l) (hc : l.length ≤ c) (hok : okNet s t l = true)
    (hr1 : Kd.C k47 w A1 ss.length ss) (hc1 : ss.length ≤ c1) (hl1 : ss.length ≤ 1048576) (hsc : ∀ x ∈ ss, okScan x = true) :
    Calls Try.prog 37 #[.agg #[.int .i8 s, .int .i16 t, .slice A l.length c], .slice A1 ss.length c1] w fun e w' =>
      ∃ v : Value, e = .returned (.tuple #[v, .int .i64 (falseRes s t l ss).2]) ∧ Kd.R (Kd.int .i64) 2 w' w.heap.size (fun _ => True) v (falseRes s t l ss).1 ∧ Below w.heap.size w w' := by
  have HR := Aside0.mk hr
  have HR1 := Aside0.mk hr1
  have OK := Aside0.mk hok
  have HSC := Aside0.mk hsc
  clear hr hr1 hok hsc
  go_enter Try.func37, Try.ntmps37
  go_wp2_with fail
  refine (scansCode_is s t A c l A1 c1 ss _ (Kd.C_alloc HR.out _) hc OK.out (Kd.C_alloc HR1.out _) hc1 hl1 HSC.out).mono ?_
  rintro e w1 ⟨rfl, hb⟩
  have hb1 : Aside0 (Below w.heap.size w w1) := ⟨below_call hb⟩
  have hcl := Aside0.mk ((hb.cell (p := ⟨w.heap.size, 0, none⟩) (by simp)).trans (show _ = some (.int .i8 s) by go_simp))
  have hcm := Aside0.mk ((hb.cell (p := ⟨w.heap.size, 1, none⟩) (by simp)).trans (show _ = some (.int .i16 t) by go_simp))
  have hcn := Aside0.mk ((hb.cell (p := ⟨w.heap.size, 2, none⟩) (by simp)).trans (show _ = some (.slice A l.length c) by go_simp))
  have hw1 : w.heap.size < w1.heap.size := by have := hb.size; simp at this; omega
  clear hb
  by_cases h0 : scansCodeB s t l ss = 0
  · obtain ⟨h1, h2, h3⟩ := scansCodeB_zero h0
    obtain ⟨hl, hs1, hs8, ht0, ht1⟩ := laneV_of h1
    have HIN : Aside0 (∀ i, ∀ x ∈ ss.eraseIdx i, ∃ a0 h0 : Nat, x = ⟨a0, h0⟩ ∧ a0 < 8 ∧ h0 < 301) := ⟨fun i x hx => scansIn_all hs8 h2 x (List.mem_of_mem_eraseIdx hx)⟩
    have HL := Aside0.mk hl
    have ER : Aside0 (falseRes s t l ss = (falseL t l ss ss.length, 0)) := ⟨by unfold falseRes coded; rw [if_pos h0]⟩
    rw [h0]
    clear h0 h1 h2 hl
    have HO0 : Aside0 ((w1.alloc (.cells #[] 2)).ownsRow w1.heap.size 2 1 (.slice (some ⟨w1.heap.size, 0, none⟩) 0 0) ([] : List Int).length (nums .i64 [])) := ⟨own_lit w1 w1.heap.size 2 .i64 [] (Nat.le_refl _) (by simp)⟩
    have BW0 : Aside0 (Below w1.heap.size w1 (w1.alloc (.cells #[] 2))) := ⟨(Below.refl _ _).alloc (Nat.le_refl _) _⟩
    go_wp2
    go_loopg [7, 18] ss.length (fun gg v7 v18 wr => ∃ (kk : Nat), kk ≤ ss.length ∧ ss.length - kk ≤ gg ∧ v18 = .int .i64 kk ∧ Aside0 (wr.ownsRow w1.heap.size 2 1 v7 (falseL t l ss kk).length (nums .i64 (falseL t l ss kk))) ∧ Aside0 (Below w1.heap.size w1 wr))
    case atStart => exact ⟨0, Nat.zero_le _, by omega, rfl, HO0, BW0⟩
    case round =>
      obtain ⟨kk, hkk, hgg, rfl, HO, BW⟩ := hrel
      by_cases hlt : kk < ss.length
      · have hltz : (kk : Int) < (ss.length : Int) := by omega
        have hsz := BW.out.size
        have d0 := (BW.out.cell (p := ⟨w.heap.size, 0, none⟩) hw1).trans hcl.out
        have d1 := (BW.out.cell (p := ⟨w.heap.size, 1, none⟩) hw1).trans hcm.out
        have d2 := (BW.out.cell (p := ⟨w.heap.size, 2, none⟩) hw1).trans hcn.out
        have HBR : Aside0 (Below w.heap.size w wr) := ⟨hb1.out.trans (BW.out.mono hb1.out.size)⟩
        have HRr := Aside0.mk (Kd.C_below HR.out HBR.out)
        have HR1r := Aside0.mk (Kd.C_below HR1.out HBR.out)
        have e1 : IntKind.i64.wrap ((kk : Int) + 1) = (kk : Int) + 1 := IntWalk.i64_in _ (by omega)
        have HFS : Aside0 (falseL t l ss (kk + 1) = if falseB t l ss kk = true then falseL t l ss kk ++ [(kk : Int)] else falseL t l ss kk) := ⟨rfl⟩
        have hel : (ss.eraseIdx kk).length ≤ 12 := by rw [List.length_eraseIdx]; split <;> omega
        have HFB : Aside0 (falseB t l ss kk = decide (badFrom t l (ss.eraseIdx kk) 0 < 0)) := ⟨rfl⟩
        have hbr : Below wr.heap.size wr wr := Below.refl _ _
        go_wp2_with fail
        go_region_held_law (fun w' => w'.cell? ⟨w.heap.size, 0, none⟩ = some (.int .i8 s) ∧ w'.cell? ⟨w.heap.size, 1, none⟩ = some (.int .i16 t) ∧ w'.cell? ⟨w.heap.size, 2, none⟩ = some (.slice A l.length c) ∧ Below wr.heap.size wr w')
          ((refine cells3n d0 d1 d2 ?_; (try go_split_ands); first | exact hB28 | exact hB27 | exact hB23 | exact hbr.drew | assumption))
          (first
            | (go_at_call 69; refine (clone_Scan A1 c1 ss _ (Kd.C_below HR1r.out (by go_split_ands; assumption)) hc1 (by omega)).mono ?_; rintro e w23 ⟨v23, rfl, hO23, hb23⟩; have hB23 : Below wr.heap.size wr w23 := hbr.drew.trans (hb23.mono (Nat.le_refl _)))
            | (go_at_call 68; refine (delete_Scan _ v23 ss kk _ _ hb23.size hO23 hlt rfl (by omega)).mono ?_; rintro e w27 ⟨v27, rfl, hO27, hb27⟩; obtain ⟨A27, c27, rfl, hc27, hC27⟩ := Kd.R_reads hO27; have hB27 : Below wr.heap.size wr w27 := hB23.trans (hb27.mono (Nat.le_refl _)))
            | (go_at_call 66; refine (bad_is s t A c l A27 c27 (ss.eraseIdx kk) _ (Kd.C_below HRr.out hB27) hc hC27 hc27 hel HL.out ht0 ht1 (HIN.out kk)).mono ?_; rintro e w28 ⟨rfl, hb28⟩; have hB28 : Below wr.heap.size wr w28 := hB27.trans (hb28.mono hB27.size)))
        have hsw : w1.heap.size ≤ w28.heap.size := by have := hB28.size; omega
        have BW2 : Aside0 (Below w1.heap.size w1 w28) := ⟨BW.out.trans (hB28.mono BW.out.size)⟩
        have HO2 : Aside0 (w28.ownsRow w1.heap.size 2 1 u7 (falseL t l ss kk).length (nums .i64 (falseL t l ss kk))) := ⟨pw_own_below HO.out hB28⟩
        clear hO23 hb23 hB23 hb27 hO27 hc27 hC27 hB27 hb28 hB28 hbr d0 d1 d2
        obtain ⟨bd, hbd⟩ : ∃ bd, badFrom t l (ss.eraseIdx kk) 0 = bd := ⟨_, rfl⟩
        rw [hbd] at HFB ⊢
        clear hbd
        cases hq : decide (bd < 0) with
        | false =>
          have HO3 : Aside0 (w28.ownsRow w1.heap.size 2 1 u7 (falseL t l ss (kk + 1)).length (nums .i64 (falseL t l ss (kk + 1)))) := ⟨by rw [HFS.out, HFB.out, hq]; exact HO2.out⟩
          have hq2 : ¬ bd < 0 := of_decide_eq_false hq
          clear HFS HFB
          go_wp2
          go_roundg (ss.length - (kk + 1))
          case measure => omega
          case rel => exact ⟨kk + 1, by omega, by omega, by go_num, HO3, BW2⟩
        | true =>
          have HMB : Aside0 (falseL t l ss (kk + 1) = falseL t l ss kk ++ [(kk : Int)]) := ⟨by rw [HFS.out, HFB.out, hq]; rfl⟩
          have hml := falseL_length t l ss kk
          have hq2 : bd < 0 := of_decide_eq_true hq
          clear HFS HFB
          go_wp2_with (at_builtin; refine print_append_num (w0 := w1) w1.heap.size rfl (.tmp 30) (.tmp 32) 36 2 .i64 8 rfl Try.underlying36 infoI64 (by omega) _ (falseL t l ss kk) ((kk : Int)) rfl (by go_simp) HO2.out BW2.out hsw (by omega) ?_; intro v1 w6 hown1 hB1 hg1 hat1)
          rw [← HMB.out] at hown1
          have HO6 := Aside0.mk hown1
          have HB6 := Aside0.mk hB1
          clear hown1 hB1 hg1 hat1
          go_wp2
          go_roundg (ss.length - (kk + 1))
          case measure => omega
          case rel => exact ⟨kk + 1, by omega, by omega, by go_num, HO6, HB6⟩
      · have hltz : ¬ (kk : Int) < (ss.length : Int) := by omega
        have hk : kk = ss.length := by omega
        subst hk
        go_wp2
        go_ret2
        rw [ER.out]
        exact ⟨_, rfl, Kd.R_lower (Kd.R_of_own HO.out (fun _ _ => trivial)) hb1.out.size, hb1.out.trans (BW.out.mono hb1.out.size)⟩
  · have hne : (scansCodeB s t l ss != 0) = true := by simp [h0]
    have ER : Aside0 (falseRes s t l ss = ([], scansCodeB s t l ss)) := ⟨by unfold falseRes coded; rw [if_neg h0]⟩
    clear h0
    generalize hcd : scansCodeB s t l ss = cd at *
    go_wp2
    go_ret2
    rw [ER.out]
    exact ⟨_, rfl, Kd.R_nil _ _ _ _ _, hb1.out⟩
def impl_FalseScans.f (a0_0 : Int) (a0_1 : Int) (l0_2 : List (S71)) (l1 : List (S47)) : Option (List Int × Int) :=
  if okNet a0_0 a0_1 l0_2 = true ∧ l1.length ≤ 1048576 ∧ l1.all okScan = true then some (falseRes a0_0 a0_1 l0_2 l1) else none
theorem impl_FalseScans.calls (a0_0 : Int) (a0_1 : Int) (A0_2 : Option Addr) (c0_2 : Nat) (l0_2 : List (S71)) (A1 : Option Addr) (c1 : Nat) (l1 : List (S47)) (r1 : List Int) (r2 : Int) (w : World) (hr0_2 : Kd.C k71 w A0_2 l0_2.length l0_2) (hc0_2 : l0_2.length ≤ c0_2) (hr1 : Kd.C k47 w A1 l1.length l1) (hc1 : l1.length ≤ c1) (h : impl_FalseScans.f a0_0 a0_1 l0_2 l1 = some (r1, r2)) :
    Calls Try.prog 37 #[.agg #[.int .i8 a0_0, .int .i16 a0_1, .slice A0_2 l0_2.length c0_2], .slice A1 l1.length c1] w fun e w' => ∃ v0_ : Value, e = .returned (.tuple #[v0_, .int .i64 r2]) ∧ Kd.R (Kd.int .i64) 2 w' w.heap.size (fun _ => True) v0_ r1 ∧ Below w.heap.size w w' := by
  unfold impl_FalseScans.f at h
  split at h
  · injection h with h
    have h1 : (falseRes a0_0 a0_1 l0_2 l1).1 = r1 := by rw [h]
    have h2 : (falseRes a0_0 a0_1 l0_2 l1).2 = r2 := by rw [h]
    rw [← h1, ← h2]
    rename_i hh
    exact FalseScans_any _ _ _ _ _ _ _ _ w hr0_2 hc0_2 hh.1 hr1 hc1 hh.2.1 (List.all_eq_true.1 hh.2.2)
  · cases h
end Go.Proofs.Ytjcokfdafingeaa.Q
