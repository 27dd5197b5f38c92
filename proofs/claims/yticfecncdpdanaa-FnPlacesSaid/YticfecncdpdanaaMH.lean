/- impl's FalseScans. -/
import Derived.Test.YticfecncdpdanaaHBad
import Derived.Test.YticfecncdpdanaaMC
import Derived.Deep.RegionHeldLaw
import Derived.Test.YticfecncdpdanaaHSBad
set_option linter.unusedVariables false
set_option linter.unusedSimpArgs false
namespace Go.Proofs.Yticfecncdpdanaa.Q
open Go.RowKit Go.Proofs.YticfecncdpdanaaW.PrintWords Go.Proofs.YticfecncdpdanaaW.PrintLast Go.Proofs.YticfecncdpdanaaW.PrintMore
/-- Whether all is right without scan i. -/
def falseB (t : Int) (l : List S44) (ss : List S31) (i : Nat) : Bool := decide (badFrom t l (ss.eraseIdx i) 0 < 0)
def falseL (t : Int) (l : List S44) (ss : List S31) : Nat → List Int
  | 0 => []
  | k + 1 => if falseB t l ss k = true then falseL t l ss k ++ [(k : Int)] else falseL t l ss k
theorem falseL_length (t : Int) (l : List S44) (ss : List S31) : ∀ k, (falseL t l ss k).length ≤ k
  | 0 => Nat.le_refl _
  | k + 1 => by
    have := falseL_length t l ss k
    rw [falseL]
    split
    · rw [List.length_append, List.length_singleton]; omega
    · omega
def falseRes (s t : Int) (l : List S44) (ss : List S31) : List Int × Int := coded (scansCodeB s t l ss) [] (falseL t l ss ss.length)
theorem cells3n {V W : World} {p0 p1 p2 : Addr} {v0 v1 v2 : Value} (q0 : V.cell? p0 = some v0) (q1 : V.cell? p1 = some v1) (q2 : V.cell? p2 = some v2) (hB : Below V.heap.size V W) : W.cell? p0 = some v0 ∧ W.cell? p1 = some v1 ∧ W.cell? p2 = some v2 ∧ Below V.heap.size V W := ⟨pw_cell_below hB q0, pw_cell_below hB q1, pw_cell_below hB q2, hB⟩
set_option maxHeartbeats 40000000 in
set_option maxRecDepth 100000 in
theorem FalseScans_any (s t : Int) (A : Option Addr) (c : Nat) (l : List S44) (A1 : Option Addr) (c1 : Nat) (ss : List S31) (w : World) (hr : Kd.C k44 w A l.length l) (hc : l.length ≤ c) (hok : okNet s t l = true)
    (hr1 : Kd.C k31 w A1 ss.length ss) (hc1 : ss.length ≤ c1) (hl1 : ss.length ≤ 1048576) (hsc : ∀ x ∈ ss, okScan x = true) :
    Calls Try.prog 20 #[.agg #[.int .i8 s, .int .i16 t, .slice A l.length c], .slice A1 ss.length c1] w fun e w' =>
      ∃ v : Value, e = .returned (.tuple #[v, .int .i64 (falseRes s t l ss).2]) ∧ Kd.R (Kd.int .i64) 2 w' w.heap.size (fun _ => True) v (falseRes s t l ss).1 ∧ Below w.heap.size w w' := by
  have HR := Aside0.mk hr
  have HR1 := Aside0.mk hr1
  have OK := Aside0.mk hok
  have HSC := Aside0.mk hsc
  clear hr hr1 hok hsc
  go_enter Try.func20, Try.ntmps20
  go_wp2_with fail
  refine (scansCode_is s t A c l A1 c1 ss _ (Kd.C_alloc HR.out _) hc OK.out (Kd.C_alloc HR1.out _) hc1 hl1 HSC.out).mono ?_
  rintro e w1 ⟨rfl, hb⟩
  have hb1 : Aside0 (Below w.heap.size w w1) := ⟨below_call hb⟩
  have hcl := Aside0.mk ((hb.cell (p := ⟨w.heap.size, 0, none⟩) (by simp)).trans (show _ = some (.int .i8 s) by go_simp))
  have hcm := Aside0.mk ((hb.cell (p := ⟨w.heap.size, 1, none⟩) (by simp)).trans (show _ = some (.int .i16 t) by go_simp))
  have hcn := Aside0.mk ((hb.cell (p := ⟨w.heap.size, 2, none⟩) (by simp)).trans (show _ = some (.slice A l.length c) by go_simp))
  have hw1 : w.heap.size < w1.heap.size := by have := hb.size; simp at this; omega
  clear hb
  by_cases h0 : scansCodeB s t l ss = 0
  · obtain ⟨h1, h2, h3⟩ := scansCodeB_zero h0
    obtain ⟨hl, hs1, hs8, ht0, ht1⟩ := laneV_of h1
    have HIN : Aside0 (∀ i, ∀ x ∈ ss.eraseIdx i, ∃ a0 h0 : Nat, x = ⟨a0, h0⟩ ∧ a0 < 8 ∧ h0 < 301) := ⟨fun i x hx => scansIn_all hs8 h2 x (List.mem_of_mem_eraseIdx hx)⟩
    have HL := Aside0.mk hl
    have ER : Aside0 (falseRes s t l ss = (falseL t l ss ss.length, 0)) := ⟨by unfold falseRes coded; rw [if_pos h0]⟩
    rw [h0]
    clear h0 h1 h2 hl
    have HO0 : Aside0 ((w1.alloc (.cells #[] 2)).ownsRow w1.heap.size 2 1 (.slice (some ⟨w1.heap.size, 0, none⟩) 0 0) ([] : List Int).length (nums .i64 [])) := ⟨own_lit w1 w1.heap.size 2 .i64 [] (Nat.le_refl _) (by simp)⟩
    have BW0 : Aside0 (Below w1.heap.size w1 (w1.alloc (.cells #[] 2))) := ⟨(Below.refl _ _).alloc (Nat.le_refl _) _⟩
    go_wp2
    go_loopg [7, 18] ss.length (fun gg v7 v18 wr => ∃ (kk : Nat), kk ≤ ss.length ∧ ss.length - kk ≤ gg ∧ v18 = .int .i64 kk ∧ Aside0 (wr.ownsRow w1.heap.size 2 1 v7 (falseL t l ss kk).length (nums .i64 (falseL t l ss kk))) ∧ Aside0 (Below w1.heap.size w1 wr))
    case atStart => exact ⟨0, Nat.zero_le _, by omega, rfl, HO0, BW0⟩
    case round =>
      obtain ⟨kk, hkk, hgg, rfl, HO, BW⟩ := hrel
      by_cases hlt : kk < ss.length
      · have hltz : (kk : Int) < (ss.length : Int) := by omega
        have hsz := BW.out.size
        have d0 := (BW.out.cell (p := ⟨w.heap.size, 0, none⟩) hw1).trans hcl.out
        have d1 := (BW.out.cell (p := ⟨w.heap.size, 1, none⟩) hw1).trans hcm.out
        have d2 := (BW.out.cell (p := ⟨w.heap.size, 2, none⟩) hw1).trans hcn.out
        have HBR : Aside0 (Below w.heap.size w wr) := ⟨hb1.out.trans (BW.out.mono hb1.out.size)⟩
        have HRr := Aside0.mk (Kd.C_below HR.out HBR.out)
        have HR1r := Aside0.mk (Kd.C_below HR1.out HBR.out)
        have e1 : IntKind.i64.wrap ((kk : Int) + 1) = (kk : Int) + 1 := IntWalk.i64_in _ (by omega)
        have HFS : Aside0 (falseL t l ss (kk + 1) = if falseB t l ss kk = true then falseL t l ss kk ++ [(kk : Int)] else falseL t l ss kk) := ⟨rfl⟩
        have hel : (ss.eraseIdx kk).length ≤ 12 := by rw [List.length_eraseIdx]; split <;> omega
        have HFB : Aside0 (falseB t l ss kk = decide (badFrom t l (ss.eraseIdx kk) 0 < 0)) := ⟨rfl⟩
        have hbr : Below wr.heap.size wr wr := Below.refl _ _
        go_wp2_with fail
        go_region_held_law (fun w' => w'.cell? ⟨w.heap.size, 0, none⟩ = some (.int .i8 s) ∧ w'.cell? ⟨w.heap.size, 1, none⟩ = some (.int .i16 t) ∧ w'.cell? ⟨w.heap.size, 2, none⟩ = some (.slice A l.length c) ∧ Below wr.heap.size wr w')
          ((refine cells3n d0 d1 d2 ?_; (try go_split_ands); first | exact hB28 | exact hB27 | exact hB23 | exact hbr.drew | assumption))
          (first
            | (go_at_call 47; refine (clone_Scan A1 c1 ss _ (Kd.C_below HR1r.out (by go_split_ands; assumption)) hc1 (by omega)).mono ?_; rintro e w23 ⟨v23, rfl, hO23, hb23⟩; have hB23 : Below wr.heap.size wr w23 := hbr.drew.trans (hb23.mono (Nat.le_refl _)))
            | (go_at_call 57; refine (delete_Scan _ v23 ss kk _ _ hb23.size hO23 hlt rfl (by omega)).mono ?_; rintro e w27 ⟨v27, rfl, hO27, hb27⟩; obtain ⟨A27, c27, rfl, hc27, hC27⟩ := Kd.R_reads hO27; have hB27 : Below wr.heap.size wr w27 := hB23.trans (hb27.mono (Nat.le_refl _)))
            | (go_at_call 55; refine (bad_is s t A c l A27 c27 (ss.eraseIdx kk) _ (Kd.C_below HRr.out hB27) hc hC27 hc27 hel HL.out ht0 ht1 (HIN.out kk)).mono ?_; rintro e w28 ⟨rfl, hb28⟩; have hB28 : Below wr.heap.size wr w28 := hB27.trans (hb28.mono hB27.size)))
        have hsw : w1.heap.size ≤ w28.heap.size := by have := hB28.size; omega
        have BW2 : Aside0 (Below w1.heap.size w1 w28) := ⟨BW.out.trans (hB28.mono BW.out.size)⟩
        have HO2 : Aside0 (w28.ownsRow w1.heap.size 2 1 u7 (falseL t l ss kk).length (nums .i64 (falseL t l ss kk))) := ⟨pw_own_below HO.out hB28⟩
        clear hO23 hb23 hB23 hb27 hO27 hc27 hC27 hB27 hb28 hB28 hbr d0 d1 d2
        obtain ⟨bd, hbd⟩ : ∃ bd, badFrom t l (ss.eraseIdx kk) 0 = bd := ⟨_, rfl⟩
        rw [hbd] at HFB ⊢
        clear hbd
        cases hq : decide (bd < 0) with
        | false =>
          have HO3 : Aside0 (w28.ownsRow w1.heap.size 2 1 u7 (falseL t l ss (kk + 1)).length (nums .i64 (falseL t l ss (kk + 1)))) := ⟨by rw [HFS.out, HFB.out, hq]; exact HO2.out⟩
          have hq2 : ¬ bd < 0 := of_decide_eq_false hq
          clear HFS HFB
          go_wp2
          go_roundg (ss.length - (kk + 1))
          case measure => omega
          case rel => exact ⟨kk + 1, by omega, by omega, by go_num, HO3, BW2⟩
        | true =>
          have HMB : Aside0 (falseL t l ss (kk + 1) = falseL t l ss kk ++ [(kk : Int)]) := ⟨by rw [HFS.out, HFB.out, hq]; rfl⟩
          have hml := falseL_length t l ss kk
          have hq2 : bd < 0 := of_decide_eq_true hq
          clear HFS HFB
          go_wp2_with (at_builtin; refine print_append_num (w0 := w1) w1.heap.size rfl (.tmp 30) (.tmp 32) 34 2 .i64 8 rfl Try.underlying34 infoI64 (by omega) _ (falseL t l ss kk) ((kk : Int)) rfl (by go_simp) HO2.out BW2.out hsw (by omega) ?_; intro v1 w6 hown1 hB1 hg1 hat1)
          rw [← HMB.out] at hown1
          have HO6 := Aside0.mk hown1
          have HB6 := Aside0.mk hB1
          clear hown1 hB1 hg1 hat1
          go_wp2
          go_roundg (ss.length - (kk + 1))
          case measure => omega
          case rel => exact ⟨kk + 1, by omega, by omega, by go_num, HO6, HB6⟩
      · have hltz : ¬ (kk : Int) < (ss.length : Int) := by omega
        have hk : kk = ss.length := by omega
        subst hk
        go_wp2
        go_ret2
        rw [ER.out]
        exact ⟨_, rfl, Kd.R_lower (Kd.R_of_own HO.out (fun _ _ => trivial)) hb1.out.size, hb1.out.trans (BW.out.mono hb1.out.size)⟩
  · have hne : (scansCodeB s t l ss != 0) = true := by simp [h0]
    have ER : Aside0 (falseRes s t l ss = ([], scansCodeB s t l ss)) := ⟨by unfold falseRes coded; rw [if_neg h0]⟩
    clear h0
    generalize hcd : scansCodeB s t l ss = cd at *
    go_wp2
    go_ret2
    rw [ER.out]
    exact ⟨_, rfl, Kd.R_nil _ _ _ _ _, hb1.out⟩
def impl_FalseScans.f (a0_0 : Int) (a0_1 : Int) (l0_2 : List (S44)) (l1 : List (S31)) : Option (List Int × Int) :=
  if okNet a0_0 a0_1 l0_2 = true ∧ l1.length ≤ 1048576 ∧ l1.all okScan = true then some (falseRes a0_0 a0_1 l0_2 l1) else none
theorem impl_FalseScans.calls (a0_0 : Int) (a0_1 : Int) (A0_2 : Option Addr) (c0_2 : Nat) (l0_2 : List (S44)) (A1 : Option Addr) (c1 : Nat) (l1 : List (S31)) (r1 : List Int) (r2 : Int) (w : World) (hr0_2 : Kd.C k44 w A0_2 l0_2.length l0_2) (hc0_2 : l0_2.length ≤ c0_2) (hr1 : Kd.C k31 w A1 l1.length l1) (hc1 : l1.length ≤ c1) (h : impl_FalseScans.f a0_0 a0_1 l0_2 l1 = some (r1, r2)) :
    Calls Try.prog 20 #[.agg #[.int .i8 a0_0, .int .i16 a0_1, .slice A0_2 l0_2.length c0_2], .slice A1 l1.length c1] w fun e w' => ∃ v0_ : Value, e = .returned (.tuple #[v0_, .int .i64 r2]) ∧ Kd.R (Kd.int .i64) 2 w' w.heap.size (fun _ => True) v0_ r1 ∧ Below w.heap.size w w' := by
  unfold impl_FalseScans.f at h
  split at h
  · injection h with h
    have h1 : (falseRes a0_0 a0_1 l0_2 l1).1 = r1 := by rw [h]
    have h2 : (falseRes a0_0 a0_1 l0_2 l1).2 = r2 := by rw [h]
    rw [← h1, ← h2]
    rename_i hh
    exact FalseScans_any _ _ _ _ _ _ _ _ w hr0_2 hc0_2 hh.1 hr1 hc1 hh.2.1 (List.all_eq_true.1 hh.2.2)
  · cases h
end Go.Proofs.Yticfecncdpdanaa.Q
/- spec's FalseScans. -/
set_option linter.unusedVariables false
set_option linter.unusedSimpArgs false
namespace Go.Proofs.Yticfecncdpdanaa.Q
open Go.RowKit Go.Proofs.YticfecncdpdanaaW.PrintWords Go.Proofs.YticfecncdpdanaaW.PrintLast Go.Proofs.YticfecncdpdanaaW.PrintMore
set_option maxHeartbeats 40000000 in
set_option maxRecDepth 100000 in
theorem sFalseScans_any (s t : Int) (A : Option Addr) (c : Nat) (l : List S44) (A1 : Option Addr) (c1 : Nat) (ss : List S31) (w : World) (hr : Kd.C k44 w A l.length l) (hc : l.length ≤ c) (hok : okNet s t l = true)
    (hr1 : Kd.C k31 w A1 ss.length ss) (hc1 : ss.length ≤ c1) (hl1 : ss.length ≤ 1048576) (hsc : ∀ x ∈ ss, okScan x = true) :
    Calls Try.prog 21 #[.agg #[.int .i8 s, .int .i16 t, .slice A l.length c], .slice A1 ss.length c1] w fun e w' =>
      ∃ v : Value, e = .returned (.tuple #[v, .int .i64 (falseRes s t l ss).2]) ∧ Kd.R (Kd.int .i64) 2 w' w.heap.size (fun _ => True) v (falseRes s t l ss).1 ∧ Below w.heap.size w w' := by
  have HN := Aside0.mk (NetAt.new (s := s) (t := t) hr hc 28)
  have HR1 := Aside0.mk hr1
  have OK := Aside0.mk hok
  have HSC := Aside0.mk hsc
  clear hr hr1 hok hsc
  go_enter Try.func21, Try.ntmps21
  go_wp2_with fail
  refine (l07Scans_at ((HN.out).alloc (.cells #[] 2)) OK.out A1 c1 ss (Kd.C_alloc (Kd.C_alloc HR1.out _) _) hc1 hl1 HSC.out).mono ?_
  rintro e w1 ⟨rfl, hb⟩
  obtain ⟨V, hV⟩ : ∃ V, V = w.alloc (.cells #[.int .i8 s, .int .i16 t, .slice A l.length c] 28) := ⟨_, rfl⟩
  have hVs : V.heap.size = w.heap.size + 1 := by rw [hV]; simp
  have hVw : Aside0 (Below w.heap.size w V) := ⟨by rw [hV]; exact (Below.refl _ _).alloc (Nat.le_refl _) _⟩
  rw [← hV] at hb HN
  have HB1 : Aside0 (Below V.heap.size V w1) := ⟨((Below.refl _ _).alloc (Nat.le_refl _) _).trans (hb.mono (by simp))⟩
  have hb1 : Aside0 (Below w.heap.size w w1) := ⟨hVw.out.trans (HB1.out.mono hVw.out.size)⟩
  have HO0 : Aside0 (w1.ownsRow V.heap.size 2 1 (.slice (some ⟨w.heap.size + 1, 0, none⟩) 0 0) ([] : List Int).length (nums .i64 [])) := ⟨pw_own_below (own_lit0 V V.heap.size 2 (w.heap.size + 1) hVs.symm (Nat.le_refl _)) hb⟩
  have HR1V := Aside0.mk (Kd.C_below HR1.out hVw.out)
  have HVS := Aside0.mk hVs
  clear hb hV hVs
  by_cases h0 : scansCodeB s t l ss = 0
  · obtain ⟨h1, h2, h3⟩ := scansCodeB_zero h0
    obtain ⟨hl, hs1, hs8, ht0, ht1⟩ := laneV_of h1
    have hlen := netB_len h1
    have HIN : Aside0 (∀ i, ∀ x ∈ ss.eraseIdx i, ∃ a0 h0 : Nat, x = ⟨a0, h0⟩ ∧ a0 < 8 ∧ h0 < 301) := ⟨fun i x hx => scansIn_all hs8 h2 x (List.mem_of_mem_eraseIdx hx)⟩
    have HL := Aside0.mk hl
    have ER : Aside0 (falseRes s t l ss = (falseL t l ss ss.length, 0)) := ⟨by unfold falseRes coded; rw [if_pos h0]⟩
    rw [h0]
    clear h0 h1 h2 hl
    have hbase := HB1.out.size
    have hvw := hVw.out.size
    go_wp2
    go_loopg [6, 8] ss.length (fun gg v6 v8 wr => ∃ (kk : Nat), kk ≤ ss.length ∧ ss.length - kk ≤ gg ∧ v8 = .int .i64 kk ∧ Aside0 (wr.ownsRow V.heap.size 2 1 v6 (falseL t l ss kk).length (nums .i64 (falseL t l ss kk))) ∧ Aside0 (Below V.heap.size V wr))
    case atStart => exact ⟨0, Nat.zero_le _, by omega, rfl, HO0, HB1⟩
    case round =>
      obtain ⟨kk, hkk, hgg, rfl, HO, BW⟩ := hrel
      have HNr := Aside0.mk (HN.out.below BW.out)
      by_cases hlt : kk < ss.length
      · have hltz : (kk : Int) < (ss.length : Int) := by omega
        have hsz := BW.out.size
        have HR1r := Aside0.mk (Kd.C_below HR1V.out BW.out)
        have e1 : IntKind.i64.wrap ((kk : Int) + 1) = (kk : Int) + 1 := IntWalk.i64_in _ (by omega)
        have HFS : Aside0 (falseL t l ss (kk + 1) = if falseB t l ss kk = true then falseL t l ss kk ++ [(kk : Int)] else falseL t l ss kk) := ⟨rfl⟩
        have hel : (ss.eraseIdx kk).length ≤ 12 := by rw [List.length_eraseIdx]; split <;> omega
        have HFB : Aside0 (falseB t l ss kk = decide (badFrom t l (ss.eraseIdx kk) 0 < 0)) := ⟨rfl⟩
        have hbr : Below wr.heap.size wr wr := Below.refl _ _
        have hkc : (kk : Int) ≤ (c1 : Int) := by omega
        have hkn : (kk : Int) + 1 ≤ (ss.length : Int) := by omega
        obtain ⟨i0, hi0, hzz⟩ := Option.map_eq_some_iff.1 info31
        simp only [Prod.mk.injEq] at hzz
        obtain ⟨AD, hAD⟩ : ∃ AD, AD = (if c1 = kk + 1 then A1 else A1.map (·.add ((kk + 1) * 2))) := ⟨_, rfl⟩
        have hsl : ∀ V, (Instr.slice 45 (.slice A1 ss.length c1) (some (.int .i64 ((kk : Int) + 1))) none none).run Try.prog V = .ok (.slice AD (ss.length - (kk + 1)) (c1 - (kk + 1))) V := by
          intro V
          rw [cut_from 45 31 .i64 Try.underlying45 hi0 2 hzz.2.1 A1 ss.length c1 ((kk : Int) + 1) (by omega) hkn, show ((kk : Int) + 1).toNat = kk + 1 by omega, hAD]
        have HCT : Aside0 (∀ V, Below wr.heap.size wr V → Kd.C k31 V A1 kk (ss.take kk)) := ⟨fun V hV => by
          have := Kd.C_take (Kd.C_below HR1r.out hV) (m := kk) (by omega)
          rwa [List.length_take, Nat.min_eq_left (by omega)] at this⟩
        have HCD : Aside0 (∀ V, Below wr.heap.size wr V → Kd.C k31 V AD (ss.length - (kk + 1)) (ss.drop (kk + 1))) := ⟨fun V hV => by
          have := Kd.C_drop (Kd.C_below HR1r.out hV) (m := kk + 1) (c := c1) (by omega) hc1
          rw [List.length_drop] at this
          rw [hAD]
          exact this⟩
        have HEI : Aside0 (([] ++ ss.take kk) ++ ss.drop (kk + 1) = ss.eraseIdx kk) := ⟨by rw [List.eraseIdx_eq_take_drop_succ]; rfl⟩
        have HE0 : Aside0 (Kd.R k31 31 (wr.drew.alloc (.cells #[] 31)) wr.heap.size (fun _ => True) (.slice (some ⟨wr.heap.size, 0, none⟩) 0 0) ([] : List S31)) := ⟨R_empty k31 31 wr.drew wr.heap.size _ _ rfl (Nat.le_refl _) trivial⟩
        have hB22 : Below wr.heap.size wr (wr.drew.alloc (.cells #[] 31)) := hbr.drew.alloc (Nat.le_refl _) _
        have hlk : (ss.take kk).length = kk := by rw [List.length_take]; omega
        clear hAD hzz hi0
        go_wp2_with fail
        --CUT2
        go_region_held_law (fun w' => Below wr.heap.size wr w')
          ((first | exact hB32 | exact hB31 | exact hB26 | exact hB22 | exact hbr.drew | assumption))
          (first
            | (refine Kd.R_append_rows_step k31 (w0 := wr) wr.heap.size rfl (.tmp 22) (.tmp 25) 45 31 (.agg #[.int .i8 0, .int .i16 0]) 4 rfl Try.underlying45 info31 rfl (by decide) (by omega) _ ([] : List S31) (ss.take kk) A1 kk c1 (fun _ => True) (fun _ => False) rfl rfl HE0.out (HCT.out _ hB22) (fun _ _ h => h) (fun _ h => h.elim) (fun _ _ => trivial) hB22 (by simp) (by simp; omega) ?_; intro v26 w26 hO26 hB26 hg26 hat26)
            | (refine Kd.R_append_rows_step k31 (w0 := wr) wr.heap.size rfl (.tmp 26) (.tmp 30) 45 31 (.agg #[.int .i8 0, .int .i16 0]) 4 rfl Try.underlying45 info31 rfl (by decide) (by omega) _ ([] ++ ss.take kk) (ss.drop (kk + 1)) AD (ss.length - (kk + 1)) (c1 - (kk + 1)) (fun _ => True) (fun _ => False) rfl rfl hO26 (HCD.out _ hB26) (fun _ _ h => h) (fun _ h => h.elim) (fun _ _ => trivial) hB26 hB26.size (by rw [List.nil_append, hlk]; omega) ?_; intro v31 w31 hO31 hB31 hg31 hat31; rw [HEI.out] at hO31; obtain ⟨A31, c31, rfl, hc31, hC31⟩ := Kd.R_reads hO31)
            | (go_at_call 56; refine (l07Bad_at (HNr.out.below hB31) A31 c31 (ss.eraseIdx kk) hC31 hc31 hel HL.out hlen ht0 ht1 (HIN.out kk)).mono ?_; rintro e w32 ⟨rfl, hb32⟩; have hB32 : Below wr.heap.size wr w32 := hB31.trans (hb32.mono hB31.size)))
        have hsw : V.heap.size ≤ w32.heap.size := by have := hB32.size; omega
        have BW2 : Aside0 (Below V.heap.size V w32) := ⟨BW.out.trans (hB32.mono BW.out.size)⟩
        have HO2 : Aside0 (w32.ownsRow V.heap.size 2 1 u6 (falseL t l ss kk).length (nums .i64 (falseL t l ss kk))) := ⟨pw_own_below HO.out hB32⟩
        clear hO26 hB26 hg26 hat26 hO31 hB31 hg31 hat31 hc31 hC31 hb32 hB32 hbr hB22 hsl HCT HCD HE0
        obtain ⟨bd, hbd⟩ : ∃ bd, badFrom t l (ss.eraseIdx kk) 0 = bd := ⟨_, rfl⟩
        rw [hbd] at HFB ⊢
        clear hbd
        cases hq : decide (bd < 0) with
        | false =>
          have HO3 : Aside0 (w32.ownsRow V.heap.size 2 1 u6 (falseL t l ss (kk + 1)).length (nums .i64 (falseL t l ss (kk + 1)))) := ⟨by rw [HFS.out, HFB.out, hq]; exact HO2.out⟩
          have hq2 : ¬ bd < 0 := of_decide_eq_false hq
          clear HFS HFB
          go_wp2
          go_roundg (ss.length - (kk + 1))
          case measure => omega
          case rel => exact ⟨kk + 1, by omega, by omega, by go_num, HO3, BW2⟩
        | true =>
          have HMB : Aside0 (falseL t l ss (kk + 1) = falseL t l ss kk ++ [(kk : Int)]) := ⟨by rw [HFS.out, HFB.out, hq]; rfl⟩
          have hml := falseL_length t l ss kk
          have hq2 : bd < 0 := of_decide_eq_true hq
          clear HFS HFB
          go_wp2_with (at_builtin; refine print_append_num (w0 := V) V.heap.size rfl (.tmp 34) (.tmp 36) 34 2 .i64 8 rfl Try.underlying34 infoI64 (by omega) _ (falseL t l ss kk) ((kk : Int)) rfl (by go_simp) HO2.out BW2.out hsw (by omega) ?_; intro v1 w6 hown1 hB1 hg1 hat1)
          rw [← HMB.out] at hown1
          have HO6 := Aside0.mk hown1
          have HB6 := Aside0.mk hB1
          clear hown1 hB1 hg1 hat1
          go_wp2
          go_roundg (ss.length - (kk + 1))
          case measure => omega
          case rel => exact ⟨kk + 1, by omega, by omega, by go_num, HO6, HB6⟩
      · have hltz : ¬ (kk : Int) < (ss.length : Int) := by omega
        have hk : kk = ss.length := by omega
        subst hk
        go_wp2
        go_ret2
        rw [ER.out]
        exact ⟨_, rfl, Kd.R_lower (Kd.R_of_own HO.out (fun _ _ => trivial)) hvw, hVw.out.trans (BW.out.mono hVw.out.size)⟩
  · have hne : (scansCodeB s t l ss != 0) = true := by simp [h0]
    have ER : Aside0 (falseRes s t l ss = ([], scansCodeB s t l ss)) := ⟨by unfold falseRes coded; rw [if_neg h0]⟩
    clear h0
    generalize hcd : scansCodeB s t l ss = cd at *
    go_wp2
    go_ret2
    rw [ER.out]
    exact ⟨_, rfl, Kd.R_lower (Kd.R_of_own HO0.out (fun _ _ => trivial)) hVw.out.size, hb1.out⟩
def spec_FalseScans.f (a0_0 : Int) (a0_1 : Int) (l0_2 : List (S44)) (l1 : List (S31)) : Option (List Int × Int) :=
  if okNet a0_0 a0_1 l0_2 = true ∧ l1.length ≤ 1048576 ∧ l1.all okScan = true then some (falseRes a0_0 a0_1 l0_2 l1) else none
theorem spec_FalseScans.calls (a0_0 : Int) (a0_1 : Int) (A0_2 : Option Addr) (c0_2 : Nat) (l0_2 : List (S44)) (A1 : Option Addr) (c1 : Nat) (l1 : List (S31)) (r1 : List Int) (r2 : Int) (w : World) (hr0_2 : Kd.C k44 w A0_2 l0_2.length l0_2) (hc0_2 : l0_2.length ≤ c0_2) (hr1 : Kd.C k31 w A1 l1.length l1) (hc1 : l1.length ≤ c1) (h : spec_FalseScans.f a0_0 a0_1 l0_2 l1 = some (r1, r2)) :
    Calls Try.prog 21 #[.agg #[.int .i8 a0_0, .int .i16 a0_1, .slice A0_2 l0_2.length c0_2], .slice A1 l1.length c1] w fun e w' => ∃ v0_ : Value, e = .returned (.tuple #[v0_, .int .i64 r2]) ∧ Kd.R (Kd.int .i64) 2 w' w.heap.size (fun _ => True) v0_ r1 ∧ Below w.heap.size w w' := by
  unfold spec_FalseScans.f at h
  split at h
  · injection h with h
    have h1 : (falseRes a0_0 a0_1 l0_2 l1).1 = r1 := by rw [h]
    have h2 : (falseRes a0_0 a0_1 l0_2 l1).2 = r2 := by rw [h]
    rw [← h1, ← h2]
    rename_i hh
    exact sFalseScans_any _ _ _ _ _ _ _ _ w hr0_2 hc0_2 hh.1 hr1 hc1 hh.2.1 (List.all_eq_true.1 hh.2.2)
  · cases h
end Go.Proofs.Yticfecncdpdanaa.Q
