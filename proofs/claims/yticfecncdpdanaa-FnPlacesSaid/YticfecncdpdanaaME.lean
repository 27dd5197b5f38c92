/- spec's SortScans: an insertion into a new list, scan by scan. -/
import Derived.Test.YticfecncdpdanaaHSBad
import Derived.Test.YticfecncdpdanaaMC
import Derived.Test.YticfecncdpdanaaHCanGo
import Derived.Lib.QuietBelow
import Derived.Deep.RegionHeldLaw
import Derived.Deep.CutBlock
import Derived.Deep.CutRange
import Derived.Test.YticfecncdpdanaaHBad
set_option linter.unusedVariables false
set_option linter.unusedSimpArgs false
namespace Go.Proofs.Yticfecncdpdanaa.Q
open Go.Sort (grow)
open Go.RowKit Go.Proofs.YticfecncdpdanaaW.PrintWords Go.Proofs.YticfecncdpdanaaW.PrintLast Go.Proofs.YticfecncdpdanaaW.PrintMore
theorem cells2n {V W : World} {p0 p1 : Addr} {v0 v1 : Value} (q0 : V.cell? p0 = some v0) (q1 : V.cell? p1 = some v1) (hB : Below V.heap.size V W) : W.cell? p0 = some v0 ∧ W.cell? p1 = some v1 ∧ Below V.heap.size V W := ⟨pw_cell_below hB q0, pw_cell_below hB q1, hB⟩
def befS (x y : S31) : Bool := decide (x.f1 < y.f1) || (x.f1 == y.f1 && decide (x.f0 < y.f0))
set_option maxHeartbeats 4000000 in
set_option maxRecDepth 100000 in
theorem l07Before_is (x y : S31) (w : World) : Calls Try.prog 54 #[.agg #[.int .i8 x.f0, .int .i16 x.f1], .agg #[.int .i8 y.f0, .int .i16 y.f1]] w fun e w' => e = .returned (.bool (befS x y)) ∧ Below w.heap.size w w' := by
  obtain ⟨a, b⟩ := x
  obtain ⟨c, d⟩ := y
  have HB : Aside0 (∀ o1 o2, Below w.heap.size w ((w.alloc o1).alloc o2)) := ⟨fun o1 o2 => ((Below.refl _ _).alloc (Nat.le_refl _) _).alloc (by simp) _⟩
  have E : Aside0 (befS ⟨a, b⟩ ⟨c, d⟩ = (decide (b < d) || (b == d && decide (a < c)))) := ⟨rfl⟩
  by_cases h1 : b < d
  · have ER : Aside0 (befS ⟨a, b⟩ ⟨c, d⟩ = true) := ⟨by rw [E.out, decide_eq_true h1]; rfl⟩
    have h1d : decide (b < d) = true := decide_eq_true h1
    go_enter Try.func54, Try.ntmps54
    go_wp2
    go_ret
    exact ⟨by rw [ER.out]; rfl, HB.out _ _⟩
  · have h1d : decide (b < d) = false := decide_eq_false h1
    cases h2 : (b == d) with
    | false =>
      have ER : Aside0 (befS ⟨a, b⟩ ⟨c, d⟩ = false) := ⟨by rw [E.out, h1d, h2]; rfl⟩
      go_enter Try.func54, Try.ntmps54
      go_wp2
      go_ret
      exact ⟨by rw [ER.out]; rfl, HB.out _ _⟩
    | true =>
      have ER : Aside0 (befS ⟨a, b⟩ ⟨c, d⟩ = decide (a < c)) := ⟨by rw [E.out, h1d, h2]; rfl⟩
      go_enter Try.func54, Try.ntmps54
      go_wp2
      go_ret
      exact ⟨by rw [ER.out]; rfl, HB.out _ _⟩
/-- Where a scan goes in, from place j down. -/
def scanAt (x : S31) (out : List S31) : Nat → Nat
  | 0 => 0
  | j + 1 => if befS x (out.getD j z31) = true then scanAt x out j else j + 1
theorem scanAt_le (x : S31) (out : List S31) : ∀ j, scanAt x out j ≤ j
  | 0 => Nat.le_refl _
  | j + 1 => by
    rw [scanAt]
    split
    · exact Nat.le_trans (scanAt_le x out j) (Nat.le_succ _)
    · exact Nat.le_refl _
def insS (out : List S31) (x : S31) : List S31 := (([] ++ out.take (scanAt x out out.length)) ++ [x]) ++ out.drop (scanAt x out out.length)
theorem insS_length (out : List S31) (x : S31) : (insS out x).length = out.length + 1 := by
  have := scanAt_le x out out.length
  unfold insS
  simp only [List.nil_append, List.length_append, List.length_take, List.length_drop, List.length_singleton]
  omega
def insAll (ss : List S31) : Nat → List S31
  | 0 => []
  | i + 1 => insS (insAll ss i) (ss.getD i z31)
theorem insAll_length (ss : List S31) : ∀ i, (insAll ss i).length = i
  | 0 => rfl
  | i + 1 => by rw [insAll, insS_length, insAll_length ss i]
/-- One scan in a block of its own, read. -/
theorem scan_atS {W : World} {b : Nat} {x : S31} (h0 : W.cell? ⟨b, 0, none⟩ = some (.int .i8 x.f0)) (h1 : W.cell? ⟨b, 1, none⟩ = some (.int .i16 x.f1)) : Kd.C k31 W (some ⟨b, 0, none⟩) 1 [x] := by
  refine ⟨rfl, by simp, fun _ => ⟨_, rfl, fun j p hj => ⟨[.int .i8 p.f0, .int .i16 p.f1], rfl, k31_mk _ p, fun i u hu => ?_⟩⟩⟩
  have hsz : k31.sz = 2 := rfl
  rw [hsz]
  match j, i, hj, hu with
  | 0, 0, hj, hu => simp at hj hu; subst hj hu; exact h0
  | 0, 1, hj, hu => simp at hj hu; subst hj hu; exact h1
  | 0, i + 2, hj, hu => simp at hu
  | j + 1, _, hj, hu => simp at hj
theorem cell_grownBy {W w1 : World} {b o : Nat} {own : Option Nat} (hg : W.grownBy w1 own) (hb : b < W.heap.size) (hne : some b ≠ own) : w1.cell? ⟨b, o, none⟩ = W.cell? ⟨b, o, none⟩ := by
  have h := hg.block b hb hne
  unfold World.cell?
  rw [h]
def sSortRes (s t : Int) (l : List S44) (ss : List S31) : List S31 × Int := coded (scansCodeB s t l ss) [] (insAll ss ss.length)
set_option maxHeartbeats 40000000 in
set_option maxRecDepth 100000 in
theorem sSortScans_any (s t : Int) (A : Option Addr) (c : Nat) (l : List S44) (A1 : Option Addr) (c1 : Nat) (ss : List S31) (w : World) (hr : Kd.C k44 w A l.length l) (hc : l.length ≤ c) (hok : okNet s t l = true)
    (hr1 : Kd.C k31 w A1 ss.length ss) (hc1 : ss.length ≤ c1) (hl1 : ss.length ≤ 1048576) (hsc : ∀ x ∈ ss, okScan x = true) :
    Calls Try.prog 16 #[.agg #[.int .i8 s, .int .i16 t, .slice A l.length c], .slice A1 ss.length c1] w fun e w' =>
      ∃ v : Value, e = .returned (.tuple #[v, .int .i64 (sSortRes s t l ss).2]) ∧ Kd.R k31 31 w' w.heap.size (fun _ => True) v (sSortRes s t l ss).1 ∧ Below w.heap.size w w' := by
  have HN := Aside0.mk (NetAt.new (s := s) (t := t) hr hc 28)
  have HR1 := Aside0.mk hr1
  have OK := Aside0.mk hok
  have HSC := Aside0.mk hsc
  clear hr hr1 hok hsc
  go_enter Try.func16, Try.ntmps16
  go_wp2_with fail
  refine (l07Scans_at ((HN.out).alloc (.cells #[] 31)) OK.out A1 c1 ss (Kd.C_alloc (Kd.C_alloc HR1.out _) _) hc1 hl1 HSC.out).mono ?_
  rintro e w1 ⟨rfl, hb⟩
  have hb1 : Aside0 (Below w.heap.size w w1) := ⟨(((Below.refl _ _).alloc (Nat.le_refl _) _).alloc (by simp) _).trans (hb.mono (by simp; omega))⟩
  have HO0 : Aside0 (Kd.R k31 31 w1 w.heap.size (fun _ => True) (.slice (some ⟨w.heap.size + 1, 0, none⟩) 0 0) ([] : List S31)) := ⟨Kd.R_mono (Kd.R_below (R_empty k31 31 (w.alloc _) w.heap.size (fun _ => True) (w.heap.size + 1) (by simp) (by simp) trivial) hb) (fun _ _ => trivial)⟩
  clear hb HN
  by_cases h0 : scansCodeB s t l ss = 0
  · obtain ⟨h1, h2, h3⟩ := scansCodeB_zero h0
    have ER : Aside0 (sSortRes s t l ss = (insAll ss ss.length, 0)) := ⟨by unfold sSortRes coded; rw [if_pos h0]⟩
    rw [h0]
    clear h0 h1 h2
    have hbase := hb1.out.size
    go_wp2
    go_loopg [6, 8] ss.length (fun gg v6 v8 wr => ∃ (i : Nat), i ≤ ss.length ∧ ss.length - i ≤ gg ∧ v8 = .int .i64 i ∧ Aside0 (Kd.R k31 31 wr w.heap.size (fun _ => True) v6 (insAll ss i)) ∧ Aside0 (Below w.heap.size w wr))
    case atStart => exact ⟨0, Nat.zero_le _, by omega, rfl, HO0, hb1⟩
    case round =>
      obtain ⟨i, hi, hgg, rfl, HO, BW⟩ := hrel
      by_cases hlt : i < ss.length
      · have hltz : (i : Int) < (ss.length : Int) := by omega
        have hsz := BW.out.size
        have hle := insAll_length ss i
        have HIS : Aside0 (insAll ss (i + 1) = insS (insAll ss i) (ss.getD i z31)) := ⟨rfl⟩
        obtain ⟨out, hout⟩ : ∃ out, insAll ss i = out := ⟨_, rfl⟩
        rw [hout] at HO hle HIS
        clear hout
        obtain ⟨A2, c2, rfl, hc2, hC2⟩ := Kd.R_reads HO.out
        have HC2 := Aside0.mk hC2
        rw [hle] at HO HC2 hc2 ⊢
        clear hC2
        obtain ⟨x, hx⟩ : ∃ x, ss.getD i z31 = x := ⟨_, rfl⟩
        have HX := Aside0.mk hx
        obtain ⟨ad, ea, x0, x1⟩ := at_T31 (Kd.C_below HR1.out BW.out) (i : Int) (by omega) hltz
        simp only [rd_T31, Int.toNat_natCast, hx] at x0 x1
        subst ea
        rw [hx] at HIS
        clear hx
        obtain ⟨xa, xb⟩ := x
        simp only at x0 x1
        obtain ⟨wo, hwo⟩ : ∃ wo : World, wo = wr := ⟨_, rfl⟩
        subst hwo
        go_upto_block 2 with fail
        go_cut [9] from 18 to 58 (fun v9 wx => ∃ (aq : Nat), v9 = .int .i64 aq ∧ aq ≤ i ∧ Aside0 (aq = scanAt ⟨xa, xb⟩ out i) ∧ Aside0 (Below wo.heap.size wo wx))
        case first =>
          go_wp2_with fail
          go_loopg [9] i (fun gg v9 wr => ∃ (j : Nat), j ≤ i ∧ j ≤ gg ∧ v9 = .int .i64 j ∧ Aside0 (Below wo.heap.size wo wr) ∧ Aside0 (scanAt ⟨xa, xb⟩ out j = scanAt ⟨xa, xb⟩ out i))
          case atStart => exact ⟨i, Nat.le_refl _, Nat.le_refl _, rfl, ⟨Below.refl _ _⟩, ⟨rfl⟩⟩
          case round =>
            obtain ⟨j, hji, hgg2, rfl, HB2, HSA⟩ := hrel
            have x0w := pw_cell_below HB2.out x0
            have x1w := pw_cell_below HB2.out x1
            by_cases hj0 : 0 < j
            · obtain ⟨jp, rfl⟩ : ∃ jp, j = jp + 1 := ⟨j - 1, by omega⟩
              have hC2' := Kd.C_below HC2.out HB2.out
              have hjp2 : (jp : Int) < (i : Int) := by omega
              have hjp3 : (jp : Int) < ((i : Nat) : Int) := by omega
              obtain ⟨ad2, ea2, y0, y1⟩ := at_T31 hC2' (jp : Int) (by omega) hjp3
              simp only [rd_T31, Int.toNat_natCast] at y0 y1
              have hun : scanAt ⟨xa, xb⟩ out (jp + 1) = if befS ⟨xa, xb⟩ (out.getD jp z31) = true then scanAt ⟨xa, xb⟩ out jp else jp + 1 := rfl
              rw [HSA.out] at hun
              subst ea2
              generalize out.getD jp z31 = y at *
              obtain ⟨ya, yb⟩ := y
              simp only at y0 y1
              have hcall : ∀ d os, Calls Try.prog 54 #[.agg #[.int .i8 xa, .int .i16 xb], .agg #[.int .i8 ya, .int .i16 yb]] (grow (redrawn wr d) os) fun e w'' => e = .returned (.bool (befS ⟨xa, xb⟩ ⟨ya, yb⟩)) ∧ ∃ p : Regrown, w'' = grow (redrawn wr p.d) p.os := fun d os => Calls.regrown_of (l07Before_is ⟨xa, xb⟩ ⟨ya, yb⟩ _)
              obtain ⟨bv, hbv⟩ : ∃ bv, befS ⟨xa, xb⟩ ⟨ya, yb⟩ = bv := ⟨_, rfl⟩
              rw [hbv] at hun hcall
              clear hbv hC2' HSA
              have HUN := Aside0.mk hun
              have x0' := cell_regrown x0w
              have x1' := cell_regrown x1w
              have y0' := cell_regrown y0
              have y1' := cell_regrown y1
              have hwp : IntKind.i64.wrap ((jp : Int) + 1 - 1) = (jp : Int) := by rw [IntKind.wrap_i64]; omega
              have hwp2 : IntKind.i64.wrap (jp : Int) = (jp : Int) := by rw [IntKind.wrap_i64]; omega
              have hjaz' : (0 : Int) < (jp : Int) + 1 := by omega
              clear x0w x1w y0 y1 hun
              --CUT1
              go_wp2_with fail
              refine wp_region_quiet_below (by kernel_rfl) (by kernel_rfl) ?_
              repeat (quiet_step ((go_at_call 54; with_reducible exact hcall _ _)))
              refine wpQuiet_nil ?_
              intro _ hw'
              obtain ⟨⟨dq, osq⟩, hw''⟩ := hw'
              subst hw''
              have hb7 := below_regrown wr dq osq
              clear x0' x1' y0' y1' hcall
              generalize grow (redrawn wr dq) osq = w6 at *
              have HB6 : Aside0 (Below wo.heap.size wo w6) := ⟨HB2.out.trans (hb7.mono HB2.out.size)⟩
              clear hb7 HB2
              cases bv with
              | true =>
                have HS2 : Aside0 (scanAt ⟨xa, xb⟩ out jp = scanAt ⟨xa, xb⟩ out i) := ⟨by rw [HUN.out]; rfl⟩
                clear HUN
                go_wp2
                go_roundg jp
                case measure => omega
                case rel => exact ⟨jp, by omega, by omega, by go_num, HB6, HS2⟩
              | false =>
                have HS2 : Aside0 (jp + 1 = scanAt ⟨xa, xb⟩ out i) := ⟨by rw [HUN.out]; rfl⟩
                clear HUN
                go_wp2_with fail
                go_meet
                exact ⟨jp + 1, rfl, by omega, HS2, HB6⟩
            · have hj : j = 0 := by omega
              subst hj
              have HS2 : Aside0 (0 = scanAt ⟨xa, xb⟩ out i) := ⟨HSA.out⟩
              clear HSA
              go_wp2_with fail
              go_quiet (fail)
              go_wp2_with fail
              go_meet
              exact ⟨0, rfl, by omega, HS2, ⟨pw_below_drewN HB2.out _⟩⟩
        case rest =>
          obtain ⟨aq, rfl, haq, HAQ, HBX⟩ := hcut
          have x0w := pw_cell_below HBX.out x0
          have x1w := pw_cell_below HBX.out x1
          have HC2w : Aside0 (∀ V, Below wc.heap.size wc V → Kd.C k31 V A2 i out) := ⟨fun V hV => Kd.C_below (Kd.C_below HC2.out HBX.out) hV⟩
          have hbase2 : w.heap.size ≤ wc.heap.size := by have := HBX.out.size; omega
          have BW2 : Aside0 (Below w.heap.size w wc) := ⟨BW.out.trans (HBX.out.mono hsz)⟩
          have hbr : Below wc.heap.size wc wc := Below.refl _ _
          have haz : (aq : Int) ≤ (c2 : Int) := by omega
          have hazi : (aq : Int) ≤ (i : Int) := by omega
          have HCT : Aside0 (∀ V, Below wc.heap.size wc V → Kd.C k31 V A2 aq (out.take aq)) := ⟨fun V hV => by
            have h1 := HC2w.out V hV
            rw [← hle] at h1
            have := Kd.C_take h1 (m := aq) (by omega)
            rwa [List.length_take, Nat.min_eq_left (by omega)] at this⟩
          obtain ⟨AD, hAD⟩ : ∃ AD, AD = (if c2 = aq then A2 else A2.map (·.add (aq * 2))) := ⟨_, rfl⟩
          obtain ⟨i0, hi0, hzz⟩ := Option.map_eq_some_iff.1 info31
          simp only [Prod.mk.injEq] at hzz
          have hsl : ∀ V, (Instr.slice 45 (.slice A2 i c2) (some (.int .i64 (aq : Int))) none none).run Try.prog V = .ok (.slice AD (i - aq) (c2 - aq)) V := by
            intro V
            rw [cut_from 45 31 .i64 Try.underlying45 hi0 2 hzz.2.1 A2 i c2 (aq : Int) (by omega) hazi, Int.toNat_natCast, hAD]
          have HCD : Aside0 (∀ V, Below wc.heap.size wc V → Kd.C k31 V AD (i - aq) (out.drop aq)) := ⟨fun V hV => by
            have h1 := HC2w.out V hV
            rw [← hle] at h1
            have := Kd.C_drop h1 (m := aq) (c := c2) (by omega) (by omega)
            rw [List.length_drop, hle] at this
            rw [hAD]
            exact this⟩
          have hlk : (out.take aq).length = aq := by rw [List.length_take]; omega
          have HIN : Aside0 ((([] ++ out.take aq) ++ [⟨xa, xb⟩]) ++ out.drop aq = insAll ss (i + 1)) := ⟨by rw [HIS.out]; unfold insS; rw [hle, ← HAQ.out]⟩
          clear hAD hzz hi0 x0 x1 HIS
          have hE1 : Kd.R k31 31 (wc.drew.alloc (.cells #[] 31)) wc.heap.size (fun _ => True) (.slice (some ⟨wc.heap.size, 0, none⟩) 0 0) ([] : List S31) := R_empty k31 31 wc.drew wc.heap.size _ _ rfl (Nat.le_refl _) trivial
          have hE2 : Kd.R k31 31 ((wc.drew.alloc (.cells #[] 31)).alloc (.cells #[.int .i8 xa, .int .i16 xb] 31)) wc.heap.size (fun _ => True) (.slice (some ⟨wc.heap.size, 0, none⟩) 0 0) ([] : List S31) := Kd.R_mono (Kd.R_below hE1 ((Below.refl _ _).alloc (Nat.le_refl _) _)) (fun _ _ => trivial)
          have hE3 : Kd.R k31 31 ((wc.drew.alloc (.cells #[.int .i8 xa, .int .i16 xb] 31)).alloc (.cells #[] 31)) wc.heap.size (fun _ => True) (.slice (some ⟨wc.heap.size + 1, 0, none⟩) 0 0) ([] : List S31) := R_empty k31 31 (wc.drew.alloc (.cells #[.int .i8 xa, .int .i16 xb] 31)) wc.heap.size (fun _ => True) (wc.heap.size + 1) (by simp) (by simp) trivial
          have hD1 : ∀ o, Below wc.heap.size wc (wc.drew.alloc o) := fun o => hbr.drew.alloc (Nat.le_refl _) _
          have hD2 : ∀ o o2, Below wc.heap.size wc ((wc.drew.alloc o).alloc o2) := fun o o2 => (hD1 o).alloc (by simp) _
          --CUT2
          go_wp2_with fail
          obtain ⟨wc0, hwc0⟩ : ∃ wc0 : World, wc0 = wc := ⟨_, rfl⟩
          subst hwc0
          go_cut [10] from 18 to 58 (fun v10 wx => Aside0 (Kd.R k31 31 wx wc0.heap.size (fun _ => True) v10 (([] ++ out.take aq) ++ [⟨xa, xb⟩])) ∧ Aside0 (Below wc0.heap.size wc0 wx))
          case first =>
            go_region_held_law (fun w' => w'.cell? (ad.add (i * 2)) = some (.int .i8 xa) ∧ w'.cell? ⟨(ad.add (i * 2)).block, (ad.add (i * 2)).off + 1, none⟩ = some (.int .i16 xb) ∧ Below wc0.heap.size wc0 w')
              ((first | assumption | (refine cells2n x0w x1w ?_; first | exact hbr.drew | exact hD1 _ | exact hD2 _ _ | exact hB52 | exact hB46 | exact hB46.alloc hB46.size _)))
              (first
                | (refine Kd.R_append_rows_step k31 (w0 := wc0) wc0.heap.size rfl (.tmp 42) (.tmp 45) 45 31 (.agg #[.int .i8 0, .int .i16 0]) 4 rfl Try.underlying45 info31 rfl (by decide) (by omega) _ ([] : List S31) (out.take aq) A2 aq c2 (fun _ => True) (fun _ => False) rfl rfl hE1 (HCT.out _ (hD1 _)) (fun _ _ h => h) (fun _ h => h.elim) (fun _ _ => trivial) (hD1 _) (by simp) (by simp; omega) ?_; intro v46 w46 hO46 hB46 hg46 hat46; have hXA : ∀ V : World, V = w46.alloc (.cells #[.int .i8 xa, .int .i16 xb] 31) → Kd.C k31 V (some ⟨w46.heap.size, 0, none⟩) 1 [(⟨xa, xb⟩ : S31)] := fun V hV => by rw [hV]; exact one_scan w46 _ rfl ⟨xa, xb⟩)
                | (refine Kd.R_append_rows_step k31 (w0 := wc0) wc0.heap.size rfl (.tmp 42) (.tmp 45) 45 31 (.agg #[.int .i8 0, .int .i16 0]) 4 rfl Try.underlying45 info31 rfl (by decide) (by omega) _ ([] : List S31) (out.take aq) A2 aq c2 (fun _ => True) (fun _ => False) rfl rfl hE2 (HCT.out _ (hD2 _ _)) (fun _ _ h => h) (fun _ h => h.elim) (fun _ _ => trivial) (hD2 _ _) (by simp; omega) (by simp; omega) ?_; intro v46 w46 hO46 hB46 hg46 hat46; have hXB := scan_atS (x := ⟨xa, xb⟩) ((cell_grownBy hg46 (b := wc0.heap.size + 1) (by simp) (by simp [Value.ownBlock, Act.eval])).trans (by go_simp)) ((cell_grownBy hg46 (b := wc0.heap.size + 1) (by simp) (by simp [Value.ownBlock, Act.eval])).trans (by go_simp)))
                | (refine Kd.R_append_rows_step k31 (w0 := wc0) wc0.heap.size rfl (.tmp 42) (.tmp 45) 45 31 (.agg #[.int .i8 0, .int .i16 0]) 4 rfl Try.underlying45 info31 rfl (by decide) (by omega) _ ([] : List S31) (out.take aq) A2 aq c2 (fun _ => True) (fun _ => False) rfl rfl hE3 (HCT.out _ (hD2 _ _)) (fun _ _ h => h) (fun _ h => h.elim) (fun _ _ => trivial) (hD2 _ _) (by simp; omega) (by simp; omega) ?_; intro v46 w46 hO46 hB46 hg46 hat46; have hXC := scan_atS (x := ⟨xa, xb⟩) ((cell_grownBy hg46 (b := wc0.heap.size) (by simp; omega) (by simp [Value.ownBlock, Act.eval])).trans (by go_simp)) ((cell_grownBy hg46 (b := wc0.heap.size) (by simp; omega) (by simp [Value.ownBlock, Act.eval])).trans (by go_simp)))
                | (refine Kd.R_append_rows_step k31 (w0 := wc0) wc0.heap.size rfl (.tmp 46) (.tmp 51) 45 31 (.agg #[.int .i8 0, .int .i16 0]) 4 rfl Try.underlying45 info31 rfl (by decide) (by omega) _ ([] ++ out.take aq) [⟨xa, xb⟩] (some ⟨w46.heap.size, 0, none⟩) 1 1 (fun _ => True) (fun _ => False) rfl rfl (Kd.R_mono (Kd.R_below hO46 ((Below.refl _ _).alloc (Nat.le_refl _) _)) (fun _ _ => trivial)) (hXA _ rfl) (fun _ _ h => h) (fun _ h => h.elim) (fun _ _ => trivial) (hB46.alloc hB46.size _) (by have := hB46.size; simp; omega) (by rw [List.nil_append, hlk]; omega) ?_; intro v52 w52 hO52 hB52 hg52 hat52)
                | (refine Kd.R_append_rows_step k31 (w0 := wc0) wc0.heap.size rfl (.tmp 46) (.tmp 51) 45 31 (.agg #[.int .i8 0, .int .i16 0]) 4 rfl Try.underlying45 info31 rfl (by decide) (by omega) _ ([] ++ out.take aq) [⟨xa, xb⟩] (some ⟨wc0.heap.size + 1, 0, none⟩) 1 1 (fun _ => True) (fun _ => False) rfl rfl hO46 hXB (fun _ _ h => h) (fun _ h => h.elim) (fun _ _ => trivial) hB46 hB46.size (by rw [List.nil_append, hlk]; omega) ?_; intro v52 w52 hO52 hB52 hg52 hat52)
                | (refine Kd.R_append_rows_step k31 (w0 := wc0) wc0.heap.size rfl (.tmp 46) (.tmp 51) 45 31 (.agg #[.int .i8 0, .int .i16 0]) 4 rfl Try.underlying45 info31 rfl (by decide) (by omega) _ ([] ++ out.take aq) [⟨xa, xb⟩] (some ⟨wc0.heap.size, 0, none⟩) 1 1 (fun _ => True) (fun _ => False) rfl rfl hO46 hXC (fun _ _ h => h) (fun _ h => h.elim) (fun _ _ => trivial) hB46 hB46.size (by rw [List.nil_append, hlk]; omega) ?_; intro v52 w52 hO52 hB52 hg52 hat52))
            all_goals
              simp only [List.getElem_toArray, List.getElem_cons_succ, List.getElem_cons_zero, List.setIfInBounds_toArray, List.set_cons_succ, List.set_cons_zero]
              go_wp2_with fail
              go_meet
              exact ⟨⟨hO52⟩, ⟨hB52⟩⟩
          case rest =>
            obtain ⟨HO5, HB5⟩ := hcut
            have HO6 := Aside0.mk (Kd.R_lower HO5.out hbase2)
            have BW5 : Aside0 (Below w.heap.size w wc) := ⟨BW2.out.trans (HB5.out.mono hbase2)⟩
            have hcd := HCD.out _ HB5.out
            have hbw5 := BW5.out.size
            clear hE1 hE2 hE3 hD1 hD2 x0w x1w
            go_wp2_with (at_builtin; refine Kd.R_append_rows k31 (w0 := w) w.heap.size rfl (.tmp 53) (.tmp 56) 45 31 (.agg #[.int .i8 0, .int .i16 0]) 4 rfl Try.underlying45 info31 rfl (by decide) (by omega) u10 (([] ++ out.take aq) ++ [(⟨xa, xb⟩ : S31)]) (out.drop aq) AD (i - aq) (c2 - aq) (fun _ => True) (fun _ => False) rfl rfl HO6.out hcd (fun _ _ h => h) (fun _ h => h.elim) (fun _ _ => trivial) BW5.out hbw5 (by rw [List.length_append, List.nil_append, hlk, List.length_singleton]; omega) ?_; intro v57 w57 hO57 hB57 hg57 hat57)
            rw [HIN.out] at hO57
            have HO7 := Aside0.mk hO57
            have HB7 := Aside0.mk hB57
            clear hO57 hB57 hg57 hat57 hcd
            go_wp2
            go_roundg (ss.length - (i + 1))
            case measure => omega
            case rel => exact ⟨i + 1, by omega, by omega, by go_num, HO7, HB7⟩
      · have hltz : ¬ (i : Int) < (ss.length : Int) := by omega
        have hk : i = ss.length := by omega
        subst hk
        go_wp2
        go_ret2
        rw [ER.out]
        exact ⟨_, rfl, HO.out, BW.out⟩
  · have hne : (scansCodeB s t l ss != 0) = true := by simp [h0]
    have ER : Aside0 (sSortRes s t l ss = ([], scansCodeB s t l ss)) := ⟨by unfold sSortRes coded; rw [if_neg h0]⟩
    clear h0
    generalize hcd : scansCodeB s t l ss = cd at *
    go_wp2
    go_ret2
    rw [ER.out]
    exact ⟨_, rfl, HO0.out, hb1.out⟩
def spec_SortScans.f (a0_0 : Int) (a0_1 : Int) (l0_2 : List (S44)) (l1 : List (S31)) : Option ((List (S31)) × Int) :=
  if okNet a0_0 a0_1 l0_2 = true ∧ l1.length ≤ 1048576 ∧ l1.all okScan = true then some (sSortRes a0_0 a0_1 l0_2 l1) else none
theorem spec_SortScans.calls (a0_0 : Int) (a0_1 : Int) (A0_2 : Option Addr) (c0_2 : Nat) (l0_2 : List (S44)) (A1 : Option Addr) (c1 : Nat) (l1 : List (S31)) (r1 : List (S31)) (r2 : Int) (w : World) (hr0_2 : Kd.C k44 w A0_2 l0_2.length l0_2) (hc0_2 : l0_2.length ≤ c0_2) (hr1 : Kd.C k31 w A1 l1.length l1) (hc1 : l1.length ≤ c1) (h : spec_SortScans.f a0_0 a0_1 l0_2 l1 = some (r1, r2)) :
    Calls Try.prog 16 #[.agg #[.int .i8 a0_0, .int .i16 a0_1, .slice A0_2 l0_2.length c0_2], .slice A1 l1.length c1] w fun e w' => ∃ v0_ : Value, e = .returned (.tuple #[v0_, .int .i64 r2]) ∧ Kd.R k31 31 w' w.heap.size (fun _ => True) v0_ r1 ∧ Below w.heap.size w w' := by
  unfold spec_SortScans.f at h
  split at h
  · injection h with h
    have h1 : (sSortRes a0_0 a0_1 l0_2 l1).1 = r1 := by rw [h]
    have h2 : (sSortRes a0_0 a0_1 l0_2 l1).2 = r2 := by rw [h]
    rw [← h1, ← h2]
    rename_i hh
    exact sSortScans_any _ _ _ _ _ _ _ _ w hr0_2 hc0_2 hh.1 hr1 hc1 hh.2.1 (List.all_eq_true.1 hh.2.2)
  · cases h
end Go.Proofs.Yticfecncdpdanaa.Q
/- impl's SortScans: its comparison, and itself. -/
set_option linter.unusedVariables false
set_option linter.unusedSimpArgs false
namespace Go.Proofs.Yticfecncdpdanaa.Q
open Go.RowKit Go.Proofs.YticfecncdpdanaaW.PrintWords Go.Proofs.YticfecncdpdanaaW.PrintLast Go.Proofs.YticfecncdpdanaaW.PrintMore
def cmpI (x y : Int) : Int := if x < y then -1 else if y < x then 1 else 0
theorem cmp16_is (x y : Int) (w : World) : Calls Try.prog 51 #[.int .i16 x, .int .i16 y] w fun e w' => e = .returned (.int .i64 (cmpI x y)) ∧ w' = w := by
  unfold cmpI
  by_cases h1 : x < y
  · rw [if_pos h1]
    go_enter Try.func51, Try.ntmps51
    go_wp2
    go_ret
    exact ⟨rfl, rfl⟩
  · rw [if_neg h1]
    by_cases h2 : y < x
    · rw [if_pos h2]
      go_enter Try.func51, Try.ntmps51
      go_wp2
      go_ret
      exact ⟨rfl, rfl⟩
    · rw [if_neg h2]
      go_enter Try.func51, Try.ntmps51
      go_wp2
      go_ret
      exact ⟨rfl, rfl⟩
theorem cmp8_is (x y : Int) (w : World) : Calls Try.prog 52 #[.int .i8 x, .int .i8 y] w fun e w' => e = .returned (.int .i64 (cmpI x y)) ∧ w' = w := by
  unfold cmpI
  by_cases h1 : x < y
  · rw [if_pos h1]
    go_enter Try.func52, Try.ntmps52
    go_wp2
    go_ret
    exact ⟨rfl, rfl⟩
  · rw [if_neg h1]
    by_cases h2 : y < x
    · rw [if_pos h2]
      go_enter Try.func52, Try.ntmps52
      go_wp2
      go_ret
      exact ⟨rfl, rfl⟩
    · rw [if_neg h2]
      go_enter Try.func52, Try.ntmps52
      go_wp2
      go_ret
      exact ⟨rfl, rfl⟩
def orV (x y : Int) : Int := if x = 0 then y else x
theorem or_is (b : Nat) (x y : Int) (w : World) (h0 : w.cell? ⟨b, 0, none⟩ = some (.int .i64 x)) (h1 : w.cell? ⟨b, 1, none⟩ = some (.int .i64 y)) :
    Calls Try.prog 50 #[.slice (some ⟨b, 0, none⟩) 2 2] w fun e w' => e = .returned (.int .i64 (orV x y)) ∧ w' = w := by
  have E : Aside0 (orV x y = if x = 0 then y else x) := ⟨rfl⟩
  go_enter Try.func50, Try.ntmps50
  go_wp2
  go_loopg [8] 3 (fun gg v8 wr => ∃ k : Nat, k ≤ 2 ∧ 3 - k ≤ gg ∧ v8 = .int .i64 k ∧ (0 < k → x = 0) ∧ (1 < k → y = 0) ∧ wr = w)
  case atStart => exact ⟨0, by omega, by omega, rfl, by omega, by omega, rfl⟩
  case round =>
    obtain ⟨k, hk, hgg, rfl, hx, hy, rfl⟩ := hrel
    have hc : k = 0 ∨ k = 1 ∨ k = 2 := by omega
    rcases hc with rfl | rfl | rfl
    · by_cases hx0 : x = 0
      · have ER : Aside0 (orV x y = y) := ⟨by rw [E.out, if_pos hx0]⟩
        have hz : (x != 0) = false := by simp [hx0]
        clear hx hy
        go_wp2
        go_roundg 2
        case measure => omega
        case rel => exact ⟨1, by omega, by omega, rfl, fun _ => hx0, by omega, rfl⟩
      · have ER : Aside0 (orV x y = x) := ⟨by rw [E.out, if_neg hx0]⟩
        have hz : (x != 0) = true := by simp [hx0]
        clear hx hy
        go_wp2
        go_ret
        rw [ER.out]
        exact ⟨rfl, rfl⟩
    · have hx0 := hx (by omega)
      have ER : Aside0 (orV x y = y) := ⟨by rw [E.out, if_pos hx0]⟩
      by_cases hy0 : y = 0
      · have hz : (y != 0) = false := by simp [hy0]
        clear hx hy
        go_wp2
        go_roundg 1
        case measure => omega
        case rel => exact ⟨2, by omega, by omega, rfl, fun _ => hx0, fun _ => hy0, rfl⟩
      · have hz : (y != 0) = true := by simp [hy0]
        clear hx hy
        go_wp2
        go_ret
        rw [ER.out]
        exact ⟨rfl, rfl⟩
    · have hx0 := hx (by omega)
      have hy0 := hy (by omega)
      have ER : Aside0 (orV x y = 0) := ⟨by rw [E.out, if_pos hx0, hy0]⟩
      clear hx hy
      go_wp2
      go_ret
      rw [ER.out]
      exact ⟨rfl, rfl⟩
/-- The order of scans: by their hours, then by their stations. -/
def cfS (x y : S31) : Int := orV (cmpI x.f1 y.f1) (cmpI x.f0 y.f0)
theorem cells4n {V W : World} {p0 p1 p2 p3 : Addr} {v0 v1 v2 v3 : Value} (q0 : V.cell? p0 = some v0) (q1 : V.cell? p1 = some v1) (q2 : V.cell? p2 = some v2) (q3 : V.cell? p3 = some v3) (hB : Below V.heap.size V W) : W.cell? p0 = some v0 ∧ W.cell? p1 = some v1 ∧ W.cell? p2 = some v2 ∧ W.cell? p3 = some v3 ∧ Below V.heap.size V W := ⟨pw_cell_below hB q0, pw_cell_below hB q1, pw_cell_below hB q2, pw_cell_below hB q3, hB⟩
set_option maxHeartbeats 8000000 in
set_option maxRecDepth 100000 in
theorem cfS_is : CmpS 49 #[] cfS := by
  intro w x y
  obtain ⟨a, b⟩ := x
  obtain ⟨c, d⟩ := y
  simp only [List.append_toArray, List.cons_append, List.nil_append]
  have E : Aside0 (cfS ⟨a, b⟩ ⟨c, d⟩ = orV (cmpI b d) (cmpI a c)) := ⟨rfl⟩
  go_enter Try.func49, Try.ntmps49
  go_wp2
  obtain ⟨V, hV⟩ : ∃ V, V = (w.alloc (.cells #[.int .i8 a, .int .i16 b] 31)).alloc (.cells #[.int .i8 c, .int .i16 d] 31) := ⟨_, rfl⟩
  have q0 : V.cell? ⟨w.heap.size, 0, none⟩ = some (.int .i8 a) := by rw [hV]; go_simp
  have q1 : V.cell? ⟨w.heap.size, 1, none⟩ = some (.int .i16 b) := by rw [hV]; go_simp
  have q2 : V.cell? ⟨w.heap.size + 1, 0, none⟩ = some (.int .i8 c) := by rw [hV]; go_simp
  have q3 : V.cell? ⟨w.heap.size + 1, 1, none⟩ = some (.int .i16 d) := by rw [hV]; go_simp
  have HBV : Aside0 (Below w.heap.size w V) := ⟨by rw [hV]; exact ((Below.refl _ _).alloc (Nat.le_refl _) _).alloc (by simp) _⟩
  have hbr : Below V.heap.size V V := Below.refl _ _
  rw [← hV]
  clear hV
  obtain ⟨c1, hc1⟩ : ∃ c1, cmpI b d = c1 := ⟨_, rfl⟩
  obtain ⟨c2, hc2⟩ : ∃ c2, cmpI a c = c2 := ⟨_, rfl⟩
  have K1 := fun W => cmp16_is b d W
  have K2 := fun W => cmp8_is a c W
  rw [hc1, hc2] at E
  simp only [hc1] at K1
  simp only [hc2] at K2
  clear hc1 hc2
  go_region_held_law (fun w' => w'.cell? ⟨w.heap.size, 0, none⟩ = some (.int .i8 a) ∧ w'.cell? ⟨w.heap.size, 1, none⟩ = some (.int .i16 b) ∧ w'.cell? ⟨w.heap.size + 1, 0, none⟩ = some (.int .i8 c) ∧ w'.cell? ⟨w.heap.size + 1, 1, none⟩ = some (.int .i16 d) ∧ Below V.heap.size V w')
    ((first | assumption | (refine cells4n q0 q1 q2 q3 ?_; first | exact hbr.drew | exact hbr.drew.alloc (Nat.le_refl _) _ | assumption)))
    (first
      | (go_at_call 51; refine (K1 _).mono ?_; rintro e wz ⟨rfl, rfl⟩)
      | (go_at_call 52; refine (K2 _).mono ?_; rintro e wz ⟨rfl, rfl⟩)
      | (go_at_call 50; refine (or_is _ c1 c2 _ (by go_simp) (by go_simp)).mono ?_; rintro e wz ⟨rfl, rfl⟩))
  all_goals
    go_wp2
    go_ret
    rw [E.out]
    exact ⟨rfl, HBV.out.trans ((hbr.drew.alloc (Nat.le_refl _) _).mono HBV.out.size)⟩
def sortedS (ss : List S31) : List S31 := outerS cfS (ss.length - 1) 1 ss
def sortRes (s t : Int) (l : List S44) (ss : List S31) : List S31 × Int := coded (scansCodeB s t l ss) [] (sortedS ss)
theorem cfS_enters : ∀ args w, (callFunc 49 args).run Try.prog w = .ok (.enter 49 args) w := enters_of Try.func49 (by kernel_rfl) rfl
set_option maxHeartbeats 8000000 in
set_option maxRecDepth 100000 in
theorem SortScans_any (s t : Int) (A : Option Addr) (c : Nat) (l : List S44) (A1 : Option Addr) (c1 : Nat) (ss : List S31) (w : World) (hr : Kd.C k44 w A l.length l) (hc : l.length ≤ c) (hok : okNet s t l = true)
    (hr1 : Kd.C k31 w A1 ss.length ss) (hc1 : ss.length ≤ c1) (hl1 : ss.length ≤ 1048576) (hsc : ∀ x ∈ ss, okScan x = true) :
    Calls Try.prog 15 #[.agg #[.int .i8 s, .int .i16 t, .slice A l.length c], .slice A1 ss.length c1] w fun e w' =>
      ∃ v : Value, e = .returned (.tuple #[v, .int .i64 (sortRes s t l ss).2]) ∧ Kd.R k31 31 w' w.heap.size (fun _ => True) v (sortRes s t l ss).1 ∧ Below w.heap.size w w' := by
  have HR := Aside0.mk hr
  have HR1 := Aside0.mk hr1
  have OK := Aside0.mk hok
  have HSC := Aside0.mk hsc
  clear hr hr1 hok hsc
  go_enter Try.func15, Try.ntmps15
  go_wp2_with fail
  refine (scansCode_is s t A c l A1 c1 ss _ (Kd.C_alloc HR.out _) hc OK.out (Kd.C_alloc HR1.out _) hc1 hl1 HSC.out).mono ?_
  rintro e w1 ⟨rfl, hb⟩
  have hb1 : Aside0 (Below w.heap.size w w1) := ⟨below_call hb⟩
  clear hb
  by_cases h0 : scansCodeB s t l ss = 0
  · obtain ⟨h1, h2, h3⟩ := scansCodeB_zero h0
    have ER : Aside0 (sortRes s t l ss = (sortedS ss, 0)) := ⟨by unfold sortRes coded; rw [if_pos h0]⟩
    rw [h0]
    clear h0 h1 h2
    go_wp2_with fail
    refine (clone_Scan A1 c1 ss w1 (Kd.C_below HR1.out hb1.out) hc1 (by omega)).mono ?_
    rintro e w2 ⟨v2, rfl, hO2, hb2⟩
    have HO2 := Aside0.mk hO2
    have HB2 := Aside0.mk hb2
    clear hO2 hb2
    by_cases hz : ss.length = 0
    · obtain ⟨A2, c2, rfl, hc2, _⟩ := Kd.R_reads HO2.out
      have hss : ss = [] := List.eq_nil_of_length_eq_zero hz
      subst hss
      simp only [List.length_nil] at *
      go_wp2_with fail
      refine (sortFuncS_none 49 #[] A2 c2 w2).mono ?_
      rintro e w3 ⟨rfl, rfl⟩
      go_wp2
      go_ret2
      rw [ER.out]
      exact ⟨_, rfl, Kd.R_lower HO2.out hb1.out.size, hb1.out.trans (HB2.out.mono hb1.out.size)⟩
    · obtain ⟨g, cap, rfl, hgb, hgl, _⟩ := Kd.R_form HO2.out (by omega)
      go_wp2_with fail
      refine (sortFuncS_is cfS 49 #[] w1.heap.size g cap ss ss.length w2 rfl cfS_enters cfS_is HO2.out HB2.out.size hgb hgl h3).mono ?_
      rintro e w3 ⟨rfl, hO3, hb3⟩
      have HO3 := Aside0.mk hO3
      have HB3 := Aside0.mk hb3
      clear hO3 hb3
      go_wp2
      go_ret2
      rw [ER.out]
      exact ⟨_, rfl, Kd.R_lower HO3.out hb1.out.size, hb1.out.trans ((HB2.out.trans HB3.out).mono hb1.out.size)⟩
  · have hne : (scansCodeB s t l ss != 0) = true := by simp [h0]
    have ER : Aside0 (sortRes s t l ss = ([], scansCodeB s t l ss)) := ⟨by unfold sortRes coded; rw [if_neg h0]⟩
    clear h0
    generalize hcd : scansCodeB s t l ss = cd at *
    go_wp2
    go_ret2
    rw [ER.out]
    exact ⟨_, rfl, Kd.R_nil _ _ _ _ _, hb1.out⟩
def impl_SortScans.f (a0_0 : Int) (a0_1 : Int) (l0_2 : List (S44)) (l1 : List (S31)) : Option ((List (S31)) × Int) :=
  if okNet a0_0 a0_1 l0_2 = true ∧ l1.length ≤ 1048576 ∧ l1.all okScan = true then some (sortRes a0_0 a0_1 l0_2 l1) else none
theorem impl_SortScans.calls (a0_0 : Int) (a0_1 : Int) (A0_2 : Option Addr) (c0_2 : Nat) (l0_2 : List (S44)) (A1 : Option Addr) (c1 : Nat) (l1 : List (S31)) (r1 : List (S31)) (r2 : Int) (w : World) (hr0_2 : Kd.C k44 w A0_2 l0_2.length l0_2) (hc0_2 : l0_2.length ≤ c0_2) (hr1 : Kd.C k31 w A1 l1.length l1) (hc1 : l1.length ≤ c1) (h : impl_SortScans.f a0_0 a0_1 l0_2 l1 = some (r1, r2)) :
    Calls Try.prog 15 #[.agg #[.int .i8 a0_0, .int .i16 a0_1, .slice A0_2 l0_2.length c0_2], .slice A1 l1.length c1] w fun e w' => ∃ v0_ : Value, e = .returned (.tuple #[v0_, .int .i64 r2]) ∧ Kd.R k31 31 w' w.heap.size (fun _ => True) v0_ r1 ∧ Below w.heap.size w w' := by
  unfold impl_SortScans.f at h
  split at h
  · injection h with h
    have h1 : (sortRes a0_0 a0_1 l0_2 l1).1 = r1 := by rw [h]
    have h2 : (sortRes a0_0 a0_1 l0_2 l1).2 = r2 := by rw [h]
    rw [← h1, ← h2]
    rename_i hh
    exact SortScans_any _ _ _ _ _ _ _ _ w hr0_2 hc0_2 hh.1 hr1 hc1 hh.2.1 (List.all_eq_true.1 hh.2.2)
  · cases h
end Go.Proofs.Yticfecncdpdanaa.Q
/- impl's sorted scans are spec's. -/
set_option linter.unusedVariables false
set_option linter.unusedSimpArgs false
namespace Go.Proofs.Yticfecncdpdanaa.Q
open Go.RowKit Go.Proofs.YticfecncdpdanaaW.PrintWords
theorem cfS_bef (x y : S31) : cfS x y < 0 ↔ befS x y = true := by
  unfold cfS befS orV cmpI
  simp only [Bool.or_eq_true, Bool.and_eq_true, decide_eq_true_eq, beq_iff_eq]
  by_cases h1 : x.f1 < y.f1
  · simp [h1]
  · by_cases h2 : y.f1 < x.f1
    · simp [h1, h2]
      omega
    · have h3 : x.f1 = y.f1 := by omega
      by_cases h4 : x.f0 < y.f0
      · simp [h3, h4]
      · by_cases h5 : y.f0 < x.f0
        · simp [h3, h4, h5]
        · simp [h3, h4, h5]
theorem swapS_at (A R : List S31) (y x : S31) : swapS (A ++ y :: x :: R) A.length = A ++ x :: y :: R := by
  unfold swapS
  have h1 : (A ++ y :: x :: R).getD A.length z31 = y := by rw [List.getD_eq_getElem?_getD, List.getElem?_append_right (Nat.le_refl _), Nat.sub_self]; rfl
  have h2 : (A ++ y :: x :: R).getD (A.length + 1) z31 = x := by rw [List.getD_eq_getElem?_getD, List.getElem?_append_right (by omega), show A.length + 1 - A.length = 1 by omega]; rfl
  rw [h1, h2, List.set_append_right _ _ (by omega), show A.length + 1 - A.length = 1 by omega, List.set_append_right _ _ (by omega), Nat.sub_self]
  rfl
theorem inner_is (ys zs : List S31) (x : S31) : ∀ j, j ≤ ys.length → innerS cfS j (ys.take j ++ x :: (ys.drop j ++ zs)) = ys.take (scanAt x ys j) ++ x :: (ys.drop (scanAt x ys j) ++ zs)
  | 0, _ => rfl
  | j + 1, hj => by
    have hl : (ys.take j).length = j := by rw [List.length_take]; omega
    have hg : ys.getD j z31 = ys[j]'hj := by rw [List.getD_eq_getElem?_getD, List.getElem?_eq_getElem hj]; rfl
    have e1 : ys.take (j + 1) ++ x :: (ys.drop (j + 1) ++ zs) = ys.take j ++ ys[j]'hj :: x :: (ys.drop (j + 1) ++ zs) := by
      rw [List.take_succ_eq_append_getElem hj]
      simp only [List.append_assoc, List.cons_append, List.nil_append]
    have e2 : (ys.take j ++ ys[j]'hj :: x :: (ys.drop (j + 1) ++ zs)).getD (j + 1) z31 = x := by
      rw [List.getD_eq_getElem?_getD, List.getElem?_append_right (by omega), hl, show j + 1 - j = 1 by omega]; rfl
    have e3 : (ys.take j ++ ys[j]'hj :: x :: (ys.drop (j + 1) ++ zs)).getD j z31 = ys[j]'hj := by
      rw [List.getD_eq_getElem?_getD, List.getElem?_append_right (by omega), hl, Nat.sub_self]; rfl
    have e4 : swapS (ys.take j ++ ys[j]'hj :: x :: (ys.drop (j + 1) ++ zs)) j = ys.take j ++ x :: (ys.drop j ++ zs) := by
      have := swapS_at (ys.take j) (ys.drop (j + 1) ++ zs) (ys[j]'hj) x
      rw [hl] at this
      rw [this, List.drop_eq_getElem_cons hj]
      rfl
    rw [e1, innerS, e2, e3, scanAt, hg]
    by_cases hb : befS x (ys[j]'hj) = true
    · rw [if_pos ((cfS_bef _ _).2 hb), if_pos hb, e4]
      exact inner_is ys zs x j (by omega)
    · rw [if_neg (fun h => hb ((cfS_bef _ _).1 h)), if_neg hb, e1]
theorem outer_is (ss : List S31) : ∀ n i, i + n = ss.length → outerS cfS n i (insAll ss i ++ ss.drop i) = insAll ss (i + n)
  | 0, i, h => by
    rw [outerS, List.drop_of_length_le (by omega), List.append_nil, Nat.add_zero]
  | n + 1, i, h => by
    rw [outerS]
    have hl := insAll_length ss i
    have e1 : ss.drop i = ss.getD i z31 :: ss.drop (i + 1) := by
      rw [List.getD_eq_getElem?_getD, List.getElem?_eq_getElem (by omega)]
      exact List.drop_eq_getElem_cons (by omega)
    have e2 := inner_is (insAll ss i) (ss.drop (i + 1)) (ss.getD i z31) i (by omega)
    rw [List.take_of_length_le (by omega), List.drop_of_length_le (by omega), List.nil_append] at e2
    rw [e1, e2]
    have e3 : (insAll ss i).take (scanAt (ss.getD i z31) (insAll ss i) i) ++ ss.getD i z31 :: ((insAll ss i).drop (scanAt (ss.getD i z31) (insAll ss i) i) ++ ss.drop (i + 1)) = insAll ss (i + 1) ++ ss.drop (i + 1) := by
      show _ = insS (insAll ss i) (ss.getD i z31) ++ _
      unfold insS
      rw [hl]
      simp
    rw [e3, outer_is ss n (i + 1) (by omega), show i + 1 + n = i + (n + 1) by omega]
theorem sorted_is (ss : List S31) : sortedS ss = insAll ss ss.length := by
  unfold sortedS
  by_cases h : ss.length = 0
  · have : ss = [] := List.eq_nil_of_length_eq_zero h
    subst this
    rfl
  · have h1 : insAll ss 1 ++ ss.drop 1 = ss := by
      obtain ⟨x, r, rfl⟩ := List.exists_cons_of_ne_nil (fun e => h (by rw [e]; rfl) : ss ≠ [])
      rfl
    have := outer_is ss (ss.length - 1) 1 (by omega)
    rw [h1, show 1 + (ss.length - 1) = ss.length by omega] at this
    exact this
end Go.Proofs.Yticfecncdpdanaa.Q
