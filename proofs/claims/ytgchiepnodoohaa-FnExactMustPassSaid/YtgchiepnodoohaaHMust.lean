/- impl's MustPass. -/
import Derived.Test.YtgchiepnodoohaaDelLane
import Derived.Test.YtgchiepnodoohaaHSBeh
set_option linter.unusedVariables false
set_option linter.unusedSimpArgs false
namespace Go.Proofs.Ytgchiepnodoohaa.Q
open Go.RowKit Go.Proofs.YtgchiepnodoohaaW.PrintWords Go.Proofs.YtgchiepnodoohaaW.PrintLast Go.Proofs.YtgchiepnodoohaaW.PrintMore
/-- Whether a station has to be passed. -/
def mustB (t : Int) (l : List S82) (a0 h0 b0 h1 st : Nat) : Bool := !decide (st = a0) && (!decide (st = b0) && !arrB t (but (st : Int) l) a0 h0 b0 h1)
def mustL (t : Int) (l : List S82) (a0 h0 b0 h1 n : Nat) : List Int := ((List.range n).filter (mustB t l a0 h0 b0 h1)).map fun (k : Nat) => (k : Int)
theorem mustL_succ (t : Int) (l : List S82) (a0 h0 b0 h1 n : Nat) : mustL t l a0 h0 b0 h1 (n + 1) = if mustB t l a0 h0 b0 h1 n = true then mustL t l a0 h0 b0 h1 n ++ [(n : Int)] else mustL t l a0 h0 b0 h1 n := by
  unfold mustL
  rw [List.range_succ, List.filter_append]
  split
  · rename_i h; simp [h]
  · rename_i h; simp [h]
theorem mustL_length (t : Int) (l : List S82) (a0 h0 b0 h1 n : Nat) : (mustL t l a0 h0 b0 h1 n).length ≤ n := by
  unfold mustL
  rw [List.length_map]
  have := List.length_filter_le (mustB t l a0 h0 b0 h1) (List.range n)
  simpa using this
def mustRes (s t : Int) (l : List S82) (a b : S47) : List Int × Int :=
  if codeB (netB s t l) (scansIn s [a, b]) = 0 then (if arrB t l a.f0.toNat a.f1.toNat b.f0.toNat b.f1.toNat = true then (mustL t l a.f0.toNat a.f1.toNat b.f0.toNat b.f1.toNat s.toNat, 0) else ([], 6)) else ([], codeB (netB s t l) (scansIn s [a, b]))
theorem but_del (wo : Int) (l : List S82) : (l.filter fun x => !(x.f0 == wo || x.f1 == wo)) = but wo l := by
  unfold but
  congr 1
  funext x
  simp [Bool.not_or, bne]
set_option maxHeartbeats 2000000 in
theorem must_pred (B : Nat) (kk : Int) (W : World) (x : S82) (hB : B < W.heap.size) (hc : W.cell? ⟨B, 0, none⟩ = some (.int .i8 kk)) :
    Calls Try.prog 85 (#[.agg #[.int .i8 x.f0, .int .i8 x.f1, .int .i16 x.f2, .int .i16 x.f3]] ++ #[.pointer (some ⟨B, 0, none⟩)]) W fun e w' => e = .returned (.bool (x.f0 == kk || x.f1 == kk)) ∧ Below W.heap.size W w' := by
  obtain ⟨f, g, m, n⟩ := x
  simp only [List.append_toArray, List.cons_append, List.nil_append]
  cases h1 : (f == kk) with
  | true =>
    go_enter Try.func85, Try.ntmps85
    go_wp2
    go_ret
    exact ⟨rfl, (Below.refl _ _).alloc (Nat.le_refl _) _⟩
  | false =>
    go_enter Try.func85, Try.ntmps85
    go_wp2
    go_ret
    exact ⟨rfl, (Below.refl _ _).alloc (Nat.le_refl _) _⟩
attribute [local go_sem] zcH noHours_length setRow_alloc_at setRow_alloc_past bcells_set bcells_size List.length_set
set_option maxHeartbeats 4000000 in
set_option maxRecDepth 100000 in
theorem MustPass_any (s t : Int) (A0 : Option Addr) (c : Nat) (l : List S82) (a0 a1 b0 b1 : Int) (w : World) (hr : Kd.C k82 w A0 l.length l) (hc : l.length ≤ c) (hok : okNet s t l = true) (hoa : okScan ⟨a0, a1⟩ = true) (hob : okScan ⟨b0, b1⟩ = true) :
    Calls Try.prog 49 #[.agg #[.int .i8 s, .int .i16 t, .slice A0 l.length c], .agg #[.int .i8 a0, .int .i16 a1], .agg #[.int .i8 b0, .int .i16 b1]] w fun e w' =>
      ∃ v : Value, e = .returned (.tuple #[v, .int .i64 (mustRes s t l ⟨a0, a1⟩ ⟨b0, b1⟩).2]) ∧ Kd.R (Kd.int .i64) 2 w' w.heap.size (fun _ => True) v (mustRes s t l ⟨a0, a1⟩ ⟨b0, b1⟩).1 ∧ Below w.heap.size w w' := by
  have HR := Aside0.mk hr
  have OK := Aside0.mk hok
  have HSC : Aside0 (∀ x ∈ [(⟨a0, a1⟩ : S47), ⟨b0, b1⟩], okScan x = true) := ⟨by simp [hoa, hob]⟩
  clear hr hok hoa hob
  go_enter Try.func49, Try.ntmps49
  go_wp2_with fail
  obtain ⟨V, hV⟩ : ∃ V, V = ((w.alloc (.cells #[.int .i8 s, .int .i16 t, .slice A0 l.length c] 31)).alloc (.cells #[.int .i8 a0, .int .i16 a1] 47)).alloc (.cells #[.int .i8 b0, .int .i16 b1] 47) := ⟨_, rfl⟩
  have HB : Aside0 (Below w.heap.size w V) := ⟨by rw [hV]; exact (((Below.refl _ _).alloc (Nat.le_refl _) _).alloc (by simp) _).alloc (by simp; omega) _⟩
  have hzV : Aside0 (V.heap.size = w.heap.size + 1 + 1 + 1) := ⟨by rw [hV]; simp⟩
  have q0 : Aside0 (V.cell? ⟨w.heap.size, 0, none⟩ = some (.int .i8 s)) := ⟨by rw [hV]; go_simp⟩
  have q1 : Aside0 (V.cell? ⟨w.heap.size, 1, none⟩ = some (.int .i16 t)) := ⟨by rw [hV]; go_simp⟩
  have q2 : Aside0 (V.cell? ⟨w.heap.size, 2, none⟩ = some (.slice A0 l.length c)) := ⟨by rw [hV]; go_simp⟩
  have q3 : Aside0 (V.cell? ⟨w.heap.size + 1, 0, none⟩ = some (.int .i8 a0)) := ⟨by rw [hV]; go_simp⟩
  have q4 : Aside0 (V.cell? ⟨w.heap.size + 1, 1, none⟩ = some (.int .i16 a1)) := ⟨by rw [hV]; go_simp⟩
  have q5 : Aside0 (V.cell? ⟨w.heap.size + 1 + 1, 0, none⟩ = some (.int .i8 b0)) := ⟨by rw [hV]; go_simp⟩
  have q6 : Aside0 (V.cell? ⟨w.heap.size + 1 + 1, 1, none⟩ = some (.int .i16 b1)) := ⟨by rw [hV]; go_simp⟩
  rw [← hV]
  clear hV
  refine (scanCode_is s t A0 c l _ _ [⟨a0, a1⟩, ⟨b0, b1⟩] _ (Kd.C_alloc (Kd.C_below HR.out HB.out) _) hc OK.out (two_scans _ _ hzV.out.symm ⟨a0, a1⟩ ⟨b0, b1⟩) (by simp) (by simp) HSC.out).mono ?_
  rintro e wc ⟨rfl, hb⟩
  have HX := Aside0.mk (below_call hb)
  clear hb
  have hb1 : Aside0 (Below w.heap.size w wc) := ⟨HB.out.trans (HX.out.mono HB.out.size)⟩
  cases h1 : netB s t l with
  | false =>
    have ER : Aside0 (mustRes s t l ⟨a0, a1⟩ ⟨b0, b1⟩ = ([], 1)) := ⟨by unfold mustRes; rw [h1]; rfl⟩
    clear h1
    simp only [codeB, Bool.false_eq_true, if_false]
    go_wp2
    go_ret2
    rw [ER.out]
    exact ⟨_, rfl, Kd.R_nil _ _ _ _ _, hb1.out⟩
  | true =>
    cases h2 : scansIn s [⟨a0, a1⟩, ⟨b0, b1⟩] with
    | false =>
      have ER : Aside0 (mustRes s t l ⟨a0, a1⟩ ⟨b0, b1⟩ = ([], 2)) := ⟨by unfold mustRes; rw [h1, h2]; rfl⟩
      clear h1 h2
      simp only [codeB, Bool.false_eq_true, if_false, if_true]
      go_wp2
      go_ret2
      rw [ER.out]
      exact ⟨_, rfl, Kd.R_nil _ _ _ _ _, hb1.out⟩
    | true =>
      have EC : Aside0 (codeB (netB s t l) (scansIn s [⟨a0, a1⟩, ⟨b0, b1⟩]) = 0) := ⟨by rw [h1, h2]; rfl⟩
      obtain ⟨hl, hs1, hs8, ht0, ht1⟩ := laneV_of h1
      have hlen := netB_len h1
      obtain ⟨hina, hinb⟩ := scansIn_two h2
      obtain ⟨x0, x1, hx, hx0, hx1, hx2, hx3⟩ := scansIn_nat hs8 hina
      obtain ⟨y0, y1, hy, hy0, hy1, hy2, hy3⟩ := scansIn_nat hs8 hinb
      injection hx with e1 e2
      injection hy with e3 e4
      subst e1 e2 e3 e4
      have HL := Aside0.mk hl
      obtain ⟨sn, rfl⟩ := Int.eq_ofNat_of_zero_le (show 0 ≤ s by omega)
      have hsz := HX.out.size
      have hzz := hzV.out
      have d0 := (HX.out.cell (p := ⟨w.heap.size, 0, none⟩) (by simp; omega)).trans q0.out
      have d1 := (HX.out.cell (p := ⟨w.heap.size, 1, none⟩) (by simp; omega)).trans q1.out
      have d2 := (HX.out.cell (p := ⟨w.heap.size, 2, none⟩) (by simp; omega)).trans q2.out
      have d3 := (HX.out.cell (p := ⟨w.heap.size + 1, 0, none⟩) (by simp; omega)).trans q3.out
      have d4 := (HX.out.cell (p := ⟨w.heap.size + 1, 1, none⟩) (by simp; omega)).trans q4.out
      have d5 := (HX.out.cell (p := ⟨w.heap.size + 1 + 1, 0, none⟩) (by simp; omega)).trans q5.out
      have d6 := (HX.out.cell (p := ⟨w.heap.size + 1 + 1, 1, none⟩) (by simp; omega)).trans q6.out
      clear h1 h2 hina hinb hl hx2 hx3 hy2 hy3 hsz hzz
      simp only [codeB, if_true]
      go_wp2_with fail
      refine (canGo_is sn t A0 c l x0 x1 y0 y1 _ (Kd.C_below HR.out hb1.out) hc HL.out ht0 ht1 hx0 hx1 hy0 hy1).mono ?_
      rintro e w2 ⟨rfl, hb2⟩
      have HV2 : Aside0 (Below V.heap.size V w2) := ⟨HX.out.trans (hb2.mono HX.out.size)⟩
      clear hb2 d0 d1 d2 d3 d4 d5 d6
      cases hg : arrB t l x0 x1 y0 y1 with
      | false =>
        have ER : Aside0 (mustRes sn t l ⟨x0, x1⟩ ⟨y0, y1⟩ = ([], 6)) := ⟨by unfold mustRes; rw [if_pos EC.out]; simp [hg]⟩
        clear hg
        go_wp2
        go_ret2
        rw [ER.out]
        exact ⟨_, rfl, Kd.R_nil _ _ _ _ _, HB.out.trans (HV2.out.mono HB.out.size)⟩
      | true =>
        have ER : Aside0 (mustRes sn t l ⟨x0, x1⟩ ⟨y0, y1⟩ = (mustL t l x0 x1 y0 y1 sn, 0)) := ⟨by unfold mustRes; rw [if_pos EC.out]; simp [hg]⟩
        have hsz := HV2.out.size
        have hzz := hzV.out
        have d0 := (HV2.out.cell (p := ⟨w.heap.size, 0, none⟩) (by simp; omega)).trans q0.out
        have hlz : w.heap.size < w2.heap.size := by omega
        have HO0 : Aside0 ((w2.alloc (.cells #[] 2)).ownsRow V.heap.size 2 1 (.slice (some ⟨w2.heap.size, 0, none⟩) 0 0) ([] : List Int).length (nums .i64 [])) := ⟨own_lit0 w2 V.heap.size 2 w2.heap.size rfl hsz⟩
        have BW0 : Aside0 (Below V.heap.size V (w2.alloc (.cells #[] 2))) := ⟨HV2.out.alloc hsz _⟩
        clear hsz hzz hg
        have hsn8 : sn ≤ 8 := by omega
        have HLB : Aside0 (∀ wo, ∀ x ∈ but wo l, laneV x) := ⟨fun wo x hx => HL.out x (but_mem hx)⟩
        go_wp2
        go_loopg [9, 29] sn (fun gg v9 v29 wr => ∃ (kk : Nat), kk ≤ sn ∧ sn - kk ≤ gg ∧ v29 = .int .i8 kk ∧ Aside0 (wr.ownsRow V.heap.size 2 1 v9 (mustL t l x0 x1 y0 y1 kk).length (nums .i64 (mustL t l x0 x1 y0 y1 kk))) ∧ Aside0 (Below V.heap.size V wr))
        case atStart => exact ⟨0, Nat.zero_le _, by omega, rfl, HO0, BW0⟩
        case round =>
          obtain ⟨kk, hkk, hgg, rfl, HO, BW⟩ := hrel
          have hsz := BW.out.size
          have hzz := hzV.out
          have d0 := (BW.out.cell (p := ⟨w.heap.size, 0, none⟩) (by simp; omega)).trans q0.out
          have d1 := (BW.out.cell (p := ⟨w.heap.size, 1, none⟩) (by simp; omega)).trans q1.out
          have d2 := (BW.out.cell (p := ⟨w.heap.size, 2, none⟩) (by simp; omega)).trans q2.out
          have d3 := (BW.out.cell (p := ⟨w.heap.size + 1, 0, none⟩) (by simp; omega)).trans q3.out
          have d4 := (BW.out.cell (p := ⟨w.heap.size + 1, 1, none⟩) (by simp; omega)).trans q4.out
          have d5 := (BW.out.cell (p := ⟨w.heap.size + 1 + 1, 0, none⟩) (by simp; omega)).trans q5.out
          have d6 := (BW.out.cell (p := ⟨w.heap.size + 1 + 1, 1, none⟩) (by simp; omega)).trans q6.out
          have hl0 : w.heap.size < wr.heap.size := by omega
          have hl1 : w.heap.size + 1 < wr.heap.size := by omega
          have hl2 : w.heap.size + 1 + 1 < wr.heap.size := by omega
          by_cases hlt : kk < sn
          · have hltz : (kk : Int) < (sn : Int) := by omega
            have HMS := Aside0.mk (mustL_succ t l x0 x1 y0 y1 kk)
            have HML := Aside0.mk (mustL_length t l x0 x1 y0 y1 kk)
            cases hb1 : ((kk : Int) == (x0 : Int)) with
            | true =>
              have hmb : mustL t l x0 x1 y0 y1 (kk + 1) = mustL t l x0 x1 y0 y1 kk := by
                rw [HMS.out, if_neg]
                have : kk = x0 := by have := eq_of_beq hb1; omega
                simp [mustB, this]
              have HO6 : Aside0 ((wr.alloc (.cells #[.int .i8 kk] 22)).ownsRow V.heap.size 2 1 u9 (mustL t l x0 x1 y0 y1 (kk + 1)).length (nums .i64 (mustL t l x0 x1 y0 y1 (kk + 1)))) := ⟨by rw [hmb]; exact HO.out.alloc _⟩
              have BW6 : Aside0 (Below V.heap.size V (wr.alloc (.cells #[.int .i8 kk] 22))) := ⟨BW.out.alloc BW.out.size _⟩
              clear hmb
              go_wp2
              go_roundg (sn - (kk + 1))
              case measure => omega
              case rel => exact ⟨kk + 1, by omega, by omega, by go_num, HO6, BW6⟩
            | false =>
              cases hb2 : ((kk : Int) == (y0 : Int)) with
              | true =>
                have hmb : mustL t l x0 x1 y0 y1 (kk + 1) = mustL t l x0 x1 y0 y1 kk := by
                  rw [HMS.out, if_neg]
                  have : kk = y0 := by have := eq_of_beq hb2; omega
                  simp [mustB, this]
                have HO6 : Aside0 ((wr.alloc (.cells #[.int .i8 kk] 22)).ownsRow V.heap.size 2 1 u9 (mustL t l x0 x1 y0 y1 (kk + 1)).length (nums .i64 (mustL t l x0 x1 y0 y1 (kk + 1)))) := ⟨by rw [hmb]; exact HO.out.alloc _⟩
                have BW6 : Aside0 (Below V.heap.size V (wr.alloc (.cells #[.int .i8 kk] 22))) := ⟨BW.out.alloc BW.out.size _⟩
                clear hmb
                go_wp2
                go_roundg (sn - (kk + 1))
                case measure => omega
                case rel => exact ⟨kk + 1, by omega, by omega, by go_num, HO6, BW6⟩
              | false =>
                have HKX : Aside0 (kk ≠ x0) := ⟨by have := ne_of_beq_false hb1; omega⟩
                have HKY : Aside0 (kk ≠ y0) := ⟨by have := ne_of_beq_false hb2; omega⟩
                have eg := enters_of Try.func85 (by kernel_rfl) rfl
                go_wp2_with fail
                obtain ⟨W1, hW1⟩ : ∃ W1, W1 = wr.alloc (.cells #[.int .i8 kk] 22) := ⟨_, rfl⟩
                have BW1 : Aside0 (Below V.heap.size V W1) := ⟨by rw [hW1]; exact BW.out.alloc BW.out.size _⟩
                have HO1 : Aside0 (W1.ownsRow V.heap.size 2 1 u9 (mustL t l x0 x1 y0 y1 kk).length (nums .i64 (mustL t l x0 x1 y0 y1 kk))) := ⟨by rw [hW1]; exact HO.out.alloc _⟩
                have hs1 : Aside0 (W1.heap.size = wr.heap.size + 1) := ⟨by rw [hW1]; simp⟩
                have c1 : Aside0 (W1.cell? ⟨wr.heap.size, 0, none⟩ = some (.int .i8 kk)) := ⟨by rw [hW1]; go_simp⟩
                rw [← hW1]
                clear hW1 d0 d1 d2 d3 d4 d5 d6
                refine (clone_Lane A0 c l W1 (Kd.C_below HR.out (HB.out.trans (BW1.out.mono HB.out.size))) hc (by omega)).mono ?_
                rintro e w3 ⟨v3, rfl, hO3, hb3⟩
                have HO3 := Aside0.mk hO3
                have hsz1 : Aside0 (V.heap.size ≤ W1.heap.size) := ⟨BW1.out.size⟩
                have BW3 : Aside0 (Below V.heap.size V w3) := ⟨BW1.out.trans (hb3.mono hsz1.out)⟩
                have HB3 := Aside0.mk hb3
                have c3 := Aside0.mk ((hb3.cell (p := ⟨wr.heap.size, 0, none⟩) (by rw [hs1.out]; simp)).trans c1.out)
                have hs3 : Aside0 (W1.heap.size ≤ w3.heap.size) := ⟨hb3.size⟩
                clear hO3 hb3
                go_wp2_with fail
                refine (delFunc_Lane 85 _ eg (fun x => x.f0 == (kk : Int) || x.f1 == (kk : Int)) W1.heap.size v3 l w3 hs3.out HO3.out (by omega) (fun W x hx hb => must_pred wr.heap.size (kk : Int) W x (by have := hb.size; have := hs1.out; have := hs3.out; omega) ((hb.cell (p := ⟨wr.heap.size, 0, none⟩) (by rw [hs1.out]; simp)).trans c3.out))).mono ?_
                rintro e w4 ⟨v4, rfl, hO4, hb4⟩
                rw [but_del] at hO4
                obtain ⟨A4, c4, rfl, hc4, hC4⟩ := Kd.R_reads hO4
                have HC4 := Aside0.mk hC4
                have BW4 : Aside0 (Below V.heap.size V w4) := ⟨BW3.out.trans (hb4.mono hsz1.out)⟩
                have HB4 : Aside0 (Below W1.heap.size W1 w4) := ⟨HB3.out.trans hb4⟩
                have c4' := Aside0.mk ((hb4.cell (p := ⟨wr.heap.size, 0, none⟩) (by rw [hs1.out]; simp)).trans c3.out)
                have hw4 : wr.heap.size < w4.heap.size := by have := HB4.out.size; have := hs1.out; omega
                have d0 := (BW4.out.cell (p := ⟨w.heap.size, 0, none⟩) (by simp; omega)).trans q0.out
                have d1 := (BW4.out.cell (p := ⟨w.heap.size, 1, none⟩) (by simp; omega)).trans q1.out
                have d3 := (BW4.out.cell (p := ⟨w.heap.size + 1, 0, none⟩) (by simp; omega)).trans q3.out
                have d4 := (BW4.out.cell (p := ⟨w.heap.size + 1, 1, none⟩) (by simp; omega)).trans q4.out
                have d5 := (BW4.out.cell (p := ⟨w.heap.size + 1 + 1, 0, none⟩) (by simp; omega)).trans q5.out
                have d6 := (BW4.out.cell (p := ⟨w.heap.size + 1 + 1, 1, none⟩) (by simp; omega)).trans q6.out
                have hl0 : w.heap.size < w4.heap.size := by omega
                have hl1 : w.heap.size + 1 < w4.heap.size := by omega
                have hl2 : w.heap.size + 1 + 1 < w4.heap.size := by omega
                clear hC4 hO4 hb4
                go_wp2_with fail
                refine (canGo_is sn t A4 c4 (but (kk : Int) l) x0 x1 y0 y1 _ (Kd.C_alloc HC4.out _) hc4 (HLB.out _) ht0 ht1 hx0 hx1 hy0 hy1).mono ?_
                rintro e w5 ⟨rfl, hb5⟩
                have HB5 : Aside0 (Below w4.heap.size w4 w5) := ⟨below_call hb5⟩
                have BW5 : Aside0 (Below V.heap.size V w5) := ⟨BW4.out.trans (HB5.out.mono (by have := HB4.out.size; have := hsz1.out; omega))⟩
                have HO5 : Aside0 (w5.ownsRow V.heap.size 2 1 u9 (mustL t l x0 x1 y0 y1 kk).length (nums .i64 (mustL t l x0 x1 y0 y1 kk))) := ⟨pw_own_below HO1.out (HB4.out.trans (HB5.out.mono HB4.out.size))⟩
                have c5 := (HB5.out.cell (p := ⟨wr.heap.size, 0, none⟩) hw4).trans c4'.out
                have hs5 : V.heap.size ≤ w5.heap.size := BW5.out.size
                clear hb5 d0 d1 d3 d4 d5 d6
                cases hq : arrB t (but (kk : Int) l) x0 x1 y0 y1 with
                | true =>
                  have hmb : mustL t l x0 x1 y0 y1 (kk + 1) = mustL t l x0 x1 y0 y1 kk := by
                    rw [HMS.out, if_neg]
                    simp [mustB, hq]
                  have HO6 : Aside0 (w5.ownsRow V.heap.size 2 1 u9 (mustL t l x0 x1 y0 y1 (kk + 1)).length (nums .i64 (mustL t l x0 x1 y0 y1 (kk + 1)))) := ⟨by rw [hmb]; exact HO5.out⟩
                  clear hmb hq
                  go_wp2
                  go_roundg (sn - (kk + 1))
                  case measure => omega
                  case rel => exact ⟨kk + 1, by omega, by omega, by go_num, HO6, BW5⟩
                | false =>
                  have hmb : mustL t l x0 x1 y0 y1 (kk + 1) = mustL t l x0 x1 y0 y1 kk ++ [(kk : Int)] := by
                    rw [HMS.out, if_pos]
                    simp [mustB, hq, HKX.out, HKY.out]
                  have HMB := Aside0.mk hmb
                  have hml := HML.out
                  clear hmb hq
                  go_wp2_with (at_builtin; refine print_append_num (w0 := V) V.heap.size rfl (.tmp 58) (.tmp 61) 36 2 .i64 8 rfl Try.underlying36 infoI64 (by omega) _ (mustL t l x0 x1 y0 y1 kk) ((kk : Int)) rfl (by go_simp) HO5.out BW5.out hs5 (by omega) ?_; intro v1 w6 hown1 hB1 hg1 hat1)
                  rw [← HMB.out] at hown1
                  have HO6 := Aside0.mk hown1
                  have HB6 := Aside0.mk hB1
                  clear hown1 hB1 hg1 hat1
                  go_wp2
                  go_roundg (sn - (kk + 1))
                  case measure => omega
                  case rel => exact ⟨kk + 1, by omega, by omega, by go_num, HO6, HB6⟩
          · have hltz : ¬ (kk : Int) < (sn : Int) := by omega
            have hk : kk = sn := by omega
            have HO6 : Aside0 (wr.ownsRow V.heap.size 2 1 u9 (mustL t l x0 x1 y0 y1 sn).length (nums .i64 (mustL t l x0 x1 y0 y1 sn))) := ⟨by rw [← hk]; exact HO.out⟩
            clear hk HO
            go_wp2
            go_ret2
            rw [ER.out]
            exact ⟨_, rfl, Kd.R_lower (Kd.R_of_own HO6.out (fun _ _ => trivial)) HB.out.size, HB.out.trans (BW.out.mono HB.out.size)⟩
def impl_MustPass.f (a0_0 : Int) (a0_1 : Int) (l0_2 : List (S82)) (a1_0 : Int) (a1_1 : Int) (a2_0 : Int) (a2_1 : Int) : Option (List Int × Int) :=
  if okNet a0_0 a0_1 l0_2 = true ∧ okScan ⟨a1_0, a1_1⟩ = true ∧ okScan ⟨a2_0, a2_1⟩ = true then some (mustRes a0_0 a0_1 l0_2 ⟨a1_0, a1_1⟩ ⟨a2_0, a2_1⟩) else none
theorem impl_MustPass.calls (a0_0 : Int) (a0_1 : Int) (A0_2 : Option Addr) (c0_2 : Nat) (l0_2 : List (S82)) (a1_0 : Int) (a1_1 : Int) (a2_0 : Int) (a2_1 : Int) (r1 : List Int) (r2 : Int) (w : World) (hr0_2 : Kd.C k82 w A0_2 l0_2.length l0_2) (hc0_2 : l0_2.length ≤ c0_2) (h : impl_MustPass.f a0_0 a0_1 l0_2 a1_0 a1_1 a2_0 a2_1 = some (r1, r2)) :
    Calls Try.prog 49 #[.agg #[.int .i8 a0_0, .int .i16 a0_1, .slice A0_2 l0_2.length c0_2], .agg #[.int .i8 a1_0, .int .i16 a1_1], .agg #[.int .i8 a2_0, .int .i16 a2_1]] w fun e w' => ∃ v0_ : Value, e = .returned (.tuple #[v0_, .int .i64 r2]) ∧ Kd.R (Kd.int .i64) 2 w' w.heap.size (fun _ => True) v0_ r1 ∧ Below w.heap.size w w' := by
  unfold impl_MustPass.f at h
  split at h
  · injection h with h
    have h1 : (mustRes a0_0 a0_1 l0_2 ⟨a1_0, a1_1⟩ ⟨a2_0, a2_1⟩).1 = r1 := by rw [h]
    have h2 : (mustRes a0_0 a0_1 l0_2 ⟨a1_0, a1_1⟩ ⟨a2_0, a2_1⟩).2 = r2 := by rw [h]
    rw [← h1, ← h2]
    rename_i hh
    exact MustPass_any _ _ _ _ _ _ _ _ _ w hr0_2 hc0_2 hh.1 hh.2.1 hh.2.2
  · cases h
end Go.Proofs.Ytgchiepnodoohaa.Q
