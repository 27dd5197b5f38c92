/- impl's daysCode and CheckMatches. -/
import Derived.Test.YtennlgkacijnnaaHChecks
import Derived.Test.YtennlgkacijnnaaHSort
import Derived.Deep.OwnRows
import Derived.Deep.RegionHeldLaw
import Derived.Deep.MidRow
import Derived.Lib.QuietBelow
import Derived.StillTailTactics
set_option linter.unusedVariables false
set_option linter.unusedSimpArgs false
namespace Go.Proofs.Ytennlgkacijnnaa.Q
open Go.Sort (grow)
open Go.RowKit Go.Proofs.YtennlgkacijnnaaW.PrintWords Go.Proofs.YtennlgkacijnnaaW.PrintLast Go.Proofs.YtennlgkacijnnaaW.PrintMore
def daysC (l : List S75) (m : List S81) (days : Int) : Int := if (ordersB l && returnsB m) = true then (if inB days 0 1000 = true then 0 else 2) else 1
set_option maxHeartbeats 1000000 in
theorem daysCode_is (A : Option Addr) (c : Nat) (l : List S75) (A1 : Option Addr) (c1 : Nat) (m : List S81) (days : Int) (w : World) (hr : Kd.C k75 w A l.length l) (hc : l.length ≤ c) (hl : ∀ x ∈ l, okOrder x = true) (hr1 : Kd.C k81 w A1 m.length m) (hc1 : m.length ≤ c1) (hm : ∀ x ∈ m, okReturn x = true) :
    Calls Try.prog 85 #[.slice A l.length c, .slice A1 m.length c1, .int .i64 days] w fun e w' => e = .returned (.int .i64 (daysC l m days)) ∧ Below w.heap.size w w' := by
  have HR := Aside0.mk hr
  have HR1 := Aside0.mk hr1
  have HL := Aside0.mk hl
  have HM := Aside0.mk hm
  have E : Aside0 (daysC l m days = if (ordersB l && returnsB m) = true then (if inB days 0 1000 = true then 0 else 2) else 1) := ⟨rfl⟩
  clear hr hr1 hl hm
  go_enter Try.func85, Try.ntmps85
  go_wp2_with fail
  refine (ValidOrders_any A c l _ HR.out hc HL.out).mono ?_
  rintro e w1 ⟨rfl, hb⟩
  have H1 := Aside0.mk hb
  clear hb
  cases ho : ordersB l with
  | false =>
    have ER : Aside0 (daysC l m days = 1) := ⟨by rw [E.out, ho]; rfl⟩
    clear ho
    go_wp2
    go_ret
    exact ⟨by rw [ER.out]; rfl, H1.out⟩
  | true =>
    have HO := Aside0.mk ho
    clear ho
    go_wp2_with fail
    refine (ValidReturns_any A1 c1 m _ (Kd.C_below HR1.out H1.out) hc1 HM.out).mono ?_
    rintro e w2 ⟨rfl, hb⟩
    have H2 : Aside0 (Below w.heap.size w w2) := ⟨H1.out.trans (hb.mono H1.out.size)⟩
    clear hb
    cases hr : returnsB m with
    | false =>
      have ER : Aside0 (daysC l m days = 1) := ⟨by rw [E.out, hr, Bool.and_false]; rfl⟩
      clear hr
      go_wp2
      go_ret
      exact ⟨by rw [ER.out]; rfl, H2.out⟩
    | true =>
      have ER : Aside0 (daysC l m days = if inB days 0 1000 = true then 0 else 2) := ⟨by rw [E.out, HO.out, hr]; rfl⟩
      clear hr
      go_wp2_with fail
      refine (within_is _ _ _ _ rfl _).mono ?_
      rintro e w3 ⟨rfl, rfl⟩
      go_wp2_with fail
      refine (unless_is _ _ _).mono ?_
      rintro e w3 ⟨rfl, rfl⟩
      generalize (if inB days 0 1000 = true then (0 : Int) else 2) = z at *
      go_wp2
      go_ret
      exact ⟨by rw [ER.out]; rfl, H2.out⟩
theorem infoI64' : (Try.prog.info? 2).map (fun i => (i.zero, i.size, i.bytes)) = some (some (.int .i64 0), 1, 8) := by kernel_rfl
theorem madeI (n : Nat) : madeCells #[.int .i64 0] n = (nums .i64 (List.replicate n 0)).toArray := by
  apply Array.ext'
  apply List.ext_getElem
  · simp [nums, madeCells]
  · intro i h1 h2
    simp [nums, madeCells, Nat.mod_one]
theorem RowI.made (w : World) (b n : Nat) (hb : b = w.heap.size) : RowI (w.alloc (.cells (madeCells #[.int .i64 0] n) 2)) b (List.replicate n 0) := ⟨by
  subst hb
  rw [madeI]
  exact heap_alloc_new w _⟩
theorem chk_call1 {V W W2 : World} (h : Below V.heap.size V W) (hb : Below W.heap.size W W2) : Below V.heap.size V W2 := h.trans (hb.mono h.size)
theorem below_step0 {W W2 : World} {n : Nat} (h : Below (W.drewN n).heap.size (W.drewN n) W2) : Below W.heap.size W W2 := (pw_below_drewN (Below.refl _ _) n).trans h
theorem cells3 {V W : World} {p0 p1 p2 : Addr} {v0 v1 v2 : Value} (q0 : V.cell? p0 = some v0) (q1 : V.cell? p1 = some v1) (q2 : V.cell? p2 = some v2) (hB : Below V.heap.size V W) : W.cell? p0 = some v0 ∧ W.cell? p1 = some v1 ∧ W.cell? p2 = some v2 ∧ Below V.heap.size V W := ⟨pw_cell_below hB q0, pw_cell_below hB q1, pw_cell_below hB q2, hB⟩
theorem cells12 {V W : World} {p0 p1 p2 p3 p4 p5 p6 p7 p8 p9 p10 p11 : Addr} {v0 v1 v2 v3 v4 v5 v6 v7 v8 v9 v10 v11 : Value} (q0 : V.cell? p0 = some v0) (q1 : V.cell? p1 = some v1) (q2 : V.cell? p2 = some v2) (q3 : V.cell? p3 = some v3) (q4 : V.cell? p4 = some v4) (q5 : V.cell? p5 = some v5) (q6 : V.cell? p6 = some v6) (q7 : V.cell? p7 = some v7) (q8 : V.cell? p8 = some v8) (q9 : V.cell? p9 = some v9) (q10 : V.cell? p10 = some v10) (q11 : V.cell? p11 = some v11) (hB : Below V.heap.size V W) :
    W.cell? p0 = some v0 ∧ W.cell? p1 = some v1 ∧ W.cell? p2 = some v2 ∧ W.cell? p3 = some v3 ∧ W.cell? p4 = some v4 ∧ W.cell? p5 = some v5 ∧ W.cell? p6 = some v6 ∧ W.cell? p7 = some v7 ∧ W.cell? p8 = some v8 ∧ W.cell? p9 = some v9 ∧ W.cell? p10 = some v10 ∧ W.cell? p11 = some v11 ∧ Below V.heap.size V W :=
  ⟨pw_cell_below hB q0, pw_cell_below hB q1, pw_cell_below hB q2, pw_cell_below hB q3, pw_cell_below hB q4, pw_cell_below hB q5, pw_cell_below hB q6, pw_cell_below hB q7, pw_cell_below hB q8, pw_cell_below hB q9, pw_cell_below hB q10, pw_cell_below hB q11, hB⟩
/-- The code of CheckMatches. -/
def checkC (l : List S75) (m : List S81) (days : Int) (ms : List S102) : Int := if daysC l m days = 0 then (if ms.length ≤ 100 then 0 else 3) else daysC l m days
/-- Whether a match cannot be, after those before it. -/
def badM (l : List S75) (m : List S81) (days : Int) (x : S102) : Bool :=
  decide (x.f2 < 1) || (!(inB x.f0 0 ((m.length : Int) - 1) && inB x.f1 0 ((l.length : Int) - 1)) || !canB (l.getD x.f1.toNat z75) (m.getD x.f0.toNat z81) days)
def addAt (xs : List Int) (i : Nat) (n : Int) : List Int := xs.set i (xs.getD i 0 + n)
theorem addAt_bd {xs : List Int} {i : Nat} {n : Int} (h : ∀ x ∈ xs, 0 ≤ x ∧ x ≤ 32767) (hn : 0 ≤ xs.getD i 0 + n ∧ xs.getD i 0 + n ≤ 32767) : ∀ x ∈ addAt xs i n, 0 ≤ x ∧ x ≤ 32767 := by
  intro x hx
  unfold addAt at hx
  rcases List.mem_or_eq_of_mem_set hx with h1 | h1
  · exact h x h1
  · rw [h1]; exact hn
/-- Whether the matches from place i on can be: what was given and sent so far. -/
def checkFrom (l : List S75) (m : List S81) (days : Int) (ms : List S102) : Nat → Nat → List Int → List Int → Bool
  | 0, _, _, _ => true
  | n + 1, i, gv, sv =>
    if ((ms.take i).any (sameM (ms.getD i z102).f0 (ms.getD i z102).f1) || badM l m days (ms.getD i z102)) = true then false
    else if (decide ((addAt gv (ms.getD i z102).f1.toNat (ms.getD i z102).f2).getD (ms.getD i z102).f1.toNat 0 > (l.getD (ms.getD i z102).f1.toNat z75).f2) || decide ((addAt sv (ms.getD i z102).f0.toNat (ms.getD i z102).f2).getD (ms.getD i z102).f0.toNat 0 > (m.getD (ms.getD i z102).f0.toNat z81).f2)) = true then false
    else checkFrom l m days ms n (i + 1) (addAt gv (ms.getD i z102).f1.toNat (ms.getD i z102).f2) (addAt sv (ms.getD i z102).f0.toNat (ms.getD i z102).f2)
def checkRes (l : List S75) (m : List S81) (days : Int) (ms : List S102) : Bool × Int :=
  if checkC l m days ms = 0 then (checkFrom l m days ms ms.length 0 (List.replicate l.length 0) (List.replicate m.length 0), 0) else (false, checkC l m days ms)
set_option maxHeartbeats 40000000 in
set_option maxRecDepth 100000 in
theorem CheckMatches_any (A : Option Addr) (c : Nat) (l : List S75) (A1 : Option Addr) (c1 : Nat) (m : List S81) (days : Int) (A2 : Option Addr) (c2 : Nat) (ms : List S102) (w : World) (hr : Kd.C k75 w A l.length l) (hc : l.length ≤ c) (hl : ∀ x ∈ l, okOrder x = true) (hll : l.length ≤ 1048576)
    (hr1 : Kd.C k81 w A1 m.length m) (hc1 : m.length ≤ c1) (hm : ∀ x ∈ m, okReturn x = true) (hml : m.length ≤ 1048576) (hr2 : Kd.C k102 w A2 ms.length ms) (hc2 : ms.length ≤ c2) (hs : ∀ x ∈ ms, okMatch x = true) (hsl : ms.length ≤ 1048576) :
    Calls Try.prog 36 #[.slice A l.length c, .slice A1 m.length c1, .int .i64 days, .slice A2 ms.length c2] w fun e w' => e = .returned (.tuple #[.bool (checkRes l m days ms).1, .int .i64 (checkRes l m days ms).2]) ∧ Below w.heap.size w w' := by
  have HR := Aside0.mk hr
  have HR1 := Aside0.mk hr1
  have HR2 := Aside0.mk hr2
  have HL := Aside0.mk hl
  have HM := Aside0.mk hm
  have HS := Aside0.mk hs
  clear hr hr1 hr2 hl hm hs
  have ENE : Aside0 (checkC l m days ms ≠ 0 → checkRes l m days ms = (false, checkC l m days ms)) := ⟨fun h => by unfold checkRes; rw [if_neg h]⟩
  have EEQ : Aside0 (checkC l m days ms = 0 → checkRes l m days ms = (checkFrom l m days ms ms.length 0 (List.replicate l.length 0) (List.replicate m.length 0), 0)) := ⟨fun h => by unfold checkRes; rw [if_pos h]⟩
  have ECC : Aside0 (checkC l m days ms = if daysC l m days = 0 then (if ms.length ≤ 100 then 0 else 3) else daysC l m days) := ⟨rfl⟩
  go_enter Try.func36, Try.ntmps36
  go_wp2_with fail
  refine (daysCode_is A c l A1 c1 m days _ HR.out hc HL.out HR1.out hc1 HM.out).mono ?_
  rintro e w1 ⟨rfl, hb⟩
  have H1 := Aside0.mk hb
  clear hb
  by_cases hd : daysC l m days = 0
  · have EC2 : Aside0 (checkC l m days ms = if ms.length ≤ 100 then 0 else 3) := ⟨by rw [ECC.out, if_pos hd]⟩
    rw [hd]
    clear hd
    go_wp2_with fail
    refine (unless_is _ _ _).mono ?_
    rintro e w2 ⟨rfl, rfl⟩
    by_cases h100 : ms.length ≤ 100
    · have ER := Aside0.mk (EEQ.out (by rw [EC2.out, if_pos h100]))
      have h100z : (ms.length : Int) ≤ 100 := by omega
      have hdd : decide ((ms.length : Int) ≤ 100) = true := decide_eq_true h100z
      try rw [hdd]
      try rw [if_pos rfl]
      have hmk1 := fun W => run_make_row' (P := Try.prog) 58 2 (.int .i64 0) 8 Try.underlying58 infoI64' rfl .i64 .i64 l.length (by omega) (by omega) W
      have hmk2 := fun W => run_make_row' (P := Try.prog) 58 2 (.int .i64 0) 8 Try.underlying58 infoI64' rfl .i64 .i64 m.length (by omega) (by omega) W
      go_wp2
      go_cut [11, 12] from 29 to 34 (fun v11 v12 wx => ∃ g1 g2, v11 = .slice (some ⟨g1, 0, none⟩) l.length l.length ∧ v12 = .slice (some ⟨g2, 0, none⟩) m.length m.length ∧ g1 ≠ g2 ∧ w1.heap.size ≤ g1 ∧ w1.heap.size ≤ g2 ∧ Aside0 (RowI wx g1 (List.replicate l.length 0)) ∧ Aside0 (RowI wx g2 (List.replicate m.length 0)) ∧ Aside0 (Below w1.heap.size w1 wx))
      case first =>
        --[S
        go_region
        all_goals
          go_wp2_with fail
          go_meet
          first
            | exact ⟨w1.heap.size, w1.heap.size + 1, rfl, rfl, by omega, by omega, by omega, ⟨((RowI.made w1 _ _ rfl).alloc _).drew⟩, ⟨(RowI.made (w1.alloc (.cells (madeCells #[.int .i64 0] l.length) 2)) (w1.heap.size + 1) _ (by simp)).drew⟩, ⟨(((Below.refl _ _).alloc (Nat.le_refl _) _).alloc (by simp) _).drew⟩⟩
            | exact ⟨w1.heap.size + 1, w1.heap.size, rfl, rfl, by omega, by omega, by omega, ⟨(RowI.made (w1.alloc (.cells (madeCells #[.int .i64 0] m.length) 2)) (w1.heap.size + 1) _ (by simp)).drew⟩, ⟨((RowI.made w1 _ _ rfl).alloc _).drew⟩, ⟨(((Below.refl _ _).alloc (Nat.le_refl _) _).alloc (by simp) _).drew⟩⟩
        --S]
      case rest =>
        obtain ⟨g1, g2, rfl, rfl, hne, hg1, hg2, HG1, HG2, HX⟩ := hcut
        clear hmk1 hmk2
        have hb1 : Aside0 (Below w.heap.size w wc) := ⟨H1.out.trans (HX.out.mono H1.out.size)⟩
        go_wp2
        go_loopg [37] ms.length (fun gg v37 wr => ∃ (i : Nat) (gv sv : List Int), i ≤ ms.length ∧ ms.length - i ≤ gg ∧ v37 = .int .i64 i ∧ gv.length = l.length ∧ sv.length = m.length ∧ (∀ x ∈ gv, 0 ≤ x ∧ x ≤ 32767) ∧ (∀ x ∈ sv, 0 ≤ x ∧ x ≤ 32767) ∧ Aside0 (RowI wr g1 gv) ∧ Aside0 (RowI wr g2 sv) ∧ Aside0 (Below w1.heap.size w1 wr) ∧ Aside0 (checkFrom l m days ms (ms.length - i) i gv sv = checkFrom l m days ms ms.length 0 (List.replicate l.length 0) (List.replicate m.length 0)))
        case atStart => exact ⟨0, _, _, by omega, by omega, rfl, by simp, by simp, by intro x hx; rw [List.mem_replicate] at hx; omega, by intro x hx; rw [List.mem_replicate] at hx; omega, HG1, HG2, HX, ⟨rfl⟩⟩
        case round =>
          obtain ⟨i, gv, sv, hi, hgg, rfl, hgl, hsl2, hgv, hsv, HG1, HG2, HX, HA⟩ := hrel
          have hb2 : Aside0 (Below w.heap.size w wr) := ⟨H1.out.trans (HX.out.mono H1.out.size)⟩
          by_cases hlt : i < ms.length
          · have hltz : (i : Int) < (ms.length : Int) := by omega
            obtain ⟨ad, e, hx0, hx1, hx2⟩ := at_T102 (Kd.C_below HR2.out hb2.out) (i : Int) (by omega) hltz
            have hmem : ms.getD i z102 ∈ ms := by rw [List.getD_eq_getElem?_getD, List.getElem?_eq_getElem hlt]; exact List.getElem_mem hlt
            have hbd := okMatch_iff.1 (HS.out _ hmem)
            have HC : Aside0 (checkFrom l m days ms ms.length 0 (List.replicate l.length 0) (List.replicate m.length 0) = checkFrom l m days ms ((ms.length - (i + 1)) + 1) i gv sv) := ⟨by rw [← HA.out]; congr 1; omega⟩
            have hun : checkFrom l m days ms ((ms.length - (i + 1)) + 1) i gv sv = (if ((ms.take i).any (sameM (ms.getD i z102).f0 (ms.getD i z102).f1) || badM l m days (ms.getD i z102)) = true then false
    else if (decide ((addAt gv (ms.getD i z102).f1.toNat (ms.getD i z102).f2).getD (ms.getD i z102).f1.toNat 0 > (l.getD (ms.getD i z102).f1.toNat z75).f2) || decide ((addAt sv (ms.getD i z102).f0.toNat (ms.getD i z102).f2).getD (ms.getD i z102).f0.toNat 0 > (m.getD (ms.getD i z102).f0.toNat z81).f2)) = true then false
    else checkFrom l m days ms (ms.length - (i + 1)) (i + 1) (addAt gv (ms.getD i z102).f1.toNat (ms.getD i z102).f2) (addAt sv (ms.getD i z102).f0.toNat (ms.getD i z102).f2)) := rfl
            simp only [rd_T102, Int.toNat_natCast] at hx0 hx1 hx2
            subst e
            generalize ms.getD i z102 = y at hx0 hx1 hx2 hbd hun
            obtain ⟨a, b, n⟩ := y
            simp only at hx0 hx1 hx2 hbd hun
            obtain ⟨a0, a1, b0, b1, n0, n1⟩ := hbd
            have HUN := Aside0.mk hun
            clear hun HA
            have eg := enters_of Try.func87 (by kernel_rfl) rfl
            have hti : (ms.take i).length = i := by rw [List.length_take]; omega
            have hic : (i : Int) ≤ (c2 : Int) := by omega
            obtain ⟨W5, hW5⟩ : ∃ W5, W5 = wr.alloc (.cells #[.int .i8 a, .int .i8 b, .int .i16 n] 102) := ⟨_, rfl⟩
            have k0 : W5.cell? ⟨wr.heap.size, 0, none⟩ = some (.int .i8 a) := by rw [hW5]; go_simp
            have k1 : W5.cell? ⟨wr.heap.size, 1, none⟩ = some (.int .i8 b) := by rw [hW5]; go_simp
            have k2 : W5.cell? ⟨wr.heap.size, 2, none⟩ = some (.int .i16 n) := by rw [hW5]; go_simp
            have hk : wr.heap.size < W5.heap.size := by rw [hW5]; simp
            have HB5 : Aside0 (Below wr.heap.size wr W5) := ⟨by rw [hW5]; exact (Below.refl _ _).alloc (Nat.le_refl _) _⟩
            have hcon := containsFunc_Match 87 #[.pointer (some ⟨wr.heap.size, 0, none⟩)] eg (sameM a b) (some ad) c2 (ms.take i) W5 (Kd.C_take (Kd.C_below (Kd.C_below HR2.out hb2.out) HB5.out) (by omega)) (by omega) (twice_pred wr.heap.size a b _ W5 hk k0 k1)
            rw [hti] at hcon
            have HCON := Aside0.mk hcon
            have K0 := Aside0.mk k0
            have K1 := Aside0.mk k1
            have K2 := Aside0.mk k2
            have HW5 := Aside0.mk hW5
            clear hcon hti k0 k1 k2 hW5
            go_wp2_with fail
            rw [← HW5.out]
            refine HCON.out.mono ?_
            rintro e w5 ⟨rfl, hb5⟩
            have H5 := Aside0.mk (HB5.out.trans (hb5.mono HB5.out.size))
            have hk5 : wr.heap.size < w5.heap.size := Nat.lt_of_lt_of_le hk hb5.size
            have k0 := pw_cell_below hb5 K0.out
            have k1 := pw_cell_below hb5 K1.out
            have k2 := pw_cell_below hb5 K2.out
            have G1 : Aside0 (RowI w5 g1 gv) := ⟨HG1.out.below H5.out HG1.out.lt⟩
            have G2 : Aside0 (RowI w5 g2 sv) := ⟨HG2.out.below H5.out HG2.out.lt⟩
            have HX5 : Aside0 (Below w1.heap.size w1 w5) := ⟨HX.out.trans (H5.out.mono HX.out.size)⟩
            have hb6 : Aside0 (Below w.heap.size w w5) := ⟨H1.out.trans (HX5.out.mono H1.out.size)⟩
            have hg1r : g1 < wr.heap.size := HG1.out.lt
            have hg2r : g2 < wr.heap.size := HG2.out.lt
            clear hb5 K0 K1 K2 HW5 HCON hx0 hx1 hx2 HG1 HG2 HB5
            cases htw : (ms.take i).any (sameM a b) with
            | true =>
              --[S
              have EF : Aside0 (checkRes l m days ms = (false, 0)) := ⟨by rw [ER.out, HC.out, HUN.out, htw]; rfl⟩
              clear htw
              go_wp2_with fail
              go_quiet (fail)
              go_wp2
              go_ret2
              rw [EF.out]
              exact ⟨rfl, by first | exact hb6.out | exact pw_below_drewN hb6.out _⟩
              --S]
            | false =>
              have HTW := Aside0.mk htw
              clear htw
              by_cases hn : n < 1
              ·
                --[S
                have EF : Aside0 (checkRes l m days ms = (false, 0)) := ⟨by rw [ER.out, HC.out, HUN.out, HTW.out]; simp [badM, hn]⟩
                have hnz : decide (n < 1) = true := decide_eq_true hn
                go_wp2_with fail
                go_quiet (fail)
                go_wp2
                go_ret2
                rw [EF.out]
                exact ⟨rfl, by first | exact hb6.out | exact pw_below_drewN hb6.out _⟩
                --S]
              · have hnz : decide (n < 1) = false := decide_eq_false hn
                cases hin : (inB a 0 ((m.length : Int) - 1) && inB b 0 ((l.length : Int) - 1)) with
                | false =>
                  --[S
                  have hbm : badM l m days ⟨a, b, n⟩ = true := by
                    show (decide (n < 1) || (!(inB a 0 ((m.length : Int) - 1) && inB b 0 ((l.length : Int) - 1)) || _)) = true
                    rw [hin]
                    simp
                  have EF : Aside0 (checkRes l m days ms = (false, 0)) := ⟨by rw [ER.out, HC.out, HUN.out, HTW.out, hbm]; rfl⟩
                  clear hbm
                  obtain ⟨z, hz⟩ : ∃ z : Bool, z = false := ⟨_, rfl⟩
                  have hz1 : (!z) = true := by rw [hz]; rfl
                  have HAI : Aside0 (∀ W, Calls Try.prog 81 #[.agg #[.int .i8 a, .int .i8 b, .int .i16 n], .slice A l.length c, .slice A1 m.length c1] W fun e w' => e = .returned (.bool z) ∧ Below W.heap.size W w') := ⟨fun W => by rw [hz, ← hin]; exact areIndices_is a b n A l.length c A1 m.length c1 W hll hml a0 a1 b0 b1⟩
                  clear hin hz
                  have cA : ∀ d os, Calls Try.prog 81 #[.agg #[.int .i8 a, .int .i8 b, .int .i16 n], .slice A l.length c, .slice A1 m.length c1] (grow (redrawn w5 d) os) fun e w'' => e = .returned (.bool z) ∧ ∃ p : Regrown, w'' = grow (redrawn w5 p.d) p.os := fun d os => Calls.regrown_of (HAI.out _)
                  have k0' := cell_regrown k0
                  have k1' := cell_regrown k1
                  have k2' := cell_regrown k2
                  clear k0 k1 k2
                  go_wp2_with fail
                  refine wp_region_quiet_below (by kernel_rfl) (by kernel_rfl) (WQ.out ?_)
                  iterate 10 (refine WQ.step (fun K hK => ?_); go_simp; refine hK _ ?_; clear hK K)
                  refine WQ.step (fun K hK => ?_)
                  go_simp
                  apply Exists.intro
                  refine ⟨fun _ => ?_, hK _ ?_⟩
                  ((go_at_call 81; with_reducible exact cA _ _))
                  clear hK K
                  iterate 17 (refine WQ.step (fun K hK => ?_); go_simp; refine hK _ ?_; clear hK K)
                  --CUT24
                  refine WQ.nil ?_
                  intro _ hw'
                  obtain ⟨⟨dq, osq⟩, hw''⟩ := hw'
                  subst hw''
                  go_wp2
                  go_ret2
                  rw [EF.out]
                  exact ⟨rfl, hb6.out.trans ((below_regrown w5 dq osq).mono hb6.out.size)⟩
                  --S]
                | true =>
                  have HIN := Aside0.mk hin
                  have hin2 := hin
                  simp only [Bool.and_eq_true, inB_true] at hin2
                  obtain ⟨⟨ha0, ha1⟩, hb0, hb1⟩ := hin2
                  have HAI : Aside0 (∀ W, Calls Try.prog 81 #[.agg #[.int .i8 a, .int .i8 b, .int .i16 n], .slice A l.length c, .slice A1 m.length c1] W fun e w' => e = .returned (.bool true) ∧ Below W.heap.size W w') := ⟨fun W => by rw [← hin]; exact areIndices_is a b n A l.length c A1 m.length c1 W hll hml a0 a1 b0 b1⟩
                  clear hin
                  obtain ⟨ado, eo, o0, o1, o2, o3, o4⟩ := at_T75 (Kd.C_below HR.out hb6.out) b hb0 (by omega)
                  obtain ⟨adr, er, r0, r1, r2, r3⟩ := at_T81 (Kd.C_below HR1.out hb6.out) a ha0 (by omega)
                  have hmo : l.getD b.toNat z75 ∈ l := by rw [List.getD_eq_getElem?_getD, List.getElem?_eq_getElem (by omega)]; exact List.getElem_mem (by omega)
                  have hmr : m.getD a.toNat z81 ∈ m := by rw [List.getD_eq_getElem?_getD, List.getElem?_eq_getElem (by omega)]; exact List.getElem_mem (by omega)
                  have hbo := okOrder_iff.1 (HL.out _ hmo)
                  have hbr := okReturn_iff.1 (HM.out _ hmr)
                  simp only [rd_T75] at o0 o1 o2 o3 o4
                  simp only [rd_T81] at r0 r1 r2 r3
                  subst eo
                  subst er
                  have hbad : badM l m days ⟨a, b, n⟩ = !canB (l.getD b.toNat z75) (m.getD a.toNat z81) days := by
                    show (decide (n < 1) || (!(inB a 0 ((m.length : Int) - 1) && inB b 0 ((l.length : Int) - 1)) || !canB (l.getD b.toNat z75) (m.getD a.toNat z81) days)) = _
                    rw [HIN.out, hnz]
                    simp
                  have HUN2 := Aside0.mk (HTW.out ▸ hbad ▸ HUN.out)
                  clear hbad HUN hmo hmr
                  obtain ⟨yo, hyo⟩ : ∃ yo, l.getD b.toNat z75 = yo := ⟨_, rfl⟩
                  obtain ⟨yr, hyr⟩ : ∃ yr, m.getD a.toNat z81 = yr := ⟨_, rfl⟩
                  rw [hyo] at o0 o1 o2 o3 o4 hbo HUN2
                  rw [hyr] at r0 r1 r2 r3 hbr HUN2
                  have HYO := Aside0.mk hyo
                  have HYR := Aside0.mk hyr
                  clear hyo hyr
                  obtain ⟨oa, ob, on, op, od⟩ := yo
                  obtain ⟨ra, rb, rn, rd⟩ := yr
                  have hcan := canMatch_is oa ob on op od ra rb rn rd days
                  have cA : ∀ d os, Calls Try.prog 81 #[.agg #[.int .i8 a, .int .i8 b, .int .i16 n], .slice (some ado) l.length c, .slice (some adr) m.length c1] (grow (redrawn w5 d) os) fun e w'' => e = .returned (.bool true) ∧ ∃ p : Regrown, w'' = grow (redrawn w5 p.d) p.os := fun d os => Calls.regrown_of (HAI.out _)
                  have cM : ∀ d os, Calls Try.prog 88 #[.agg #[.int .i8 oa, .int .i8 ob, .int .i16 on, .int .i16 op, .int .i16 od], .agg #[.int .i8 ra, .int .i8 rb, .int .i16 rn, .int .i16 rd], .int .i64 days] (grow (redrawn w5 d) os) fun e w'' => e = .returned (.bool (canB ⟨oa, ob, on, op, od⟩ ⟨ra, rb, rn, rd⟩ days)) ∧ ∃ p : Regrown, w'' = grow (redrawn w5 p.d) p.os := fun d os => Calls.regrown_of (hcan _ (by simp only at hbo; omega) (by simp only at hbo; omega) (by simp only at hbr; omega) (by simp only at hbr; omega))
                  simp only at o0 o1 o2 o3 o4 r0 r1 r2 r3 HUN2
                  have k0' := cell_regrown k0
                  have k1' := cell_regrown k1
                  have k2' := cell_regrown k2
                  have o0' := cell_regrown o0
                  have o1' := cell_regrown o1
                  have o2' := cell_regrown o2
                  have o3' := cell_regrown o3
                  have o4' := cell_regrown o4
                  have r0' := cell_regrown r0
                  have r1' := cell_regrown r1
                  have r2' := cell_regrown r2
                  have r3' := cell_regrown r3
                  have ha2 : a < (m.length : Int) := by omega
                  have hb2' : b < (l.length : Int) := by omega
                  clear k0 k1 k2 o0 o1 o2 o3 o4 r0 r1 r2 r3 hcan
                  --CUT1
                  go_wp2_with fail
                  --CUT2
                  refine wp_region_quiet_below (by kernel_rfl) (by kernel_rfl) ?_
                  --CUT3
                  repeat (quiet_step (first | (go_at_call 81; with_reducible exact cA _ _) | (go_at_call 88; with_reducible exact cM _ _)))
                  refine wpQuiet_nil ?_
                  intro _ hw'
                  obtain ⟨⟨dq, osq⟩, hw''⟩ := hw'
                  subst hw''
                  --CUT4
                  have k0 := k0' dq osq
                  have k1 := k1' dq osq
                  have k2 := k2' dq osq
                  have o2 := o2' dq osq
                  have r2 := r2' dq osq
                  have hb7 := below_regrown w5 dq osq
                  clear k0' k1' k2' o0' o1' o2' o3' o4' r0' r1' r2' r3' cA cM
                  generalize grow (redrawn w5 dq) osq = w6 at *
                  have hb8 : Aside0 (Below w.heap.size w w6) := ⟨hb6.out.trans (hb7.mono hb6.out.size)⟩
                  have HX7 : Aside0 (Below w1.heap.size w1 w6) := ⟨HX5.out.trans (hb7.mono HX5.out.size)⟩
                  have G1 : Aside0 (RowI w6 g1 gv) := ⟨G1.out.below hb7 G1.out.lt⟩
                  have G2 : Aside0 (RowI w6 g2 sv) := ⟨G2.out.below hb7 G2.out.lt⟩
                  have hk6 : wr.heap.size < w6.heap.size := Nat.lt_of_lt_of_le hk5 hb7.size
                  clear hb7
                  cases hcm : canB ⟨oa, ob, on, op, od⟩ ⟨ra, rb, rn, rd⟩ days with
                  | false =>
                    have EF : Aside0 (checkRes l m days ms = (false, 0)) := ⟨by rw [ER.out, HC.out, HUN2.out, hcm]; rfl⟩
                    clear hcm
                    go_wp2
                    go_ret2
                    rw [EF.out]
                    exact ⟨rfl, hb8.out⟩
                  | true =>
                    have HUN3 := Aside0.mk (hcm ▸ HUN2.out)
                    clear hcm HUN2
                    --CUT5
                    have gb : 0 ≤ gv.getD b.toNat 0 ∧ gv.getD b.toNat 0 ≤ 32767 := by
                      rw [List.getD_eq_getElem?_getD, List.getElem?_eq_getElem (by omega)]
                      exact hgv _ (List.getElem_mem (by omega))
                    have sb : 0 ≤ sv.getD a.toNat 0 ∧ sv.getD a.toNat 0 ≤ 32767 := by
                      rw [List.getD_eq_getElem?_getD, List.getElem?_eq_getElem (by omega)]
                      exact hsv _ (List.getElem_mem (by omega))
                    have x1 := G1.out.cell b.toNat (by omega)
                    have y1 := G1.out.frozen b.toNat
                    obtain ⟨gb0, hgb0⟩ : ∃ x, gv.getD b.toNat 0 = x := ⟨_, rfl⟩
                    obtain ⟨sb0, hsb0⟩ : ∃ x, sv.getD a.toNat 0 = x := ⟨_, rfl⟩
                    rw [hgb0] at gb x1
                    rw [hsb0] at sb
                    have e1 : IntKind.i64.wrap n = n := IntWalk.i64_in _ (by omega)
                    have e2 : IntKind.i64.wrap (gb0 + n) = gb0 + n := IntWalk.i64_in _ (by omega)
                    have e3 : IntKind.i64.wrap (sb0 + n) = sb0 + n := IntWalk.i64_in _ (by omega)
                    have GB := Aside0.mk gb
                    have SB := Aside0.mk sb
                    have HGB := Aside0.mk hgb0
                    have HSB := Aside0.mk hsb0
                    clear gb sb hgb0 hsb0
                    --CUT6
                    go_wp2_with fail
                    --CUT7
                    go_still_tail 10, (by kernel_rfl)
                    change wpList _ _ _ _ _ w6.drew
                    --CUT8
                    obtain ⟨w7, hw7⟩ : ∃ w7, w7 = (w6.setCell ⟨g1, b.toNat, none⟩ (.int .i64 (gb0 + n))).drew := ⟨_, rfl⟩
                    have G1' : Aside0 (RowI w7 g1 (addAt gv b.toNat n)) := ⟨by rw [hw7]; unfold addAt; rw [HGB.out]; exact (G1.out.set _ _).drew⟩
                    have G2' : Aside0 (RowI w7 g2 sv) := ⟨by rw [hw7]; exact (G2.out.other (Ne.symm hne)).drew⟩
                    have HX8 : Aside0 (Below w1.heap.size w1 w7) := ⟨by rw [hw7]; exact (HX7.out.setCell (by exact hg1) _).drew⟩
                    have k0' : w7.cell? ⟨wr.heap.size, 0, none⟩ = some (.int .i8 a) := by rw [hw7]; exact (World.cell?_setCell_far _ _ _ _ (show g1 ≠ wr.heap.size by omega)).trans k0
                    have k2' : w7.cell? ⟨wr.heap.size, 2, none⟩ = some (.int .i16 n) := by rw [hw7]; exact (World.cell?_setCell_far _ _ _ _ (show g1 ≠ wr.heap.size by omega)).trans k2
                    have k1' : w7.cell? ⟨wr.heap.size, 1, none⟩ = some (.int .i8 b) := by rw [hw7]; exact (World.cell?_setCell_far _ _ _ _ (show g1 ≠ wr.heap.size by omega)).trans k1
                    have HW7 := Aside0.mk hw7
                    clear hw7
                    go_wp2_with fail
                    rw [← HW7.out]
                    clear HW7 k0 k1 k2 x1 y1 e2 G1 G2
                    have x2 := G2'.out.cell a.toNat (by omega)
                    rw [HSB.out] at x2
                    have y2 := G2'.out.frozen a.toNat
                    --CUT9
                    go_still_tail 10, (by kernel_rfl)
                    change wpList _ _ _ _ _ w7.drew
                    obtain ⟨w8, hw8⟩ : ∃ w8, w8 = (w7.setCell ⟨g2, a.toNat, none⟩ (.int .i64 (sb0 + n))).drew := ⟨_, rfl⟩
                    have G1 : Aside0 (RowI w8 g1 (addAt gv b.toNat n)) := ⟨by rw [hw8]; exact (G1'.out.other hne).drew⟩
                    have G2 : Aside0 (RowI w8 g2 (addAt sv a.toNat n)) := ⟨by rw [hw8]; unfold addAt; rw [HSB.out]; exact (G2'.out.set _ _).drew⟩
                    have HX9 : Aside0 (Below w1.heap.size w1 w8) := ⟨by rw [hw8]; exact (HX8.out.setCell (by exact hg2) _).drew⟩
                    have k0 : w8.cell? ⟨wr.heap.size, 0, none⟩ = some (.int .i8 a) := by rw [hw8]; exact (World.cell?_setCell_far _ _ _ _ (show g2 ≠ wr.heap.size by omega)).trans k0'
                    have k1 : w8.cell? ⟨wr.heap.size, 1, none⟩ = some (.int .i8 b) := by rw [hw8]; exact (World.cell?_setCell_far _ _ _ _ (show g2 ≠ wr.heap.size by omega)).trans k1'
                    have HW8 := Aside0.mk hw8
                    clear hw8
                    go_wp2_with fail
                    rw [← HW8.out]
                    clear HW8 k0' k1' k2' x2 y2 e3 G1' G2'
                    --CUT10
                    have hb9 : Aside0 (Below w.heap.size w w8) := ⟨H1.out.trans (HX9.out.mono H1.out.size)⟩
                    have q1 : (addAt gv b.toNat n).getD b.toNat 0 = gb0 + n := by
                      unfold addAt
                      rw [HGB.out, List.getD_eq_getElem?_getD, List.getElem?_set_self (by omega)]
                      rfl
                    have q2 : (addAt sv a.toNat n).getD a.toNat 0 = sb0 + n := by
                      unfold addAt
                      rw [HSB.out, List.getD_eq_getElem?_getD, List.getElem?_set_self (by omega)]
                      rfl
                    have x3 := G1.out.cell b.toNat (by unfold addAt; rw [List.length_set]; omega)
                    have x4 := G2.out.cell a.toNat (by unfold addAt; rw [List.length_set]; omega)
                    rw [q1] at x3
                    rw [q2] at x4
                    obtain ⟨_, eo, _, _, o2, _, _⟩ := at_T75 (Kd.C_below HR.out hb9.out) b hb0 (by omega)
                    obtain ⟨_, er, _, _, r2, _⟩ := at_T81 (Kd.C_below HR1.out hb9.out) a ha0 (by omega)
                    injection eo with eo
                    injection er with er
                    subst eo
                    subst er
                    simp only [rd_T75, HYO.out] at o2
                    simp only [rd_T81, HYR.out] at r2
                    by_cases hv1 : on < gb0 + n
                    · have hd1 : decide (on < gb0 + n) = true := decide_eq_true hv1
                      have EF : Aside0 (checkRes l m days ms = (false, 0)) := ⟨by
                        rw [ER.out, HC.out, HUN3.out, q1, q2]
                        simp [hv1]⟩
                      go_wp2_with fail
                      go_quiet (fail)
                      go_wp2
                      go_ret2
                      rw [EF.out]
                      exact ⟨rfl, by first | exact hb9.out | exact pw_below_drewN hb9.out _⟩
                    · have hd1 : decide (on < gb0 + n) = false := decide_eq_false hv1
                      by_cases hv2 : rn < sb0 + n
                      · have hd2 : decide (rn < sb0 + n) = true := decide_eq_true hv2
                        have EF : Aside0 (checkRes l m days ms = (false, 0)) := ⟨by
                          rw [ER.out, HC.out, HUN3.out, q1, q2]
                          simp [hv1, hv2]⟩
                        go_wp2_with fail
                        go_quiet (fail)
                        go_wp2
                        go_ret2
                        rw [EF.out]
                        exact ⟨rfl, by first | exact hb9.out | exact pw_below_drewN hb9.out _⟩
                      · have hd2 : decide (rn < sb0 + n) = false := decide_eq_false hv2
                        have EF : Aside0 (checkFrom l m days ms (ms.length - (i + 1)) (i + 1) (addAt gv b.toNat n) (addAt sv a.toNat n) = checkFrom l m days ms ms.length 0 (List.replicate l.length 0) (List.replicate m.length 0)) := ⟨by
                          rw [HC.out, HUN3.out, q1, q2]
                          simp [hv1, hv2]⟩
                        go_wp2_with fail
                        go_quiet (fail)
                        go_wp2
                        go_roundg (ms.length - (i + 1))
                        case measure => omega
                        case rel => exact ⟨i + 1, addAt gv b.toNat n, addAt sv a.toNat n, by omega, by omega, by go_num, by unfold addAt; rw [List.length_set]; exact hgl, by unfold addAt; rw [List.length_set]; exact hsl2, addAt_bd hgv (by rw [HGB.out]; have := GB.out; (try simp only at hbo); omega), addAt_bd hsv (by rw [HSB.out]; have := SB.out; (try simp only at hbr); omega), ⟨G1.out.drewN _⟩, ⟨G2.out.drewN _⟩, ⟨pw_below_drewN HX9.out _⟩, EF⟩
          ·
            --[S
            have hltz : ¬ (i : Int) < (ms.length : Int) := by omega
            have hz : Aside0 (checkFrom l m days ms ms.length 0 (List.replicate l.length 0) (List.replicate m.length 0) = true) := ⟨by rw [← HA.out, show ms.length - i = 0 by omega]; rfl⟩
            clear HA
            go_wp2
            go_ret2
            rw [ER.out, hz.out]
            exact ⟨rfl, hb2.out⟩
            --S]
    · have ER := Aside0.mk (ENE.out (by rw [EC2.out, if_neg h100]; decide))
      have h100z : ¬ (ms.length : Int) ≤ 100 := by omega
      have hdd : decide ((ms.length : Int) ≤ 100) = false := decide_eq_false h100z
      have hcc : Aside0 (checkC l m days ms = 3) := ⟨by rw [EC2.out, if_neg h100]⟩
      try rw [hdd]
      go_wp2
      go_ret2
      rw [ER.out, hcc.out]
      exact ⟨rfl, H1.out⟩
  · have EC2 : Aside0 (checkC l m days ms = daysC l m days) := ⟨by rw [ECC.out, if_neg hd]⟩
    have ER := Aside0.mk (ENE.out (by rw [EC2.out]; exact hd))
    rw [EC2.out] at ER
    generalize daysC l m days = cd at *
    have h0 : (cd == 0) = false := beq_false_of_ne hd
    have h1 : (cd != 0) = true := bne_iff_ne.2 hd
    clear hd
    go_wp2
    go_ret2
    rw [ER.out]
    exact ⟨rfl, H1.out⟩
end Go.Proofs.Ytennlgkacijnnaa.Q
