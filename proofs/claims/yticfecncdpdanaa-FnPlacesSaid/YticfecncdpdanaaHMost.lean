/- impl's MostScans. -/
import Derived.Test.YticfecncdpdanaaHBad
import Derived.Test.YticfecncdpdanaaRowMore
import Derived.Test.YticfecncdpdanaaMA
import Derived.Test.YticfecncdpdanaaMD
import Derived.Deep.RegionHeldLaw
set_option linter.unusedVariables false
set_option linter.unusedSimpArgs false
namespace Go.Proofs.Yticfecncdpdanaa.Q
open Go.RowKit Go.Proofs.YticfecncdpdanaaW.PrintWords Go.Proofs.YticfecncdpdanaaW.PrintLast Go.Proofs.YticfecncdpdanaaW.PrintMore
open Go.Proofs.Yticfecncdpdanaa.Most (restSel bestL outL best_keep best_length)
/-- Whether scan k can be gone to from scan i. -/
@[irreducible] def goB (t : Int) (l : List S44) (ss : List S31) (i k : Nat) : Bool :=
  arrB t l (ss.getD i z31).f0.toNat (ss.getD i z31).f1.toNat (ss.getD k z31).f0.toNat (ss.getD k z31).f1.toNat
theorem goB_at {t : Int} {l : List S44} {ss : List S31} {i k a0 h0 b0 h1 : Nat} (h : ss.getD i z31 = ⟨a0, h0⟩) (h' : ss.getD k z31 = ⟨b0, h1⟩) : goB t l ss i k = arrB t l a0 h0 b0 h1 := by
  unfold goB
  rw [h, h']
  simp only [Int.toNat_natCast]
def mostRes (s t : Int) (l : List S44) (ss : List S31) : List Int × Int := coded (scansCodeB s t l ss) [] (outL (goB t l ss) ss.length ss.length)
theorem scan_at {ss : List S31} (h : ∀ x ∈ ss, ∃ a0 h0 : Nat, x = ⟨a0, h0⟩ ∧ a0 < 8 ∧ h0 < 301) (k : Nat) (hk : k < ss.length) : ∃ a0 h0 : Nat, ss.getD k z31 = ⟨a0, h0⟩ ∧ a0 < 8 ∧ h0 < 301 :=
  h _ (by rw [List.getD_eq_getElem?_getD, List.getElem?_eq_getElem hk]; exact List.getElem_mem _)
theorem restSel_le (B : Nat → List Int) (g : Nat → Bool) (lo n : Nat) (h : ∀ j, (B j).length ≤ n) : ∀ m, (restSel B g lo m).length ≤ n
  | 0 => by simp [restSel]
  | m + 1 => by
    rw [restSel]
    split
    · exact h _
    · exact restSel_le B g lo n h m
theorem best_le (go : Nat → Nat → Bool) (n : Nat) : ∀ d, d ≤ n → ∀ j, (bestL go n d j).length ≤ n := by
  intro d hd j
  by_cases hj : n - d ≤ j
  · by_cases hjn : j < n
    · rw [← best_keep go n d n hd (Nat.le_refl _) j hj]
      exact Nat.le_trans (best_length go n j hjn) (by omega)
    · have : ∀ d, d ≤ n → bestL go n d j = [] := by
        intro d
        induction d with
        | zero => intro _; rfl
        | succ d ih => intro hd; rw [bestL, if_neg (by omega), ih (by omega)]
      rw [this d hd]
      simp
  · have : ∀ d, d ≤ n → j < n - d → bestL go n d j = [] := by
      intro d
      induction d with
      | zero => intro _ _; rfl
      | succ d ih => intro hd hj; rw [bestL, if_neg (by omega), ih (by omega) (by omega)]
    rw [this d hd (by omega)]
    simp
theorem stT1 (w : World) {N : List Bool} (lN : N.length = 2408) : Sem.run Try.prog (storeCells ⟨w.heap.size, 0, none⟩ (bcells N).toList) (w.alloc (.cells (bcells noTimes) 67)) = .ok () (w.alloc (.cells (bcells N) 67)) := by
  rw [run_storeRow _ _ 67 noTimes N (row_at _ _ _ _ rfl) (by rw [noTimes_length, lN]), setRow_alloc_at _ _ _ _ _ rfl]
theorem stT2 (w : World) {N : List Bool} (lN : N.length = 2408) : Sem.run Try.prog (storeCells ⟨w.heap.size + 1, 0, none⟩ (bcells N).toList) ((w.alloc (.cells #[] 2)).alloc (.cells (bcells noTimes) 67)) = .ok () ((w.alloc (.cells #[] 2)).alloc (.cells (bcells N) 67)) := by
  have := stT1 (w.alloc (.cells #[] 2)) lN
  simpa using this
theorem stT3 (w : World) {N : List Bool} (lN : N.length = 2408) : Sem.run Try.prog (storeCells ⟨w.heap.size, 0, none⟩ (bcells N).toList) ((w.alloc (.cells (bcells noTimes) 67)).alloc (.cells #[] 2)) = .ok () ((w.alloc (.cells (bcells N) 67)).alloc (.cells #[] 2)) := by
  rw [run_storeRow _ _ 67 noTimes N ((RowAt.new _ _ rfl _ _).alloc _).out (by rw [noTimes_length, lN]), setRow_alloc_past _ _ _ _ (by simp), setRow_alloc_at _ _ _ _ _ rfl]
theorem below_undrewB {B : Nat} {V W : World} (h : Below B V.drew W) : Below B V W := ⟨h.os, h.tape, h.output, h.size, h.block⟩
theorem rowA {B : Nat} {w w7 : World} (h : Below B ((w.alloc (.cells #[] 2)).alloc (.cells (bcells noTimes) 67)) w7) (hB : w.heap.size + 1 < B) : RowAt w7 (w.heap.size + 1) 67 noTimes :=
  (RowAt.new _ _ (by simp) _ _).below h hB
theorem rowB {B : Nat} {w w7 : World} (h : Below B (w.alloc (.cells (bcells noTimes) 67)) w7) (hB : w.heap.size < B) : RowAt w7 w.heap.size 67 noTimes :=
  (RowAt.new _ _ rfl _ _).below h hB
theorem rowC {B : Nat} {w w7 : World} (h : Below B ((w.alloc (.cells (bcells noTimes) 67)).alloc (.cells #[] 2)) w7) (hB : w.heap.size < B) : RowAt w7 w.heap.size 67 noTimes :=
  ((RowAt.new _ _ rfl _ _).alloc _).below h hB
attribute [local go_sem] zcT noTimes_length setRow_alloc_at setRow_alloc_past bcells_set bcells_size List.length_set
set_option maxHeartbeats 40000000 in
set_option maxRecDepth 100000 in
theorem MostScans_any (s t : Int) (A : Option Addr) (c : Nat) (l : List S44) (A1 : Option Addr) (c1 : Nat) (ss : List S31) (w : World) (hr : Kd.C k44 w A l.length l) (hc : l.length ≤ c) (hok : okNet s t l = true)
    (hr1 : Kd.C k31 w A1 ss.length ss) (hc1 : ss.length ≤ c1) (hl1 : ss.length ≤ 1048576) (hsc : ∀ x ∈ ss, okScan x = true) :
    Calls Try.prog 22 #[.agg #[.int .i8 s, .int .i16 t, .slice A l.length c], .slice A1 ss.length c1] w fun e w' =>
      ∃ v : Value, e = .returned (.tuple #[v, .int .i64 (mostRes s t l ss).2]) ∧ Kd.R (Kd.int .i64) 2 w' w.heap.size (fun _ => True) v (mostRes s t l ss).1 ∧ Below w.heap.size w w' := by
  have HR := Aside0.mk hr
  have HR1 := Aside0.mk hr1
  have OK := Aside0.mk hok
  have HSC := Aside0.mk hsc
  clear hr hr1 hok hsc
  go_enter Try.func22, Try.ntmps22
  go_wp2_with fail
  refine (scansCode_is s t A c l A1 c1 ss _ (Kd.C_alloc HR.out _) hc OK.out (Kd.C_alloc HR1.out _) hc1 hl1 HSC.out).mono ?_
  rintro e w1 ⟨rfl, hb⟩
  have hb1 : Aside0 (Below w.heap.size w w1) := ⟨below_call hb⟩
  have hcl := Aside0.mk ((hb.cell (p := ⟨w.heap.size, 0, none⟩) (by simp)).trans (show _ = some (.int .i8 s) by go_simp))
  have hcm := Aside0.mk ((hb.cell (p := ⟨w.heap.size, 1, none⟩) (by simp)).trans (show _ = some (.int .i16 t) by go_simp))
  have hcn := Aside0.mk ((hb.cell (p := ⟨w.heap.size, 2, none⟩) (by simp)).trans (show _ = some (.slice A l.length c) by go_simp))
  have hw1 : w.heap.size < w1.heap.size := by have := hb.size; simp at this; omega
  clear hb
  by_cases h0 : scansCodeB s t l ss = 0
  · obtain ⟨h1, h2, h3⟩ := scansCodeB_zero h0
    obtain ⟨hl, hs1, hs8, ht0, ht1⟩ := laneV_of h1
    have HIN := Aside0.mk (scansIn_all hs8 h2)
    have HL := Aside0.mk hl
    have ER : Aside0 (mostRes s t l ss = (outL (goB t l ss) ss.length ss.length, 0)) := ⟨by unfold mostRes coded; rw [if_pos h0]⟩
    rw [h0]
    clear h0 h1 h2 hl
    obtain ⟨n, hn⟩ : ∃ n, ss.length = n := ⟨_, rfl⟩
    have HN := Aside0.mk hn
    rw [hn] at HR1 hc1 h3 ER ⊢
    have hmk := fun W => run_make_row' (P := Try.prog) 90 34 (.slice none 0 0) 24 Try.underlying90 infoSl rfl .i64 .i64 n (by omega) (by omega) W
    rw [madeSl n] at hmk
    clear hn hl1
    obtain ⟨mc, hmc⟩ : ∃ mc, (List.replicate n (Value.slice none 0 0)).toArray = mc := ⟨_, rfl⟩
    have HMC := Aside0.mk hmc
    rw [hmc] at hmk
    clear hmc
    have e0 : IntKind.i64.wrap ((n : Int) - 1) = (n : Int) - 1 := IntWalk.i64_in _ (by omega)
    go_wp2
    obtain ⟨b, hb⟩ : ∃ b, w1.heap.size = b := ⟨_, rfl⟩
    obtain ⟨W0, hW0⟩ : ∃ W0, W0 = (w1.alloc (.cells mc 34)).alloc (.cells #[] 2) := ⟨_, rfl⟩
    have HB0 : Aside0 (Below b w1 W0) := ⟨by rw [hW0, ← hb]; exact ((Below.refl _ _).alloc (Nat.le_refl _) _).alloc (by simp) _⟩
    have HRO : Aside0 (Rows W0 b (List.replicate n (.slice none 0 0)) (bestL (goB t l ss) n 0)) := ⟨Rows.start (by
      rw [hW0, HMC.out, ← hb]
      exact (Below.heap_alloc _ _ _ (by simp)).trans (heap_alloc_new w1 _)) (fun j => rfl)⟩
    have HOU : Aside0 (W0.ownsRow (b + 1) 2 1 (.slice (some ⟨b + 1, 0, none⟩) 0 0) (outL (goB t l ss) n 0).length (nums .i64 (outL (goB t l ss) n 0))) := ⟨by
      rw [hW0]
      exact own_lit0 (w1.alloc (.cells mc 34)) (b + 1) 2 (b + 1) (by simp [hb]) (by simp [hb])⟩
    have HBB := Aside0.mk hb
    simp only [hb] at hw1 ⊢
    rw [← hW0]
    clear hW0 hmk HMC hb
    --CUT1
    go_loopg [8, 9] n (fun gg v8 v9 wr => ∃ (d : Nat) (vs : List Value), d ≤ n ∧ n - d ≤ gg ∧ v9 = .int .i64 ((n : Int) - 1 - d) ∧ vs.length = n ∧ Aside0 (Rows wr b vs (bestL (goB t l ss) n d)) ∧ Aside0 (wr.ownsRow (b + 1) 2 1 v8 (outL (goB t l ss) n d).length (nums .i64 (outL (goB t l ss) n d))) ∧ Aside0 (Below b w1 wr))
    case atStart => exact ⟨0, _, by omega, by omega, by simp, by simp, HRO, HOU, HB0⟩
    case round =>
      obtain ⟨d, vs, hd, hgg, rfl, hvl, HRS, HO, BW⟩ := hrel
      by_cases hlt : d < n
      · obtain ⟨i, hi⟩ : ∃ i : Nat, n - 1 - d = i := ⟨_, rfl⟩
        have hiz : (n : Int) - 1 - d = (i : Int) := by omega
        have hin : i < n := by omega
        have HID : Aside0 (i = n - (d + 1)) := ⟨by omega⟩
        have HLO : Aside0 (i + 1 = n - d) := ⟨by omega⟩
        rw [hiz]
        have hge : (0 : Int) ≤ (i : Int) := by omega
        have hinz : (i : Int) < (n : Int) := by omega
        have HBS : Aside0 (Below w.heap.size w wr) := ⟨hb1.out.trans (BW.out.mono (by have := hb1.out.size; have := HBB.out; omega))⟩
        have d0 := (BW.out.cell (p := ⟨w.heap.size, 0, none⟩) hw1).trans hcl.out
        have d1 := (BW.out.cell (p := ⟨w.heap.size, 1, none⟩) hw1).trans hcm.out
        have d2 := (BW.out.cell (p := ⟨w.heap.size, 2, none⟩) hw1).trans hcn.out
        have HRr := Aside0.mk (Kd.C_below HR.out HBS.out)
        have HR1r := Aside0.mk (Kd.C_below HR1.out HBS.out)
        obtain ⟨ad, e, hx0, hx1⟩ := at_T31 HR1r.out (i : Int) (by omega) (by omega)
        obtain ⟨a0, h0, ha, ha0, hh0⟩ := scan_at HIN.out i (by rw [HN.out]; exact hin)
        simp only [rd_T31, Int.toNat_natCast] at hx0 hx1
        rw [ha] at hx0 hx1
        have HAT := Aside0.mk ha
        subst e
        clear ha
        simp only at hx0 hx1
        have hbr : Below wr.heap.size wr wr := Below.refl _ _
        have e1 : IntKind.i64.wrap ((i : Int) + 1) = ((i + 1 : Nat) : Int) := by rw [IntWalk.i64_in _ (by omega)]; omega
        have hs1 : i + 1 + d ≤ n := by omega
        have hs2 : n ≤ i + 1 + d := by omega
        clear hiz hi
        go_wp2
        --CUT2
        go_cut [10, 11] from 30 to 36 (fun v10 v11 wx => ∃ (A0 : Option Addr) (c0 g : Nat) (G : List Bool), v10 = .slice A0 0 c0 ∧ v11 = .pointer (some ⟨g, 0, none⟩) ∧ wr.heap.size ≤ g ∧ G.length = 2408 ∧ Aside0 (ArrT t l a0 h0 G) ∧ Aside0 (RowAt wx g 67 G) ∧ Aside0 (Below wr.heap.size wr wx))
        case first =>
          --CUT3
          go_region_held_law (fun w' => w'.cell? ⟨w.heap.size, 0, none⟩ = some (.int .i8 s) ∧ w'.cell? ⟨w.heap.size, 1, none⟩ = some (.int .i16 t) ∧ w'.cell? ⟨w.heap.size, 2, none⟩ = some (.slice A l.length c) ∧ w'.cell? (ad.add (i * 2)) = some (.int .i8 (a0 : Int)) ∧ w'.cell? ⟨(ad.add (i * 2)).block, (ad.add (i * 2)).off + 1, none⟩ = some (.int .i16 (h0 : Int)) ∧ Below wr.heap.size wr w')
            ((refine cells5 d0 d1 d2 hx0 hx1 ?_; (try go_split_ands); ((repeat (first | (with_reducible assumption) | (with_reducible apply Below.drew) | (with_reducible apply below_alloc2) | (refine below_setRow ?_ (by omega) _) | exact below_call2 (by assumption) hb7 | exact below_call2 (by repeat (with_reducible first | assumption | apply Below.drew | apply below_alloc2)) hb7)); done)))
            ((go_at_call 34; refine (all_is s t A c l a0 h0 _ (Kd.C_below HRr.out (by go_split_ands; repeat (with_reducible first | assumption | apply Below.drew | apply below_alloc2))) hc HL.out ht0 ht1 ha0 hh0).mono ?_; rintro e w7 ⟨N, lN, hN, rfl, hb7⟩; have hone := bcells_one N; have hsz1 : Option.map (fun x => x.size) (Try.prog.info? 67) = some (bcells N).toList.length := (by rw [Array.length_toList, bcells_size, lN]; exact sizeT); have hst1 := stT1 w7 lN; have hst2 := stT2 w7 lN; have hst3 := stT3 w7 lN; (try have hr4 : RowAt w7 (wr.heap.size + 1) 67 noTimes := (by first | (refine rowA hb7 ?_; first | omega | (simp; done) | (simp; omega) | fail) | (refine rowA (below_undrewB hb7) ?_; first | omega | (simp; done) | (simp; omega) | fail) | fail)); (try have hst4 := run_storeRow w7 _ 67 noTimes N hr4.out (noTimes_length.trans lN.symm)); (try have hr5 : RowAt w7 (wr.heap.size) 67 noTimes := (by first | (refine rowB hb7 ?_; first | omega | (simp; done) | (simp; omega) | fail) | (refine rowB (below_undrewB hb7) ?_; first | omega | (simp; done) | (simp; omega) | fail) | fail)); (try have hr6 : RowAt w7 (wr.heap.size) 67 noTimes := (by first | (refine rowC hb7 ?_; first | omega | (simp; done) | (simp; omega) | fail) | (refine rowC (below_undrewB hb7) ?_; first | omega | (simp; done) | (simp; omega) | fail) | fail)); (try have hst5 := run_storeRow w7 _ 67 noTimes N hr5.out (noTimes_length.trans lN.symm)); (try have hst6 := run_storeRow (w7.alloc (.cells #[] 2)) _ 67 noTimes N (hr5.alloc _).out (noTimes_length.trans lN.symm)); (try have hst7 := run_storeRow w7 _ 67 noTimes N hr6.out (noTimes_length.trans lN.symm))))
          all_goals
            go_wp2_with fail
            go_meet
            go_split_ands
            have h7 := hb7.size
            simp at h7
            refine ⟨_, _, _, N, rfl, rfl, ?_, lN, ⟨hN⟩, ?_, ⟨by assumption⟩⟩
            · first | omega | (simp; omega)
            · first
                | exact ⟨RowAt.new _ _ rfl _ _⟩
                | exact ⟨hr4.row N⟩
                | exact ⟨hr5.row N⟩
                | exact ⟨hr6.row N⟩
                | exact ⟨(hr5.alloc _).row N⟩
                | exact ⟨(RowAt.new _ _ rfl _ _).alloc _⟩
                | exact ⟨RowAt.new _ _ (by simp) _ _⟩
        case rest =>
          obtain ⟨A0, c0, g, G, rfl, rfl, hgw, lG, hG, HRG, HBX⟩ := hcut
          have HRS2 := Aside0.mk (HRS.out.below HBX.out)
          have HO2 := Aside0.mk (pw_own_below HO.out HBX.out)
          have BW2 : Aside0 (Below b w1 wc) := ⟨BW.out.trans (HBX.out.mono (by have := BW.out.size; have := HBB.out; omega))⟩
          have HBS2 : Aside0 (Below w.heap.size w wc) := ⟨HBS.out.trans (HBX.out.mono HBS.out.size)⟩
          have hbw : b + 1 ≤ wc.heap.size := by have := HRS2.out.lt; omega
          obtain ⟨W3, hW3⟩ : ∃ W3 : World, W3 = wc := ⟨_, rfl⟩
          subst hW3
          have HR1c := Aside0.mk (Kd.C_below HR1.out HBS2.out)
          have HDR : Aside0 (Drawn0 W3 W3) := ⟨Drawn0.refl _⟩
          have hgl := HRG.out.lt
          have hbl := HRS2.out.lt
          have HRD0 := Aside0.mk (reads_none W3 A0)
          obtain ⟨A8, c8, hv8, _⟩ := own_reads HO2.out
          subst hv8
          clear d0 d1 d2 hx0 hx1 hbr HRS HO BW HBS HRr HR1r HBX
          --CUT4
          go_wp2
          go_loopg [10, 12] n (fun gg v10 v12 wq => ∃ (m : Nat) (A2 : Option Addr) (c2 : Nat), m ≤ d ∧ d - m ≤ gg ∧ v12 = .int .i64 ((i + 1 + m : Nat) : Int) ∧ v10 = .slice A2 (restSel (bestL (goB t l ss) n d) (goB t l ss i) (n - d) m).length c2 ∧ Aside0 (ReadsInt wq .i64 A2 (restSel (bestL (goB t l ss) n d) (goB t l ss i) (n - d) m).length (restSel (bestL (goB t l ss) n d) (goB t l ss i) (n - d) m)) ∧ Aside0 (Drawn0 W3 wq))
          case atStart => exact ⟨0, A0, c0, by omega, by omega, by simp, rfl, HRD0, HDR⟩
          case round =>
            obtain ⟨m, A2, c2, hm, hg2, rfl, rfl, HRD, HD⟩ := hrel
            have HBD := Aside0.mk HD.out.below
            have HRGq := Aside0.mk (HRG.out.below HBD.out hgl)
            have HRSq := Aside0.mk (HRS2.out.below HBD.out)
            have hle := restSel_le (bestL (goB t l ss) n d) (goB t l ss i) (n - d) n (best_le (goB t l ss) n d (by omega)) m
            have HSU : Aside0 (restSel (bestL (goB t l ss) n d) (goB t l ss i) (n - d) (m + 1) = if goB t l ss i (i + 1 + m) = true ∧ (restSel (bestL (goB t l ss) n d) (goB t l ss i) (n - d) m).length < (bestL (goB t l ss) n d (i + 1 + m)).length then bestL (goB t l ss) n d (i + 1 + m) else restSel (bestL (goB t l ss) n d) (goB t l ss i) (n - d) m) := ⟨by rw [HLO.out]; rfl⟩
            by_cases hmd : m < d
            · obtain ⟨k, hk⟩ : ∃ k, i + 1 + m = k := ⟨_, rfl⟩
              have hkn : k < n := by omega
              have hkz : (k : Int) < (n : Int) := by omega
              have HK : Aside0 (i + 1 + (m + 1) = k + 1) := ⟨by omega⟩
              rw [hk] at HSU ⊢
              clear hk
              obtain ⟨x, hx⟩ : ∃ x, (restSel (bestL (goB t l ss) n d) (goB t l ss i) (n - d) m).length = x := ⟨_, rfl⟩
              rw [hx] at HRD HSU hle ⊢
              have HX := Aside0.mk hx
              clear hx
              obtain ⟨ad', e', hy0, hy1⟩ := at_T31 (Kd.C_below HR1c.out HBD.out) (k : Int) (by omega) (by omega)
              injection e' with e'
              subst e'
              obtain ⟨b0, h1, hb, hb0, hh1⟩ := scan_at HIN.out k (by rw [HN.out]; exact hkn)
              simp only [rd_T31, Int.toNat_natCast] at hy0 hy1
              rw [hb] at hy0 hy1
              simp only at hy0 hy1
              have hb0z : (b0 : Int) < 8 := by omega
              have hh1z : (h1 : Int) < 301 := by omega
              have hgc := HRGq.out.cell (b0 * 301 + h1) (by omega)
              have hga : G.getD (b0 * 301 + h1) false = goB t l ss i k := by
                rw [goB_at HAT.out hb, ← arrB_eq HL.out hG.out hb0 hh1]
                rfl
              have e2 : IntKind.i64.wrap ((k : Int) + 1) = ((k + 1 : Nat) : Int) := by rw [IntWalk.i64_in _ (by omega)]; omega
              clear hb
              cases hq : goB t l ss i k with
              | false =>
                rw [hga, hq] at hgc
                have HSN : Aside0 (restSel (bestL (goB t l ss) n d) (goB t l ss i) (n - d) (m + 1) = restSel (bestL (goB t l ss) n d) (goB t l ss i) (n - d) m) := ⟨by rw [HSU.out, hq, if_neg (by simp)]⟩
                have HRN : ∀ q, Aside0 (ReadsInt (wr.drewN q) .i64 A2 (restSel (bestL (goB t l ss) n d) (goB t l ss i) (n - d) (m + 1)).length (restSel (bestL (goB t l ss) n d) (goB t l ss i) (n - d) (m + 1))) := fun q => ⟨by rw [HSN.out, HX.out]; exact HRD.out.below (Drawn0.below ⟨⟨q, rfl⟩⟩)⟩
                have hlen : x = (restSel (bestL (goB t l ss) n d) (goB t l ss i) (n - d) (m + 1)).length := by rw [HSN.out, HX.out]
                have HLEN := Aside0.mk hlen
                clear hga hq HSU HSN hlen
                go_wp2
                go_quiet (fail)
                go_wp2
                go_roundg (d - (m + 1))
                case measure => omega
                case rel => exact ⟨m + 1, A2, c2, by omega, by omega, by rw [HK.out]; go_num, by rw [← HLEN.out], HRN _, ⟨HD.out.step _⟩⟩
              | true =>
                rw [hga, hq] at hgc
                have hBE := best_le (goB t l ss) n d (by omega) k
                have hbk := HRSq.out.cell k (by omega)
                obtain ⟨A3, c3, e3, hR3⟩ := own_reads (HRSq.out.own k (by omega))
                rw [e3] at hbk
                obtain ⟨y, hy⟩ : ∃ y, (bestL (goB t l ss) n d k).length = y := ⟨_, rfl⟩
                rw [hy] at hbk hR3 HSU hBE
                have HY := Aside0.mk hy
                have HR3 := Aside0.mk hR3
                clear hy hga e3 hR3
                by_cases hxy : x < y
                · have hdd : decide ((x : Int) < (y : Int)) = true := decide_eq_true (by omega)
                  have hdn : decide (x < y) = true := decide_eq_true hxy
                  have HSN : Aside0 (restSel (bestL (goB t l ss) n d) (goB t l ss i) (n - d) (m + 1) = bestL (goB t l ss) n d k) := ⟨by rw [HSU.out, hq, if_pos ⟨rfl, hxy⟩]⟩
                  have HRN : ∀ q, Aside0 (ReadsInt (wr.drewN q) .i64 A3 (restSel (bestL (goB t l ss) n d) (goB t l ss i) (n - d) (m + 1)).length (restSel (bestL (goB t l ss) n d) (goB t l ss i) (n - d) (m + 1))) := fun q => ⟨by rw [HSN.out, HY.out]; exact HR3.out.below (Drawn0.below ⟨⟨q, rfl⟩⟩)⟩
                  have HLEN : Aside0 (y = (restSel (bestL (goB t l ss) n d) (goB t l ss i) (n - d) (m + 1)).length) := ⟨by rw [HSN.out, HY.out]⟩
                  clear hq HSU HSN
                  go_wp2
                  go_quiet (fail)
                  go_wp2
                  go_roundg (d - (m + 1))
                  case measure => omega
                  case rel => exact ⟨m + 1, A3, c3, by omega, by omega, by rw [HK.out]; go_num, by rw [← HLEN.out], HRN _, ⟨HD.out.step _⟩⟩
                · have hdd : decide ((x : Int) < (y : Int)) = false := decide_eq_false (by omega)
                  have hdn : decide (x < y) = false := decide_eq_false hxy
                  have HSN : Aside0 (restSel (bestL (goB t l ss) n d) (goB t l ss i) (n - d) (m + 1) = restSel (bestL (goB t l ss) n d) (goB t l ss i) (n - d) m) := ⟨by rw [HSU.out, if_neg (fun h => hxy h.2)]⟩
                  have HRN : ∀ q, Aside0 (ReadsInt (wr.drewN q) .i64 A2 (restSel (bestL (goB t l ss) n d) (goB t l ss i) (n - d) (m + 1)).length (restSel (bestL (goB t l ss) n d) (goB t l ss i) (n - d) (m + 1))) := fun q => ⟨by rw [HSN.out, HX.out]; exact HRD.out.below (Drawn0.below ⟨⟨q, rfl⟩⟩)⟩
                  have HLEN : Aside0 (x = (restSel (bestL (goB t l ss) n d) (goB t l ss i) (n - d) (m + 1)).length) := ⟨by rw [HSN.out, HX.out]⟩
                  clear hq HSU HSN
                  go_wp2
                  go_quiet (fail)
                  go_wp2
                  go_roundg (d - (m + 1))
                  case measure => omega
                  case rel => exact ⟨m + 1, A2, c2, by omega, by omega, by rw [HK.out]; go_num, by rw [← HLEN.out], HRN _, ⟨HD.out.step _⟩⟩
            · have hkz : ¬ ((i + 1 + m : Nat) : Int) < (n : Int) := by omega
              have hmd2 : m = d := by omega
              subst hmd2
              obtain ⟨R, hR⟩ : ∃ R, restSel (bestL (goB t l ss) n m) (goB t l ss i) (n - m) m = R := ⟨_, rfl⟩
              have HBN : Aside0 (∀ j, bestL (goB t l ss) n (m + 1) j = if j = i then (i : Int) :: R else bestL (goB t l ss) n m j) := ⟨fun j => by rw [bestL, ← HID.out, hR]⟩
              have HON : Aside0 (outL (goB t l ss) n (m + 1) = if (outL (goB t l ss) n m).length ≤ ([(i : Int)] ++ R).length then [(i : Int)] ++ R else outL (goB t l ss) n m) := ⟨by rw [outL, ← HID.out, HBN.out, if_pos rfl]; rfl⟩
              rw [hR] at HRD hle ⊢
              clear hR HSU
              have hwq : b + 1 ≤ wr.heap.size := by have := HBD.out.size; omega
              have HBDb : Aside0 (Below (b + 1) W3 wr) := ⟨HBD.out.mono hbw⟩
              have HL1 : Aside0 ((wr.alloc (.cells #[.int .i64 (i : Int)] 2)).ownsRow (b + 1) 2 1 (.slice (some ⟨wr.heap.size, 0, none⟩) 1 1) [(i : Int)].length (nums .i64 [(i : Int)])) := ⟨own_lit wr (b + 1) 2 .i64 [(i : Int)] hwq (by simp)⟩
              have HBL : Aside0 (Below (b + 1) wr (wr.alloc (.cells #[.int .i64 (i : Int)] 2))) := ⟨(Below.refl _ _).alloc hwq _⟩
              have HRDL : Aside0 (ReadsInt (wr.alloc (.cells #[.int .i64 (i : Int)] 2)) .i64 A2 R.length R) := ⟨HRD.out.below ((Below.refl _ _).alloc (Nat.le_refl _) _)⟩
              have HRSL := Aside0.mk (HRSq.out.below (below_alloc (Below.refl _ _) (.cells #[.int .i64 (i : Int)] 2)))
              have HOL := Aside0.mk (pw_own_below (pw_own_below HO2.out HBD.out) (below_alloc (Below.refl _ _) (.cells #[.int .i64 (i : Int)] 2)))
              have HOD := Aside0.mk (pw_own_below HO2.out HBD.out)
              have hsl : wr.heap.size < (wr.alloc (.cells #[.int .i64 (i : Int)] 2)).heap.size := by simp
              --CUT5
              clear HRSL HOL hsl
              by_cases hcmp : (outL (goB t l ss) n m).length ≤ R.length + 1
              · have HON2 : Aside0 (outL (goB t l ss) n (m + 1) = (i : Int) :: R) := ⟨by rw [HON.out, if_pos (by simpa using hcmp)]; rfl⟩
                obtain ⟨O, hO⟩ : ∃ O, outL (goB t l ss) n m = O := ⟨_, rfl⟩
                rw [hO] at hcmp HOD ⊢
                clear hO HON
                have hcz : (O.length : Int) ≤ (R.length : Int) + 1 := by omega
                have hcd : decide ((O.length : Int) ≤ (R.length : Int) + 1) = true := decide_eq_true hcz
                go_wp2_with (at_builtin; refine print_append_row (w0 := wr) (b + 1) rfl (.tmp 75) (.tmp 76) 34 2 .i64 8 rfl Try.underlying34 infoI64 (by omega) _ [(i : Int)] R A2 R.length c2 rfl rfl HL1.out HRDL.out HBL.out (by simp; omega) (by simp; omega) ?_; intro v1 w6 hown1 hB1 hg1 hat1; obtain ⟨A6, c6, e6, hR6⟩ := own_reads hown1; subst e6; have hrs6 := HRSq.out.lit hg1; have hc6 := hrs6.cell i (by omega); have hf6 := hrs6.frozen i; have ho6 := own_lit_far HOD.out hg1)
                have HO6 : Aside0 (w6.ownsRow (b + 1) 2 1 (.slice A6 (R.length + 1) c6) ((i : Int) :: R).length (nums .i64 ((i : Int) :: R))) := ⟨hown1⟩
                have HRS9 : Aside0 (Rows (w6.setCell ⟨b, i, none⟩ (.slice A6 (R.length + 1) c6)) b (vs.set i (.slice A6 (R.length + 1) c6)) (bestL (goB t l ss) n (m + 1))) := ⟨hrs6.set i _ (by rw [HBN.out, if_pos rfl]; exact HO6.out) (fun j hj => by rw [HBN.out, if_neg hj])⟩
                have HB9 : Aside0 (Below b w1 (w6.setCell ⟨b, i, none⟩ (.slice A6 (R.length + 1) c6))) := ⟨(BW2.out.trans ((HBD.out.mono (by omega)).trans (hB1.mono (by omega)))).setCell (Nat.le_refl _) _⟩
                go_roundg (n - (m + 1))
                case measure => omega
                case rel => exact ⟨m + 1, vs.set i (.slice A6 (R.length + 1) c6), by omega, by omega, by congr 1; omega, by rw [List.length_set]; exact hvl, HRS9, ⟨by rw [HON2.out]; exact own_far HO6.out (by omega)⟩, HB9⟩
              · have HON2 : Aside0 (outL (goB t l ss) n (m + 1) = outL (goB t l ss) n m) := ⟨by rw [HON.out, if_neg (by simpa using hcmp)]⟩
                obtain ⟨O, hO⟩ : ∃ O, outL (goB t l ss) n m = O := ⟨_, rfl⟩
                rw [hO] at hcmp HOD HON2 ⊢
                clear hO HON
                have hcz : ¬ (O.length : Int) ≤ (R.length : Int) + 1 := by omega
                have hcd : decide ((O.length : Int) ≤ (R.length : Int) + 1) = false := decide_eq_false hcz
                go_wp2_with (at_builtin; refine print_append_row (w0 := wr) (b + 1) rfl (.tmp 75) (.tmp 76) 34 2 .i64 8 rfl Try.underlying34 infoI64 (by omega) _ [(i : Int)] R A2 R.length c2 rfl rfl HL1.out HRDL.out HBL.out (by simp; omega) (by simp; omega) ?_; intro v1 w6 hown1 hB1 hg1 hat1; obtain ⟨A6, c6, e6, hR6⟩ := own_reads hown1; subst e6; have hrs6 := HRSq.out.lit hg1; have hc6 := hrs6.cell i (by omega); have hf6 := hrs6.frozen i; have ho6 := own_lit_far HOD.out hg1)
                have HO6 : Aside0 (w6.ownsRow (b + 1) 2 1 (.slice A6 (R.length + 1) c6) ((i : Int) :: R).length (nums .i64 ((i : Int) :: R))) := ⟨hown1⟩
                have HRS9 : Aside0 (Rows (w6.setCell ⟨b, i, none⟩ (.slice A6 (R.length + 1) c6)) b (vs.set i (.slice A6 (R.length + 1) c6)) (bestL (goB t l ss) n (m + 1))) := ⟨hrs6.set i _ (by rw [HBN.out, if_pos rfl]; exact HO6.out) (fun j hj => by rw [HBN.out, if_neg hj])⟩
                have HB9 : Aside0 (Below b w1 (w6.setCell ⟨b, i, none⟩ (.slice A6 (R.length + 1) c6))) := ⟨(BW2.out.trans ((HBD.out.mono (by omega)).trans (hB1.mono (by omega)))).setCell (Nat.le_refl _) _⟩
                go_roundg (n - (m + 1))
                case measure => omega
                case rel => exact ⟨m + 1, vs.set i (.slice A6 (R.length + 1) c6), by omega, by omega, by congr 1; omega, by rw [List.length_set]; exact hvl, HRS9, ⟨by rw [HON2.out]; exact own_far ho6 (by omega)⟩, HB9⟩
      · have hltz : ¬ (0 : Int) ≤ (n : Int) - 1 - d := by omega
        have hdn : d = n := by omega
        subst hdn
        go_wp2
        go_ret2
        rw [ER.out]
        exact ⟨_, rfl, Kd.R_lower (Kd.R_of_own HO.out (fun _ _ => trivial)) (by have := HBB.out; omega), hb1.out.trans (BW.out.mono (by have := HBB.out; omega))⟩
  · have hne : (scansCodeB s t l ss != 0) = true := by simp [h0]
    have ER : Aside0 (mostRes s t l ss = ([], scansCodeB s t l ss)) := ⟨by unfold mostRes coded; rw [if_neg h0]⟩
    clear h0
    generalize hcd : scansCodeB s t l ss = cd at *
    go_wp2
    go_ret2
    rw [ER.out]
    exact ⟨_, rfl, Kd.R_nil _ _ _ _ _, hb1.out⟩
def impl_MostScans.f (a0_0 : Int) (a0_1 : Int) (l0_2 : List (S44)) (l1 : List (S31)) : Option (List Int × Int) :=
  if okNet a0_0 a0_1 l0_2 = true ∧ l1.length ≤ 1048576 ∧ l1.all okScan = true then some (mostRes a0_0 a0_1 l0_2 l1) else none
theorem impl_MostScans.calls (a0_0 : Int) (a0_1 : Int) (A0_2 : Option Addr) (c0_2 : Nat) (l0_2 : List (S44)) (A1 : Option Addr) (c1 : Nat) (l1 : List (S31)) (r1 : List Int) (r2 : Int) (w : World) (hr0_2 : Kd.C k44 w A0_2 l0_2.length l0_2) (hc0_2 : l0_2.length ≤ c0_2) (hr1 : Kd.C k31 w A1 l1.length l1) (hc1 : l1.length ≤ c1) (h : impl_MostScans.f a0_0 a0_1 l0_2 l1 = some (r1, r2)) :
    Calls Try.prog 22 #[.agg #[.int .i8 a0_0, .int .i16 a0_1, .slice A0_2 l0_2.length c0_2], .slice A1 l1.length c1] w fun e w' => ∃ v0_ : Value, e = .returned (.tuple #[v0_, .int .i64 r2]) ∧ Kd.R (Kd.int .i64) 2 w' w.heap.size (fun _ => True) v0_ r1 ∧ Below w.heap.size w w' := by
  unfold impl_MostScans.f at h
  split at h
  · injection h with h
    have h1 : (mostRes a0_0 a0_1 l0_2 l1).1 = r1 := by rw [h]
    have h2 : (mostRes a0_0 a0_1 l0_2 l1).2 = r2 := by rw [h]
    rw [← h1, ← h2]
    rename_i hh
    exact MostScans_any _ _ _ _ _ _ _ _ w hr0_2 hc0_2 hh.1 hr1 hc1 hh.2.1 (List.all_eq_true.1 hh.2.2)
  · cases h
end Go.Proofs.Yticfecncdpdanaa.Q
