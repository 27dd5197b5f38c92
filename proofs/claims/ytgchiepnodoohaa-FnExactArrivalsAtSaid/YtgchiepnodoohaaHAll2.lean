/- impl's all: all times behind one or more lanes. -/
import Derived.Test.YtgchiepnodoohaaArr
import Derived.Test.YtgchiepnodoohaaGridEq
set_option linter.unusedVariables false
set_option linter.unusedSimpArgs false
namespace Go.Proofs.Ytgchiepnodoohaa.Q
open Go.RowKit Go.Proofs.YtgchiepnodoohaaW.PrintWords Go.Proofs.YtgchiepnodoohaaW.PrintLast Go.Proofs.YtgchiepnodoohaaW.PrintMore

attribute [local go_sem] zcT zcH noHours_length setRow_alloc_at setRow_alloc_past bcells_set bcells_size noTimes_length List.length_set
set_option maxHeartbeats 4000000 in
set_option maxRecDepth 100000 in
theorem all_is (s t : Int) (A0 : Option Addr) (c : Nat) (l : List S82) (a0 h0 : Nat) (w : World) (hr : Kd.C k82 w A0 l.length l) (hc : l.length ≤ c) (hl : ∀ x ∈ l, laneV x) (ht0 : 0 ≤ t) (ht1 : t ≤ 40) (ha : a0 < 8) (hh : h0 < 301) :
    Calls Try.prog 73 #[.agg #[.int .i8 s, .int .i16 t, .slice A0 l.length c], .agg #[.int .i8 a0, .int .i16 h0]] w fun e w' =>
      ∃ N : List Bool, N.length = 2408 ∧ ArrT t l a0 h0 N ∧ e = .returned (.agg (bcells N)) ∧ Below w.heap.size w w' := by
  have HR := Aside0.mk hr
  have HL := Aside0.mk hl
  clear hr hl
  go_enter Try.func73, Try.ntmps73
  go_wp2_with fail
  have hB0 : Aside0 (Below w.heap.size w (((w.alloc (.cells #[.int .i8 s, .int .i16 t, .slice A0 l.length c] 31)).alloc (.cells #[.int .i8 a0, .int .i16 h0] 47)).alloc (.cells (bcells noTimes) 100))) := ⟨(((Below.refl _ _).alloc (Nat.le_refl _) _).alloc (by simp) _).alloc (by simp; omega) _⟩
  have R4 : Aside0 (RowAt (((w.alloc (.cells #[.int .i8 s, .int .i16 t, .slice A0 l.length c] 31)).alloc (.cells #[.int .i8 a0, .int .i16 h0] 47)).alloc (.cells (bcells noTimes) 100)) (w.heap.size + 1 + 1) 100 noTimes) := ⟨RowAt.new _ _ (by simp) _ _⟩
  have c0 : Aside0 ((((w.alloc (.cells #[.int .i8 s, .int .i16 t, .slice A0 l.length c] 31)).alloc (.cells #[.int .i8 a0, .int .i16 h0] 47)).alloc (.cells (bcells noTimes) 100)).cell? ⟨w.heap.size, 0, none⟩ = some (.int .i8 s)) := ⟨by go_simp⟩
  have c1 : Aside0 ((((w.alloc (.cells #[.int .i8 s, .int .i16 t, .slice A0 l.length c] 31)).alloc (.cells #[.int .i8 a0, .int .i16 h0] 47)).alloc (.cells (bcells noTimes) 100)).cell? ⟨w.heap.size, 1, none⟩ = some (.int .i16 t)) := ⟨by go_simp⟩
  have c2 : Aside0 ((((w.alloc (.cells #[.int .i8 s, .int .i16 t, .slice A0 l.length c] 31)).alloc (.cells #[.int .i8 a0, .int .i16 h0] 47)).alloc (.cells (bcells noTimes) 100)).cell? ⟨w.heap.size, 2, none⟩ = some (.slice A0 l.length c)) := ⟨by go_simp⟩
  have hz : Aside0 ((((w.alloc (.cells #[.int .i8 s, .int .i16 t, .slice A0 l.length c] 31)).alloc (.cells #[.int .i8 a0, .int .i16 h0] 47)).alloc (.cells (bcells noTimes) 100)).heap.size = w.heap.size + 1 + 1 + 1) := ⟨by simp⟩
  generalize ((w.alloc (.cells #[.int .i8 s, .int .i16 t, .slice A0 l.length c] 31)).alloc (.cells #[.int .i8 a0, .int .i16 h0] 47)).alloc (.cells (bcells noTimes) 100) = V at *
  refine (begin_is a0 h0 V ha hh).mono ?_
  rintro e w1 ⟨rfl, hb1⟩
  have HB1 := Aside0.mk hb1
  have hzw : w.heap.size + 1 + 1 + 1 ≤ w1.heap.size := by rw [← hz.out]; exact hb1.size
  clear hb1
  go_wp2
  rw [run_storeRow _ w1.heap.size 100 noTimes noTimes ((row_past _ _ _ (by simp)).trans (row_at _ _ _ _ rfl)) rfl]
  go_wp2
  rw [run_storeRow _ (w1.heap.size + 1) 100 noTimes _ (row_at _ _ _ _ (by simp)) (by rw [List.length_set])]
  go_wp2
  have hB2 : Aside0 (Below w.heap.size w ((w1.alloc (.cells (bcells noTimes) 100)).alloc (.cells (bcells (noTimes.set (a0 * 301 + h0) true)) 100))) := ⟨((hB0.out.trans (HB1.out.mono (by have := hz.out; omega))).alloc (by omega) _).alloc (by simp; omega) _⟩
  have RO : Aside0 (RowAt ((w1.alloc (.cells (bcells noTimes) 100)).alloc (.cells (bcells (noTimes.set (a0 * 301 + h0) true)) 100)) w1.heap.size 100 noTimes) := ⟨(RowAt.new _ _ rfl _ _).alloc _⟩
  have RA : Aside0 (RowAt ((w1.alloc (.cells (bcells noTimes) 100)).alloc (.cells (bcells (noTimes.set (a0 * 301 + h0) true)) 100)) (w1.heap.size + 1) 100 (noTimes.set (a0 * 301 + h0) true)) := ⟨RowAt.new _ _ (by simp) _ _⟩
  have HV : Aside0 (Below V.heap.size V ((w1.alloc (.cells (bcells noTimes) 100)).alloc (.cells (bcells (noTimes.set (a0 * 301 + h0) true)) 100))) := ⟨(HB1.out.alloc HB1.out.size _).alloc (by simp; have := HB1.out.size; omega) _⟩
  have hzP : Aside0 (((w1.alloc (.cells (bcells noTimes) 100)).alloc (.cells (bcells (noTimes.set (a0 * 301 + h0) true)) 100)).heap.size = w1.heap.size + 1 + 1) := ⟨by simp⟩
  generalize (w1.alloc (.cells (bcells noTimes) 100)).alloc (.cells (bcells (noTimes.set (a0 * 301 + h0) true)) 100) = W at *
  go_loopg [] (lack noTimes (noTimes.set (a0 * 301 + h0) true)) (fun gg wr => ∃ (O A : List Bool), lack O A ≤ gg ∧ Aside0 (Bfs t l a0 h0 O A) ∧ Aside0 (RowAt wr w1.heap.size 100 O) ∧ Aside0 (RowAt wr (w1.heap.size + 1) 100 A) ∧ Aside0 (Below w1.heap.size W wr))
  case atStart => exact ⟨_, _, Nat.le_refl _, ⟨Bfs.start t l a0 h0 ha hh⟩, RO, RA, ⟨Below.refl _ _⟩⟩
  case round =>
    obtain ⟨O, A, hg, HBf, HO, HA, BW⟩ := hrel
    have lO := HBf.out.lenO
    have lA := HBf.out.lenA
    have BW0 : Aside0 (Below w.heap.size w wr) := ⟨hB2.out.trans (BW.out.mono (by omega))⟩
    have hwr : w1.heap.size + 1 + 1 ≤ wr.heap.size := by rw [← hzP.out]; exact BW.out.size
    have BV : Aside0 (Below V.heap.size V wr) := ⟨HV.out.trans (BW.out.mono (by have := HB1.out.size; omega))⟩
    have hlt2 : w.heap.size < wr.heap.size := by omega
    have d0 := (BV.out.cell (p := ⟨w.heap.size, 0, none⟩) (by have := hz.out; simp; omega)).trans c0.out
    have d1 := (BV.out.cell (p := ⟨w.heap.size, 1, none⟩) (by have := hz.out; simp; omega)).trans c1.out
    have d2 := (BV.out.cell (p := ⟨w.heap.size, 2, none⟩) (by have := hz.out; simp; omega)).trans c2.out
    have heq : ∀ w, Sem.run Try.prog (Op.equalIn 10000 100 (.agg (bcells A)) (.agg (bcells noTimes))) w = .ok (decide (A = noTimes)) w := fun w => eq_arrivals 9997 A noTimes lA noTimes_length w
    by_cases hA : A = noTimes
    · rw [decide_eq_true hA] at heq
      have HD : Aside0 (ArrT t l a0 h0 O) := ⟨by have := HBf.out; rw [hA] at this; exact this.done HL.out ha hh⟩
      have R4' : Aside0 (RowAt wr (w.heap.size + 1 + 1) 100 noTimes) := ⟨R4.out.below BV.out (by have := hz.out; omega)⟩
      clear hA d0 d1 d2
      go_wp2_with (first | (refine wpList_loadT rfl (.tmp 6) rfl _ rfl _ _ HA.out lA ?_) | (refine wpList_loadT rfl (.tmp 5) rfl _ rfl _ _ HO.out lO ?_))
      rw [run_storeRow wr (w.heap.size + 1 + 1) 100 noTimes _ R4'.out.out (by rw [noTimes_length, lO])]
      have H4 := Aside0.mk (R4'.out.row O)
      have hB5 := Aside0.mk (below_setRow BW0.out (show w.heap.size ≤ w.heap.size + 1 + 1 by omega) (bcells O))
      clear R4' HO HA BW BW0 BV heq
      generalize wr.setRow (w.heap.size + 1 + 1) (bcells O) = W5 at *
      go_wp2
      exact bodyPost_ret_by (results_cell_row (p := 4) (ty := 100) rfl _ _ (w.heap.size + 1 + 1) 100 (bcells O) (0, 0) _ rfl H4.out.out Try.underlying100 rfl (by rw [sizeT, bcells_size, lO])) rfl ⟨O, lO, HD.out, rfl, hB5.out⟩
    · rw [decide_eq_false hA] at heq
      have HNE := Aside0.mk hA
      clear hA
      go_wp2_with (refine wpList_loadT rfl (.tmp 6) rfl _ rfl _ _ HA.out lA ?_)
      rw [run_storeRow _ wr.heap.size 100 noTimes noTimes (row_at _ _ _ _ rfl) rfl]
      go_wp2_with (refine wpList_loadT rfl (.tmp 6) rfl _ rfl _ _ (HA.out.alloc _) lA ?_)
      refine (next_is s t A0 c l A lA _ (Kd.C_alloc (Kd.C_below HR.out BW0.out) _) hc HL.out ht0 ht1).mono ?_
      rintro e w2 ⟨N, lN, hN, rfl, hb2⟩
      have HN := Aside0.mk hN
      have B2 : Aside0 (Below wr.heap.size wr w2) := ⟨below_call hb2⟩
      have RO2 : Aside0 (RowAt w2 w1.heap.size 100 O) := ⟨HO.out.below B2.out (by omega)⟩
      have RA2 : Aside0 (RowAt w2 (w1.heap.size + 1) 100 A) := ⟨HA.out.below B2.out (by omega)⟩
      have RF2 : Aside0 (RowAt w2 wr.heap.size 100 noTimes) := ⟨(RowAt.new wr _ rfl _ _).below hb2 (by simp)⟩
      have hw2 : wr.heap.size + 1 ≤ w2.heap.size := by have := hb2.size; simp at this; omega
      clear hN hb2 heq d0 d1 d2
      go_wp2
      obtain ⟨wo, hwo⟩ : ∃ wo : World, wo = wr := ⟨_, rfl⟩
      subst hwo
      go_loopg [22] 8 (fun gg v22 wq => ∃ (ss : Nat) (O2 F2 : List Bool), ss ≤ 8 ∧ 8 - ss ≤ gg ∧ v22 = .int .i64 ss ∧ O2.length = 2408 ∧ F2.length = 2408 ∧ Aside0 (RowAt wq w1.heap.size 100 O2) ∧ Aside0 (RowAt wq (w1.heap.size + 1) 100 A) ∧ Aside0 (RowAt wq wo.heap.size 100 F2) ∧ Aside0 (Below w1.heap.size w2 wq) ∧ Aside0 (joinTo (ss * 301) O N O2 ∧ freshTo (ss * 301) O N F2))
      case atStart => exact ⟨0, O, noTimes, by omega, by omega, rfl, lO, noTimes_length, RO2, RA2, RF2, ⟨Below.refl _ _⟩, ⟨by rw [Nat.zero_mul]; exact join_start O N⟩⟩
      case round =>
        obtain ⟨ss, O2, F2, hss, hg2, rfl, lO2, lF2, HO2, HA2, HF2, BQ, HJ⟩ := hrel
        by_cases hlt : ss < 8
        · have hltz : (ss : Int) < 8 := by omega
          have hixT := fun w => run_indexT .i64 N lN ss hlt w
          have lp := part_length N (ss * 301) 301 (by omega)
          have hwq : wo.heap.size + 1 ≤ wr.heap.size := by have := BQ.out.size; omega
          go_wp2
          rw [run_storeRow _ wr.heap.size 98 noHours _ (row_at _ _ _ _ rfl) (by rw [noHours_length, lp])]
          go_wp2_with (refine wpList_loadH rfl (.tmp 9) rfl _ rfl _ _ (RowAt.new _ _ rfl _ _) lp ?_)
          have BQ1 : Aside0 (Below w1.heap.size w2 (wr.alloc (.cells (bcells ((N.drop (ss * 301)).take 301)) 98))) := ⟨BQ.out.alloc (by omega) _⟩
          have HO3 : Aside0 (RowAt (wr.alloc (.cells (bcells ((N.drop (ss * 301)).take 301)) 98)) w1.heap.size 100 O2) := ⟨HO2.out.alloc _⟩
          have HA3 : Aside0 (RowAt (wr.alloc (.cells (bcells ((N.drop (ss * 301)).take 301)) 98)) (w1.heap.size + 1) 100 A) := ⟨HA2.out.alloc _⟩
          have HF3 : Aside0 (RowAt (wr.alloc (.cells (bcells ((N.drop (ss * 301)).take 301)) 98)) wo.heap.size 100 F2) := ⟨HF2.out.alloc _⟩
          have HP := Aside0.mk lp
          clear lp hixT HO2 HA2 HF2 BQ
          have hge : wo.heap.size ≠ w1.heap.size := by omega
          have hge2 : w1.heap.size ≠ wo.heap.size := by omega
          have hge3 : w1.heap.size + 1 ≠ wo.heap.size := by omega
          generalize (wr.alloc (.cells (bcells ((N.drop (ss * 301)).take 301)) 98)) = W6 at *
          go_loopg [27] 301 (fun gg v27 wp => ∃ (hh : Nat) (O3 F3 : List Bool), hh ≤ 301 ∧ 301 - hh ≤ gg ∧ v27 = .int .i64 hh ∧ O3.length = 2408 ∧ F3.length = 2408 ∧ Aside0 (RowAt wp w1.heap.size 100 O3) ∧ Aside0 (RowAt wp (w1.heap.size + 1) 100 A) ∧ Aside0 (RowAt wp wo.heap.size 100 F3) ∧ Aside0 (Below w1.heap.size w2 wp) ∧ Aside0 (joinTo (ss * 301 + hh) O N O3 ∧ freshTo (ss * 301 + hh) O N F3))
          case atStart => exact ⟨0, O2, F2, by omega, by omega, rfl, lO2, lF2, HO3, HA3, HF3, BQ1, HJ⟩
          case round =>
            obtain ⟨hh, O3, F3, hhh, hg3, rfl, lO3, lF3, HO4, HA4, HF4, BQ4, HJ4⟩ := hrel
            by_cases hlth : hh < 301
            · have hlthz : (hh : Int) < 301 := by omega
              have hix := fun w => run_indexH .i64 _ HP.out hh hlth w
              rw [part_getD _ _ _ _ hlth] at hix
              have hpb : ss * 301 + hh < 2408 := by omega
              cases hn : N.getD (ss * 301 + hh) false with
              | false =>
                rw [hn] at hix
                have HJ5 : Aside0 _ := ⟨join_keep hpb (.inl hn) HJ4.out.1 HJ4.out.2⟩
                clear hn
                go_wp2
                go_roundg (301 - (hh + 1))
                case measure => omega
                case rel => exact ⟨hh + 1, O3, F3, by omega, by omega, by go_num, lO3, lF3, HO4, HA4, HF4, BQ4, HJ5⟩
              | true =>
                rw [hn] at hix
                have hc := HO4.out.cell (ss * 301 + hh) (by omega)
                cases ho : O3.getD (ss * 301 + hh) false with
                | true =>
                  rw [ho] at hc
                  have HJ5 : Aside0 _ := ⟨join_keep hpb (.inr ho) HJ4.out.1 HJ4.out.2⟩
                  clear hn ho
                  go_wp2
                  go_roundg (301 - (hh + 1))
                  case measure => omega
                  case rel => exact ⟨hh + 1, O3, F3, by omega, by omega, by go_num, lO3, lF3, HO4, HA4, HF4, BQ4, HJ5⟩
                | false =>
                  rw [ho] at hc
                  have hf := HO4.out.frozen (ss * 301 + hh)
                  have hc2 := HF4.out.cell (ss * 301 + hh) (by omega)
                  have hf2 := HF4.out.frozen (ss * 301 + hh)
                  have HJ5 : Aside0 _ := ⟨join_set hpb hn ho lO3 lF3 HJ4.out.1 HJ4.out.2⟩
                  clear hn ho
                  go_wp2
                  go_region
                  have k1 : Only w1.heap.size wr (wr.setCell ⟨w1.heap.size, ss * 301 + hh, none⟩ (.bool true)) := (Only.refl _ _).setCell _ _
                  have k2 : Only wo.heap.size (wr.setCell ⟨w1.heap.size, ss * 301 + hh, none⟩ (.bool true)) ((wr.setCell ⟨w1.heap.size, ss * 301 + hh, none⟩ (.bool true)).setCell ⟨wo.heap.size, ss * 301 + hh, none⟩ (.bool true)).drew := ((Only.refl _ _).setCell _ _).drew
                  have n1 := Aside0.mk ((HO4.out.set (ss * 301 + hh) true).only k2 hge2)
                  have n2 := Aside0.mk ((HA4.out.only k1 (by omega)).only k2 hge3)
                  have n3 := Aside0.mk (((HF4.out.only k1 hge).set (ss * 301 + hh) true).drew)
                  have n4 : Aside0 (Below w1.heap.size w2 ((wr.setCell ⟨w1.heap.size, ss * 301 + hh, none⟩ (.bool true)).setCell ⟨wo.heap.size, ss * 301 + hh, none⟩ (.bool true)).drew) := ⟨(BQ4.out.trans (k1.below (Nat.le_refl _))).trans (k2.below (by omega))⟩
                  clear k1 k2 hc hf hc2 hf2 HO4 HA4 HF4 BQ4
                  generalize ((wr.setCell ⟨w1.heap.size, ss * 301 + hh, none⟩ (.bool true)).setCell ⟨wo.heap.size, ss * 301 + hh, none⟩ (.bool true)).drew = W8 at *
                  go_wp2
                  go_roundg (301 - (hh + 1))
                  case measure => omega
                  case rel => exact ⟨hh + 1, O3.set (ss * 301 + hh) true, F3.set (ss * 301 + hh) true, by omega, by omega, by go_num, by rw [List.length_set]; exact lO3, by rw [List.length_set]; exact lF3, n1, n2, n3, n4, HJ5⟩
            · have hlthz : ¬ (hh : Int) < 301 := by omega
              have he : hh = 301 := by omega
              have HJ5 : Aside0 (joinTo ((ss + 1) * 301) O N O3 ∧ freshTo ((ss + 1) * 301) O N F3) := ⟨by have := HJ4.out; rw [he, show ss * 301 + 301 = (ss + 1) * 301 by omega] at this; exact this⟩
              clear he
              go_wp2
              go_roundg (8 - (ss + 1))
              case measure => omega
              case rel => exact ⟨ss + 1, O3, F3, by omega, by omega, by go_num, lO3, lF3, HO4, HA4, HF4, BQ4, HJ5⟩
        · have hltz : ¬ (ss : Int) < 8 := by omega
          have he : ss = 8 := by omega
          have HJ5 : Aside0 (joinTo 2408 O N O2 ∧ freshTo 2408 O N F2) := ⟨by have := HJ.out; rw [he] at this; exact this⟩
          have HB5 : Aside0 (Bfs t l a0 h0 O2 F2) := ⟨HBf.out.round HL.out HN.out HJ5.out.1 HJ5.out.2 lO2 lF2⟩
          have hll : lack O2 F2 < lack O A := lack_lt lO lO2 lF2 HJ5.out.1 HJ5.out.2 HNE.out
          have hwq : wo.heap.size + 1 ≤ wr.heap.size := by have := BQ.out.size; omega
          clear he
          go_wp2_with (refine wpList_loadT rfl (.tmp 7) rfl _ rfl _ _ HF2.out lF2 ?_)
          rw [run_storeRow wr (w1.heap.size + 1) 100 A _ HA2.out.out (by rw [lA, lF2])]
          have H1 := Aside0.mk (HA2.out.row F2)
          have H2 := Aside0.mk (HO2.out.other (c := w1.heap.size + 1) (bcells F2) (by omega))
          have H3 : Aside0 (Below w1.heap.size W (wr.setRow (w1.heap.size + 1) (bcells F2))) := ⟨below_setRow (BW.out.trans ((B2.out.mono (by omega)).trans BQ.out)) (by omega) _⟩
          clear HO2 HA2 HF2 BQ
          generalize wr.setRow (w1.heap.size + 1) (bcells F2) = W7 at *
          go_wp2
          go_roundg (lack O2 F2)
          case measure => omega
          case rel => exact ⟨O2, F2, Nat.le_refl _, HB5, H2, H1, H3⟩
end Go.Proofs.Ytgchiepnodoohaa.Q
