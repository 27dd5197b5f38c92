/- spec's l07Goes, CanGo. -/
import Derived.Test.YtjcokfdafingeaaHSBeh
set_option linter.unusedVariables false
set_option linter.unusedSimpArgs false
namespace Go.Proofs.Ytjcokfdafingeaa.Q
open Go.RowKit Go.Proofs.YtjcokfdafingeaaW.PrintWords Go.Proofs.YtjcokfdafingeaaW.PrintLast Go.Proofs.YtjcokfdafingeaaW.PrintMore
set_option maxHeartbeats 4000000 in
set_option maxRecDepth 100000 in
theorem l07Goes_is {B : Nat} {s t : Int} {l : List S71} (a0 h0 b0 h1 : Nat) (wo : Int) (w : World) (hn : NetAt B s t l w) (hl : ∀ x ∈ l, laneV x) (hlen : l.length ≤ 20) (ht0 : 0 ≤ t) (ht1 : t ≤ 40) (ha : a0 < 8) (hh : h0 < 301) (hb : b0 < 8) (hh1 : h1 < 301) (hw0 : -1 ≤ wo) (hw1 : wo ≤ 8) :
    Calls Try.prog 60 #[.pointer (some ⟨B, 0, none⟩), .agg #[.int .i8 (a0 : Int), .int .i16 (h0 : Int)], .agg #[.int .i8 (b0 : Int), .int .i16 (h1 : Int)], .int .i64 wo] w fun e w' =>
      e = .returned (.bool (arrB t (but wo l) a0 h0 b0 h1)) ∧ Below w.heap.size w w' := by
  have HN := Aside0.mk hn
  have HL := Aside0.mk hl
  clear hn hl
  go_enter Try.func60, Try.ntmps60
  go_wp2_with fail
  refine (l07Behind_is a0 h0 wo _ ((HN.out.alloc _).alloc _) HL.out hlen ht0 ht1 ha hh hw0 hw1).mono ?_
  rintro e w1 ⟨gb, hgb, N, lN, hR, hN, rfl, hb1⟩
  have HE : Aside0 (N.getD (b0 * 301 + h1) false = arrB t (but wo l) a0 h0 b0 h1) := ⟨by rw [← arrB_eq (fun x hx => HL.out x (but_mem hx)) hN hb hh1]; rfl⟩
  have HB : Aside0 (Below w.heap.size w w1) := ⟨(((Below.refl _ _).alloc (Nat.le_refl _) _).alloc (by simp) _).trans (hb1.mono (by simp; omega))⟩
  have d0 := (hb1.cell (p := ⟨w.heap.size + 1, 0, none⟩) (by simp)).trans (show _ = some (.int .i8 (b0 : Int)) by go_simp)
  have d1 := (hb1.cell (p := ⟨w.heap.size + 1, 1, none⟩) (by simp)).trans (show _ = some (.int .i16 (h1 : Int)) by go_simp)
  have hc := hR.cell (b0 * 301 + h1) (by omega)
  rw [HE.out] at hc
  have hbz : (b0 : Int) < 8 := by omega
  have hhz : (h1 : Int) < 301 := by omega
  clear hb1 hR hN
  go_wp2
  go_big_quiet (fail)
  go_wp2
  go_ret
  exact ⟨rfl, below_drewN HB.out _⟩
theorem arrB_but {t : Int} {l : List S71} (hl : ∀ x ∈ l, laneV x) (a0 h0 s h : Nat) : arrB t (but (-1) l) a0 h0 s h = arrB t l a0 h0 s h := by rw [but_none hl]
theorem scansIn_eq2 (s : Int) (a b : S47) : scansIn s [a, b] = (scanIn s a && scanIn s b) := by
  simp only [scansIn, allIn, scanIn, List.map_cons, List.map_nil, List.all_cons, List.all_nil, Bool.and_true]
  cases inB a.f0 0 (s - 1) <;> cases inB b.f0 0 (s - 1) <;> cases inB a.f1 0 300 <;> rfl
theorem scansIn_eq1 (s : Int) (a : S47) : scansIn s [a] = scanIn s a := by
  simp only [scansIn, allIn, scanIn, List.map_cons, List.map_nil, List.all_cons, List.all_nil, Bool.and_true]
set_option maxHeartbeats 4000000 in
set_option maxRecDepth 100000 in
theorem sCanGo_any (s t : Int) (A0 : Option Addr) (c : Nat) (l : List S71) (a0 a1 b0 b1 : Int) (w : World) (hr : Kd.C k71 w A0 l.length l) (hc : l.length ≤ c) (hok : okNet s t l = true) (hoa : okScan ⟨a0, a1⟩ = true) (hob : okScan ⟨b0, b1⟩ = true) :
    Calls Try.prog 26 #[.agg #[.int .i8 s, .int .i16 t, .slice A0 l.length c], .agg #[.int .i8 a0, .int .i16 a1], .agg #[.int .i8 b0, .int .i16 b1]] w fun e w' =>
      e = .returned (.tuple #[.bool (canGoRes s t l ⟨a0, a1⟩ ⟨b0, b1⟩).1, .int .i64 (canGoRes s t l ⟨a0, a1⟩ ⟨b0, b1⟩).2]) ∧ Below w.heap.size w w' := by
  have HN := Aside0.mk (NetAt.new (s := s) (t := t) hr hc 31)
  have OK := Aside0.mk hok
  have HOA := Aside0.mk hoa
  have HOB := Aside0.mk hob
  clear hr hok hoa hob
  go_enter Try.func26, Try.ntmps26
  go_wp2_with fail
  have HBW : Aside0 (Below w.heap.size w (((w.alloc (.cells #[.int .i8 s, .int .i16 t, .slice A0 l.length c] 31)).alloc (.cells #[.int .i8 a0, .int .i16 a1] 47)).alloc (.cells #[.int .i8 b0, .int .i16 b1] 47))) := ⟨(((Below.refl _ _).alloc (Nat.le_refl _) _).alloc (by simp) _).alloc (by simp; omega) _⟩
  have HVW : Aside0 (w.heap.size ≤ (((w.alloc (.cells #[.int .i8 s, .int .i16 t, .slice A0 l.length c] 31)).alloc (.cells #[.int .i8 a0, .int .i16 a1] 47)).alloc (.cells #[.int .i8 b0, .int .i16 b1] 47)).heap.size) := ⟨by simp; omega⟩
  have HN := Aside0.mk ((HN.out.alloc (.cells #[.int .i8 a0, .int .i16 a1] 47)).alloc (.cells #[.int .i8 b0, .int .i16 b1] 47))
  have q0 : Aside0 ((((w.alloc (.cells #[.int .i8 s, .int .i16 t, .slice A0 l.length c] 31)).alloc (.cells #[.int .i8 a0, .int .i16 a1] 47)).alloc (.cells #[.int .i8 b0, .int .i16 b1] 47)).cell? ⟨w.heap.size + 1, 0, none⟩ = some (.int .i8 a0)) := ⟨by go_simp⟩
  have q1 : Aside0 ((((w.alloc (.cells #[.int .i8 s, .int .i16 t, .slice A0 l.length c] 31)).alloc (.cells #[.int .i8 a0, .int .i16 a1] 47)).alloc (.cells #[.int .i8 b0, .int .i16 b1] 47)).cell? ⟨w.heap.size + 1, 1, none⟩ = some (.int .i16 a1)) := ⟨by go_simp⟩
  have q2 : Aside0 ((((w.alloc (.cells #[.int .i8 s, .int .i16 t, .slice A0 l.length c] 31)).alloc (.cells #[.int .i8 a0, .int .i16 a1] 47)).alloc (.cells #[.int .i8 b0, .int .i16 b1] 47)).cell? ⟨w.heap.size + 1 + 1, 0, none⟩ = some (.int .i8 b0)) := ⟨by go_simp⟩
  have q3 : Aside0 ((((w.alloc (.cells #[.int .i8 s, .int .i16 t, .slice A0 l.length c] 31)).alloc (.cells #[.int .i8 a0, .int .i16 a1] 47)).alloc (.cells #[.int .i8 b0, .int .i16 b1] 47)).cell? ⟨w.heap.size + 1 + 1, 1, none⟩ = some (.int .i16 b1)) := ⟨by go_simp⟩
  have hz : w.heap.size + 1 + 1 < (((w.alloc (.cells #[.int .i8 s, .int .i16 t, .slice A0 l.length c] 31)).alloc (.cells #[.int .i8 a0, .int .i16 a1] 47)).alloc (.cells #[.int .i8 b0, .int .i16 b1] 47)).heap.size := by simp
  generalize (((w.alloc (.cells #[.int .i8 s, .int .i16 t, .slice A0 l.length c] 31)).alloc (.cells #[.int .i8 a0, .int .i16 a1] 47)).alloc (.cells #[.int .i8 b0, .int .i16 b1] 47)) = V at *
  refine (l07Scan_at HN.out OK.out a0 a1 HOA.out).mono ?_
  rintro e w1 ⟨rfl, hb⟩
  have H1 := Aside0.mk hb
  have d2 := (hb.cell (p := ⟨w.heap.size + 1 + 1, 0, none⟩) (by simp; omega)).trans q2.out
  have d3 := (hb.cell (p := ⟨w.heap.size + 1 + 1, 1, none⟩) (by simp; omega)).trans q3.out
  clear hb
  cases h1 : scanIn s ⟨a0, a1⟩ with
  | false =>
    have F1 := Aside0.mk h1
    clear h1
    go_wp2_with fail
    refine (l07Asked_at (HN.out.below H1.out) OK.out false).mono ?_
    rintro e w5 ⟨rfl, hb5⟩
    have hb6 := Aside0.mk (HBW.out.trans ((H1.out.trans (hb5.mono H1.out.size)).mono HVW.out))
    clear hb5
    cases hn : netB s t l with
    | false =>
      have ER : Aside0 (canGoRes s t l ⟨a0, a1⟩ ⟨b0, b1⟩ = (false, 1)) := ⟨by unfold canGoRes; rw [hn]; rfl⟩
      clear hn
      simp only [codeB, Bool.false_eq_true, if_false]
      go_wp2
      go_ret2
      rw [ER.out]
      exact ⟨rfl, hb6.out⟩
    | true =>
      have ER : Aside0 (canGoRes s t l ⟨a0, a1⟩ ⟨b0, b1⟩ = (false, 2)) := ⟨by unfold canGoRes; rw [hn, scansIn_eq2, F1.out, Bool.false_and]; rfl⟩
      clear hn
      simp only [codeB, Bool.false_eq_true, if_false, if_true]
      go_wp2
      go_ret2
      rw [ER.out]
      exact ⟨rfl, hb6.out⟩
  | true =>
    have F1 := Aside0.mk h1
    clear h1
    go_wp2_with fail
    refine (l07Scan_at (HN.out.below H1.out) OK.out b0 b1 HOB.out).mono ?_
    rintro e w2 ⟨rfl, hb⟩
    have H2 := Aside0.mk (H1.out.trans (hb.mono H1.out.size))
    clear hb d2 d3
    cases h2 : scanIn s ⟨b0, b1⟩ with
    | false =>
      have F2 := Aside0.mk h2
      clear h2
      go_wp2_with fail
      refine (l07Asked_at (HN.out.below H2.out) OK.out false).mono ?_
      rintro e w5 ⟨rfl, hb5⟩
      have hb6 := Aside0.mk (HBW.out.trans ((H2.out.trans (hb5.mono H2.out.size)).mono HVW.out))
      clear hb5
      cases hn : netB s t l with
      | false =>
        have ER : Aside0 (canGoRes s t l ⟨a0, a1⟩ ⟨b0, b1⟩ = (false, 1)) := ⟨by unfold canGoRes; rw [hn]; rfl⟩
        clear hn
        simp only [codeB, Bool.false_eq_true, if_false]
        go_wp2
        go_ret2
        rw [ER.out]
        exact ⟨rfl, hb6.out⟩
      | true =>
        have ER : Aside0 (canGoRes s t l ⟨a0, a1⟩ ⟨b0, b1⟩ = (false, 2)) := ⟨by unfold canGoRes; rw [hn, scansIn_eq2, F1.out, F2.out]; rfl⟩
        clear hn
        simp only [codeB, Bool.false_eq_true, if_false, if_true]
        go_wp2
        go_ret2
        rw [ER.out]
        exact ⟨rfl, hb6.out⟩
    | true =>
      have F2 := Aside0.mk h2
      clear h2
      go_wp2_with fail
      refine (l07Asked_at (HN.out.below H2.out) OK.out true).mono ?_
      rintro e w5 ⟨rfl, hb5⟩
      have H5 := Aside0.mk (H2.out.trans (hb5.mono H2.out.size))
      have hb6 := Aside0.mk (HBW.out.trans (H5.out.mono HVW.out))
      clear hb5
      cases hn : netB s t l with
      | false =>
        have ER : Aside0 (canGoRes s t l ⟨a0, a1⟩ ⟨b0, b1⟩ = (false, 1)) := ⟨by unfold canGoRes; rw [hn]; rfl⟩
        clear hn
        simp only [codeB, Bool.false_eq_true, if_false]
        go_wp2
        go_ret2
        rw [ER.out]
        exact ⟨rfl, hb6.out⟩
      | true =>
        have ER : Aside0 (canGoRes s t l ⟨a0, a1⟩ ⟨b0, b1⟩ = (arrB t l a0.toNat a1.toNat b0.toNat b1.toNat, 0)) := ⟨by unfold canGoRes; rw [hn, scansIn_eq2, F1.out, F2.out]; rfl⟩
        obtain ⟨hl, hs1, hs8, ht0, ht1⟩ := laneV_of hn
        have hlen := netB_len hn
        have hina := F1.out
        have hinb := F2.out
        unfold scanIn at hina hinb
        rw [Bool.and_eq_true] at hina hinb
        obtain ⟨x0, x1, hx, hx0, hx1, hx2, hx3⟩ := scansIn_nat hs8 hina
        obtain ⟨y0, y1, hy, hy0, hy1, hy2, hy3⟩ := scansIn_nat hs8 hinb
        injection hx with e1 e2
        injection hy with e3 e4
        subst e1 e2 e3 e4
        have HL := Aside0.mk hl
        have d0 := (H5.out.cell (p := ⟨w.heap.size + 1, 0, none⟩) (by simp; omega)).trans q0.out
        have d1 := (H5.out.cell (p := ⟨w.heap.size + 1, 1, none⟩) (by simp; omega)).trans q1.out
        have d2 := (H5.out.cell (p := ⟨w.heap.size + 1 + 1, 0, none⟩) (by simp; omega)).trans q2.out
        have d3 := (H5.out.cell (p := ⟨w.heap.size + 1 + 1, 1, none⟩) (by simp; omega)).trans q3.out
        clear hn hina hinb hl hx2 hx3 hy2 hy3
        simp only [codeB, if_true]
        go_wp2_with fail
        refine (l07Goes_is x0 x1 y0 y1 (-1) _ (HN.out.below H5.out) HL.out hlen ht0 ht1 hx0 hx1 hy0 hy1 (by omega) (by omega)).mono ?_
        rintro e w6 ⟨rfl, hb2⟩
        have hb3 : Aside0 (Below w.heap.size w w6) := ⟨hb6.out.trans (hb2.mono hb6.out.size)⟩
        rw [arrB_but HL.out]
        clear hb2
        go_wp2
        go_ret2
        rw [ER.out]
        exact ⟨rfl, hb3.out⟩
def spec_CanGo.f (a0_0 : Int) (a0_1 : Int) (l0_2 : List (S71)) (a1_0 : Int) (a1_1 : Int) (a2_0 : Int) (a2_1 : Int) : Option (Bool × Int) :=
  if okNet a0_0 a0_1 l0_2 = true ∧ okScan ⟨a1_0, a1_1⟩ = true ∧ okScan ⟨a2_0, a2_1⟩ = true then some (canGoRes a0_0 a0_1 l0_2 ⟨a1_0, a1_1⟩ ⟨a2_0, a2_1⟩) else none
theorem spec_CanGo.calls (a0_0 : Int) (a0_1 : Int) (A0_2 : Option Addr) (c0_2 : Nat) (l0_2 : List (S71)) (a1_0 : Int) (a1_1 : Int) (a2_0 : Int) (a2_1 : Int) (r1 : Bool) (r2 : Int) (w : World) (hr0_2 : Kd.C k71 w A0_2 l0_2.length l0_2) (hc0_2 : l0_2.length ≤ c0_2) (h : spec_CanGo.f a0_0 a0_1 l0_2 a1_0 a1_1 a2_0 a2_1 = some (r1, r2)) :
    Calls Try.prog 26 #[.agg #[.int .i8 a0_0, .int .i16 a0_1, .slice A0_2 l0_2.length c0_2], .agg #[.int .i8 a1_0, .int .i16 a1_1], .agg #[.int .i8 a2_0, .int .i16 a2_1]] w fun e w' => e = .returned (.tuple #[.bool r1, .int .i64 r2]) ∧ Below w.heap.size w w' := by
  unfold spec_CanGo.f at h
  split at h
  · injection h with h
    have h1 : (canGoRes a0_0 a0_1 l0_2 ⟨a1_0, a1_1⟩ ⟨a2_0, a2_1⟩).1 = r1 := by rw [h]
    have h2 : (canGoRes a0_0 a0_1 l0_2 ⟨a1_0, a1_1⟩ ⟨a2_0, a2_1⟩).2 = r2 := by rw [h]
    rw [← h1, ← h2]
    rename_i hh
    exact sCanGo_any _ _ _ _ _ _ _ _ _ w hr0_2 hc0_2 hh.1 hh.2.1 hh.2.2
  · cases h
end Go.Proofs.Ytjcokfdafingeaa.Q
