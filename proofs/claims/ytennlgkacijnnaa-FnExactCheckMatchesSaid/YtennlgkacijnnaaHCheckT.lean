/- spec's CheckMatches: the walk. -/
import Derived.Test.YtennlgkacijnnaaHCheckS
import Derived.Lib.QuietBelow
import Derived.StillTailTactics
set_option linter.unusedVariables false
set_option linter.unusedSimpArgs false
namespace Go.Proofs.Ytennlgkacijnnaa.Q
open Go.RowKit Go.Proofs.YtennlgkacijnnaaW.PrintWords Go.Proofs.YtennlgkacijnnaaW.PrintLast Go.Proofs.YtennlgkacijnnaaW.PrintMore
theorem addAt_bd2 {xs : List Int} {i : Nat} {n B C : Int} (h : ∀ x ∈ xs, 0 ≤ x ∧ x ≤ B) (hBC : B ≤ C) (hn : 0 ≤ xs.getD i 0 + n ∧ xs.getD i 0 + n ≤ C) : ∀ x ∈ addAt xs i n, 0 ≤ x ∧ x ≤ C := by
  intro x hx
  unfold addAt at hx
  rcases List.mem_or_eq_of_mem_set hx with h1 | h1
  · have := h x h1
    omega
  · rw [h1]; exact hn
theorem take_any_succ {α : Type} (p : α → Bool) (z : α) (l : List α) (k : Nat) (hk : k < l.length) : (l.take (k + 1)).any p = ((l.take k).any p || p (l.getD k z)) := by
  rw [List.take_succ_eq_append_getElem hk, List.any_append, List.getD_eq_getElem?_getD, List.getElem?_eq_getElem hk]
  simp
theorem take_any_of {α : Type} (p : α → Bool) (z : α) (l : List α) (i k : Nat) (hk : k < i) (hi : i ≤ l.length) (h : p (l.getD k z) = true) : (l.take i).any p = true := by
  rw [List.any_eq_true]
  refine ⟨l.getD k z, ?_, h⟩
  rw [List.getD_eq_getElem?_getD, List.getElem?_eq_getElem (by omega)]
  rw [List.mem_take_iff_getElem]
  exact ⟨k, by omega, rfl⟩
theorem range_all_succ (p : Nat → Bool) (r : Nat) : (List.range (r + 1)).all p = ((List.range r).all p && p r) := by
  rw [List.range_succ, List.all_append]
  simp
theorem range_all_fail (p : Nat → Bool) (r n : Nat) (h : r < n) (hp : p r = false) : (List.range n).all p = false := by
  rw [List.all_eq_false]
  exact ⟨r, List.mem_range.2 h, by rw [hp]; simp⟩
theorem getD_bd {xs : List Int} {i : Nat} {B : Int} (h : ∀ x ∈ xs, 0 ≤ x ∧ x ≤ B) (hi : i < xs.length) : 0 ≤ xs.getD i 0 ∧ xs.getD i 0 ≤ B := by
  rw [List.getD_eq_getElem?_getD, List.getElem?_eq_getElem hi]
  exact h _ (List.getElem_mem hi)
theorem getD_set_self {xs : List Int} {i : Nat} {n : Int} (hi : i < xs.length) : (addAt xs i n).getD i 0 = xs.getD i 0 + n := by
  unfold addAt
  rw [List.getD_eq_getElem?_getD, List.getElem?_set_self hi]
  rfl
set_option maxHeartbeats 40000000 in
set_option maxRecDepth 100000 in
theorem sCheckMatches_any (A : Option Addr) (c : Nat) (l : List S75) (A1 : Option Addr) (c1 : Nat) (m : List S81) (days : Int) (A2 : Option Addr) (c2 : Nat) (ms : List S102) (w : World) (hr : Kd.C k75 w A l.length l) (hc : l.length ≤ c) (hl : ∀ x ∈ l, okOrder x = true) (hll : l.length ≤ 1048576)
    (hr1 : Kd.C k81 w A1 m.length m) (hc1 : m.length ≤ c1) (hm : ∀ x ∈ m, okReturn x = true) (hml : m.length ≤ 1048576) (hr2 : Kd.C k102 w A2 ms.length ms) (hc2 : ms.length ≤ c2) (hs : ∀ x ∈ ms, okMatch x = true) (hsl : ms.length ≤ 1048576) :
    Calls Try.prog 35 #[.slice A l.length c, .slice A1 m.length c1, .int .i64 days, .slice A2 ms.length c2] w fun e w' => e = .returned (.tuple #[.bool (sCheckRes l m days ms).1, .int .i64 (sCheckRes l m days ms).2]) ∧ Below w.heap.size w w' := by
  have HR := Aside0.mk hr
  have HR1 := Aside0.mk hr1
  have HR2 := Aside0.mk hr2
  have HL := Aside0.mk hl
  have HM := Aside0.mk hm
  have HS := Aside0.mk hs
  clear hr hr1 hr2 hl hm hs
  have ENE : Aside0 (checkC l m days ms ≠ 0 → sCheckRes l m days ms = (false, checkC l m days ms)) := ⟨fun h => by unfold sCheckRes; rw [if_neg h]⟩
  have EEQ : Aside0 (checkC l m days ms = 0 → sCheckRes l m days ms = (sumsFit l m (sumFrom l m days ms ms.length 0 (List.replicate m.length 0) (List.replicate l.length 0)), 0)) := ⟨fun h => by unfold sCheckRes; rw [if_pos h]⟩
  have ECC : Aside0 (checkC l m days ms = if daysC l m days = 0 then (if ms.length ≤ 100 then 0 else 3) else daysC l m days) := ⟨rfl⟩
  go_enter Try.func35, Try.ntmps35
  go_wp2_with fail
  refine (sDaysAt days _).mono ?_
  rintro e w0 ⟨rfl, hb0⟩
  have H0 := Aside0.mk hb0
  clear hb0
  go_wp2_with fail
  refine (sAskedAt A c l A1 c1 m (inB days 0 1000) _ (Kd.C_below HR.out H0.out) hc HL.out hll (Kd.C_below HR1.out H0.out) hc1 HM.out hml).mono ?_
  rintro e w1 ⟨rfl, hb⟩
  have H1 : Aside0 (Below w.heap.size w w1) := ⟨H0.out.trans (hb.mono H0.out.size)⟩
  clear hb H0
  rw [askedB_days]
  by_cases hd : daysC l m days = 0
  · have EC2 : Aside0 (checkC l m days ms = if ms.length ≤ 100 then 0 else 3) := ⟨by rw [ECC.out, if_pos hd]⟩
    rw [hd]
    clear hd
    by_cases h100 : ms.length ≤ 100
    · have ER := Aside0.mk (EEQ.out (by rw [EC2.out, if_pos h100]))
      have h100z : ¬ (100 : Int) < (ms.length : Int) := by omega
      have hdd : decide ((100 : Int) < (ms.length : Int)) = false := decide_eq_false h100z
      have hmk1 := fun W => run_make_row' (P := Try.prog) 58 2 (.int .i64 0) 8 Try.underlying58 infoI64' rfl .i64 .i64 l.length (by omega) (by omega) W
      have hmk2 := fun W => run_make_row' (P := Try.prog) 58 2 (.int .i64 0) 8 Try.underlying58 infoI64' rfl .i64 .i64 m.length (by omega) (by omega) W
      go_wp2
      obtain ⟨w2, hw2⟩ : ∃ w2, w2 = (w1.alloc (.cells (madeCells #[.int .i64 0] m.length) 2)).alloc (.cells (madeCells #[.int .i64 0] l.length) 2) := ⟨_, rfl⟩
      have G1 : Aside0 (RowI w2 w1.heap.size (List.replicate m.length 0)) := ⟨by rw [hw2]; exact (RowI.made w1 _ _ rfl).alloc _⟩
      have G2 : Aside0 (RowI w2 (w1.heap.size + 1) (List.replicate l.length 0)) := ⟨by rw [hw2]; exact RowI.made _ _ _ (by simp)⟩
      have HX : Aside0 (Below w1.heap.size w1 w2) := ⟨by rw [hw2]; exact ((Below.refl _ _).alloc (Nat.le_refl _) _).alloc (by simp) _⟩
      try rw [← hw2]
      clear hw2 hmk1 hmk2 hdd h100z ENE EEQ ECC EC2
      obtain ⟨g1, hg1⟩ : ∃ g1, w1.heap.size = g1 := ⟨_, rfl⟩
      have hgw : Aside0 (∀ V, Below w1.heap.size w1 V → Below w.heap.size w V) := ⟨fun V hV => H1.out.trans (hV.mono H1.out.size)⟩
      have HG1 := Aside0.mk hg1
      simp only [hg1] at G1 G2 HX hgw ⊢
      clear hg1
      --CUT1
      go_loopg [13] ms.length (fun gg v13 wr => ∃ (i : Nat) (sv gv : List Int), i ≤ ms.length ∧ ms.length - i ≤ gg ∧ v13 = .int .i64 i ∧ sv.length = m.length ∧ gv.length = l.length ∧ Aside0 (∀ x ∈ sv, 0 ≤ x ∧ x ≤ 32767 * (i : Int)) ∧ Aside0 (∀ x ∈ gv, 0 ≤ x ∧ x ≤ 32767 * (i : Int)) ∧ Aside0 (RowI wr g1 sv) ∧ Aside0 (RowI wr (g1 + 1) gv) ∧ Aside0 (Below g1 w1 wr) ∧ Aside0 (sumFrom l m days ms (ms.length - i) i sv gv = sumFrom l m days ms ms.length 0 (List.replicate m.length 0) (List.replicate l.length 0)))
      case atStart => exact ⟨0, _, _, by omega, by omega, rfl, by simp, by simp, ⟨by intro x hx; rw [List.mem_replicate] at hx; omega⟩, ⟨by intro x hx; rw [List.mem_replicate] at hx; omega⟩, G1, G2, HX, ⟨rfl⟩⟩
      case round =>
        obtain ⟨i, sv, gv, hi, hgg, rfl, hsl2, hgl, HSV, HGV, HA1, HA2, HX, HA⟩ := hrel
        clear G1 G2
        have hb2 : Aside0 (Below w.heap.size w wr) := ⟨hgw.out _ HX.out⟩
        have hg1r : g1 < wr.heap.size := HA1.out.lt
        have hg2r : g1 + 1 < wr.heap.size := HA2.out.lt
        by_cases hlt : i < ms.length
        · have hltz : (i : Int) < (ms.length : Int) := by omega
          obtain ⟨ad, e, hx0, hx1, hx2⟩ := at_T102 (Kd.C_below HR2.out hb2.out) (i : Int) (by omega) hltz
          have hmem : ms.getD i z102 ∈ ms := by rw [List.getD_eq_getElem?_getD, List.getElem?_eq_getElem hlt]; exact List.getElem_mem hlt
          have hbd := okMatch_iff.1 (HS.out _ hmem)
          have hun : sumFrom l m days ms ((ms.length - (i + 1)) + 1) i sv gv = (if ((ms.take i).any (sameM (ms.getD i z102).f0 (ms.getD i z102).f1) || badM l m days (ms.getD i z102)) = true then none
    else sumFrom l m days ms (ms.length - (i + 1)) (i + 1) (addAt sv (ms.getD i z102).f0.toNat (ms.getD i z102).f2) (addAt gv (ms.getD i z102).f1.toNat (ms.getD i z102).f2)) := rfl
          rw [show (ms.length - (i + 1)) + 1 = ms.length - i by omega, HA.out] at hun
          clear HA hmem
          simp only [rd_T102, Int.toNat_natCast] at hx0 hx1 hx2
          subst e
          generalize ms.getD i z102 = y at hx0 hx1 hx2 hbd hun
          obtain ⟨a, b, n⟩ := y
          simp only at hx0 hx1 hx2 hbd hun
          obtain ⟨a0, a1, b0, b1, n0, n1⟩ := hbd
          have HUN := Aside0.mk hun
          clear hun
          have EN : Aside0 (sumFrom l m days ms ms.length 0 (List.replicate m.length 0) (List.replicate l.length 0) = none → sCheckRes l m days ms = (false, 0)) := ⟨fun h => by rw [ER.out, h]; rfl⟩
          have e1 : IntKind.i64.wrap a = a := IntWalk.i64_in _ (by omega)
          have e2 : IntKind.i64.wrap b = b := IntWalk.i64_in _ (by omega)
          have e3 : IntKind.i64.wrap n = n := IntWalk.i64_in _ (by omega)
          have e4 : IntKind.i64.wrap ((m.length : Int) - 1) = (m.length : Int) - 1 := IntWalk.i64_in _ (by omega)
          have e5 : IntKind.i64.wrap ((l.length : Int) - 1) = (l.length : Int) - 1 := IntWalk.i64_in _ (by omega)
          obtain ⟨w3, hw3⟩ : ∃ w3, w3 = wr.alloc (.cells #[.int .i8 a, .int .i8 b, .int .i16 n] 102) := ⟨_, rfl⟩
          have k0 : w3.cell? ⟨wr.heap.size, 0, none⟩ = some (.int .i8 a) := by rw [hw3]; go_simp
          have k1 : w3.cell? ⟨wr.heap.size, 1, none⟩ = some (.int .i8 b) := by rw [hw3]; go_simp
          have k2 : w3.cell? ⟨wr.heap.size, 2, none⟩ = some (.int .i16 n) := by rw [hw3]; go_simp
          have HX3 : Aside0 (Below g1 w1 w3) := ⟨by rw [hw3]; exact HX.out.alloc (by omega) _⟩
          have G1 : Aside0 (RowI w3 g1 sv) := ⟨by rw [hw3]; exact HA1.out.alloc _⟩
          have G2 : Aside0 (RowI w3 (g1 + 1) gv) := ⟨by rw [hw3]; exact HA2.out.alloc _⟩
          have hb3 : Aside0 (Below w.heap.size w w3) := ⟨hgw.out _ HX3.out⟩
          have HW3 := Aside0.mk hw3
          clear hw3
          go_wp2_with fail
          rw [← HW3.out]
          clear HW3 HA1 HA2 hx0 hx1 hx2
          --CUT2
          refine (l00In_is a 0 ((m.length : Int) - 1) _ rfl _).mono ?_
          rintro e wz ⟨rfl, rfl⟩
          cases hq1 : inB a 0 ((m.length : Int) - 1) with
          | false =>
            have EF : Aside0 (sCheckRes l m days ms = (false, 0)) := ⟨EN.out (by rw [HUN.out, if_pos (by simp [badM, hq1])])⟩
            go_wp2
            go_ret2
            rw [EF.out]
            exact ⟨rfl, by first | exact hb3.out | exact pw_below_drewN hb3.out _⟩
          | true =>
            go_wp2_with fail
            refine (l00In_is b 0 ((l.length : Int) - 1) _ rfl _).mono ?_
            rintro e wz ⟨rfl, rfl⟩
            cases hq2 : inB b 0 ((l.length : Int) - 1) with
            | false =>
              have EF : Aside0 (sCheckRes l m days ms = (false, 0)) := ⟨EN.out (by rw [HUN.out, if_pos (by simp [badM, hq2])])⟩
              go_wp2
              go_ret2
              rw [EF.out]
              exact ⟨rfl, by first | exact hb3.out | exact pw_below_drewN hb3.out _⟩
            | true =>
              by_cases hn : n < 1
              · have EF : Aside0 (sCheckRes l m days ms = (false, 0)) := ⟨EN.out (by rw [HUN.out, if_pos (by simp [badM, hn])])⟩
                have hnz : decide (n < 1) = true := decide_eq_true hn
                go_wp2
                go_ret2
                rw [EF.out]
                exact ⟨rfl, by first | exact hb3.out | exact pw_below_drewN hb3.out _⟩
              · have hnz : decide (n < 1) = false := decide_eq_false hn
                have ha := inB_true.1 hq1
                have hb := inB_true.1 hq2
                obtain ⟨ha0, ha1⟩ := ha
                obtain ⟨hb0, hb1⟩ := hb
                have hbad : badM l m days ⟨a, b, n⟩ = !canB (l.getD b.toNat z75) (m.getD a.toNat z81) days := by
                  show (decide (n < 1) || (!(inB a 0 ((m.length : Int) - 1) && inB b 0 ((l.length : Int) - 1)) || !canB (l.getD b.toNat z75) (m.getD a.toNat z81) days)) = _
                  rw [hq1, hq2, hnz]
                  simp
                have HUN2 := Aside0.mk (hbad ▸ HUN.out)
                clear hbad HUN hq1 hq2
                have hmo : l.getD b.toNat z75 ∈ l := by rw [List.getD_eq_getElem?_getD, List.getElem?_eq_getElem (by omega)]; exact List.getElem_mem (by omega)
                have hmr : m.getD a.toNat z81 ∈ m := by rw [List.getD_eq_getElem?_getD, List.getElem?_eq_getElem (by omega)]; exact List.getElem_mem (by omega)
                have hbo := okOrder_iff.1 (HL.out _ hmo)
                have hbr := okReturn_iff.1 (HM.out _ hmr)
                have hbo2 : -32768 ≤ (l.getD b.toNat z75).f4 ∧ (l.getD b.toNat z75).f4 ≤ 32767 := by omega
                have hbr2 : -32768 ≤ (m.getD a.toNat z81).f3 ∧ (m.getD a.toNat z81).f3 ≤ 32767 := by omega
                obtain ⟨ado, eo, o0, o1, _, _, o4⟩ := at_T75 (Kd.C_below HR.out hb3.out) b hb0 (by omega)
                obtain ⟨adr, er, r0, r1, _, r3⟩ := at_T81 (Kd.C_below HR1.out hb3.out) a ha0 (by omega)
                simp only [rd_T75] at o0 o1 o4
                simp only [rd_T81] at r0 r1 r3
                subst eo
                subst er
                have HCAN : Aside0 (∀ nq : Nat, Calls Try.prog 84 #[.pointer (some (ado.add (b.toNat * 5))), .pointer (some (adr.add (a.toNat * 4))), .int .i64 days] (w3.drewN nq) fun e w' => e = .returned (.bool (canB (l.getD b.toNat z75) (m.getD a.toNat z81) days)) ∧ ∃ n, w' = (w3.drewN nq).drewN n) := ⟨fun nq => l06Can_is _ _ _ _ days _ hbr2 hbo2 o0 o1 o4 r0 r1 r3⟩
                obtain ⟨can, hcan⟩ : ∃ z, canB (l.getD b.toNat z75) (m.getD a.toNat z81) days = z := ⟨_, rfl⟩
                rw [hcan] at HCAN HUN2
                clear hcan
                clear o0 o1 o4 r0 r1 r3 hbo2 hbr2 hbo hbr hmo hmr
                have ha2 : a < (m.length : Int) := by omega
                have hb2' : b < (l.length : Int) := by omega
                go_wp2_with fail
                go_quiet ((go_at_call 84; with_reducible exact Calls.quiet_of (HCAN.out _)))
                clear HCAN
                cases can with
                | false =>
                  have EF : Aside0 (sCheckRes l m days ms = (false, 0)) := ⟨EN.out (by rw [HUN2.out, if_pos (by simp)])⟩
                  go_wp2
                  go_ret2
                  rw [EF.out]
                  exact ⟨rfl, by first | exact hb3.out | exact pw_below_drewN hb3.out _⟩
                | true =>
                  have HX4 : Aside0 (Below g1 w1 (w3.drewN nq)) := ⟨pw_below_drewN HX3.out _⟩
                  have G1' : Aside0 (RowI (w3.drewN nq) g1 sv) := ⟨G1.out.drewN _⟩
                  have G2' : Aside0 (RowI (w3.drewN nq) (g1 + 1) gv) := ⟨G2.out.drewN _⟩
                  have k0' : (w3.drewN nq).cell? ⟨wr.heap.size, 0, none⟩ = some (.int .i8 a) := k0
                  have k1' : (w3.drewN nq).cell? ⟨wr.heap.size, 1, none⟩ = some (.int .i8 b) := k1
                  have k2' : (w3.drewN nq).cell? ⟨wr.heap.size, 2, none⟩ = some (.int .i16 n) := k2
                  clear k0 k1 k2 G1 G2 HX3 hb3
                  generalize w3.drewN nq = w4 at *
                  have hb4 : Aside0 (Below w.heap.size w w4) := ⟨hgw.out _ HX4.out⟩
                  obtain ⟨wo, hwo⟩ : ∃ wo : World, wo = wr := ⟨_, rfl⟩
                  subst hwo
                  go_wp2_with fail
                  go_loopg [15] i (fun gg v15 wr => ∃ (k n1 : Nat), k ≤ i ∧ i - k ≤ gg ∧ v15 = .int .i64 k ∧ Aside0 ((ms.take k).any (sameM a b) = false) ∧ wr = w4.drewN n1)
                  case atStart => exact ⟨0, 0, by omega, by omega, rfl, ⟨by simp⟩, rfl⟩
                  case round =>
                    obtain ⟨k, n2, hk, hgg2, rfl, HT, rfl⟩ := hrel
                    by_cases hki : k < i
                    · have hkiz : (k : Int) < (i : Int) := by omega
                      have hkm : (k : Int) < (ms.length : Int) := by omega
                      obtain ⟨_, e, hx0, hx1, _⟩ := at_T102 (Kd.C_below HR2.out (pw_below_drewN hb4.out n2)) (k : Int) (by omega) hkm
                      injection e with e
                      subst e
                      simp only [rd_T102, Int.toNat_natCast] at hx0 hx1
                      have hx0' : w4.cell? (ad.add (k * 3)) = some (.int .i8 (ms.getD k z102).f0) := hx0
                      have hx1' : w4.cell? ⟨(ad.add (k * 3)).block, (ad.add (k * 3)).off + 1, none⟩ = some (.int .i8 (ms.getD k z102).f1) := hx1
                      have HS1 : Aside0 ((ms.take (k + 1)).any (sameM a b) = sameM a b (ms.getD k z102)) := ⟨by rw [take_any_succ _ z102 _ _ (by omega), HT.out, Bool.false_or]⟩
                      have HS2 : Aside0 (sameM a b (ms.getD k z102) = true → (ms.take i).any (sameM a b) = true) := ⟨take_any_of _ z102 _ _ _ hki (by omega)⟩
                      clear hx0 hx1 HT
                      generalize ms.getD k z102 = z0 at *
                      obtain ⟨za, zb, zn⟩ := z0
                      simp only at hx0' hx1'
                      cases hz1 : (za == a) with
                      | false =>
                        have HT2 : Aside0 ((ms.take (k + 1)).any (sameM a b) = false) := ⟨by rw [HS1.out]; unfold sameM; rw [hz1]; rfl⟩
                        clear HS1 HS2
                        go_wp2_with fail
                        go_quiet (fail)
                        go_wp2
                        go_roundg (i - (k + 1))
                        case measure => omega
                        case rel => exact ⟨k + 1, _, by omega, by omega, by go_num, HT2, rfl⟩
                      | true =>
                        cases hz2 : (zb == b) with
                        | false =>
                          have HT2 : Aside0 ((ms.take (k + 1)).any (sameM a b) = false) := ⟨by rw [HS1.out]; unfold sameM; rw [hz1, hz2]; rfl⟩
                          clear HS1 HS2
                          go_wp2_with fail
                          go_quiet (fail)
                          go_wp2
                          go_roundg (i - (k + 1))
                          case measure => omega
                          case rel => exact ⟨k + 1, _, by omega, by omega, by go_num, HT2, rfl⟩
                        | true =>
                          have EF : Aside0 (sCheckRes l m days ms = (false, 0)) := ⟨EN.out (by rw [HUN2.out, if_pos (by rw [HS2.out (by unfold sameM; rw [hz1, hz2]; rfl)]; rfl)])⟩
                          go_wp2_with fail
                          go_quiet (fail)
                          go_wp2
                          go_ret2
                          rw [EF.out]
                          exact ⟨rfl, by first | exact pw_below_drewN hb4.out _ | exact pw_below_drewN (pw_below_drewN hb4.out _) _⟩
                    · have hkiz : ¬ (k : Int) < (i : Int) := by omega
                      have hke : k = i := by omega
                      have HT2 : Aside0 ((ms.take i).any (sameM a b) = false) := ⟨by rw [← hke]; exact HT.out⟩
                      have HUN3 : Aside0 (sumFrom l m days ms ms.length 0 (List.replicate m.length 0) (List.replicate l.length 0) = sumFrom l m days ms (ms.length - (i + 1)) (i + 1) (addAt sv a.toNat n) (addAt gv b.toNat n)) := ⟨by rw [HUN2.out, HT2.out]; rfl⟩
                      clear HT HT2 HUN2 hke
                      have sb := getD_bd HSV.out (i := a.toNat) (by omega)
                      have gb := getD_bd HGV.out (i := b.toNat) (by omega)
                      have G1 : Aside0 (RowI (w4.drewN n2) g1 sv) := ⟨G1'.out.drewN _⟩
                      have G2 : Aside0 (RowI (w4.drewN n2) (g1 + 1) gv) := ⟨G2'.out.drewN _⟩
                      have HX5 : Aside0 (Below g1 w1 (w4.drewN n2)) := ⟨pw_below_drewN HX4.out _⟩
                      have k0 : (w4.drewN n2).cell? ⟨wo.heap.size, 0, none⟩ = some (.int .i8 a) := k0'
                      have k1 : (w4.drewN n2).cell? ⟨wo.heap.size, 1, none⟩ = some (.int .i8 b) := k1'
                      have k2 : (w4.drewN n2).cell? ⟨wo.heap.size, 2, none⟩ = some (.int .i16 n) := k2'
                      clear k0' k1' k2' G1' G2' HX4 hb4 hb2
                      generalize w4.drewN n2 = w5 at *
                      have x1 := G1.out.cell a.toNat (by omega)
                      have y1 := G1.out.frozen a.toNat
                      obtain ⟨sb0, hsb0⟩ : ∃ x, sv.getD a.toNat 0 = x := ⟨_, rfl⟩
                      obtain ⟨gb0, hgb0⟩ : ∃ x, gv.getD b.toNat 0 = x := ⟨_, rfl⟩
                      have HSV2 : Aside0 (∀ x ∈ addAt sv a.toNat n, 0 ≤ x ∧ x ≤ 32767 * ((i + 1 : Nat) : Int)) := ⟨addAt_bd2 HSV.out (by omega) (by omega)⟩
                      have HGV2 : Aside0 (∀ x ∈ addAt gv b.toNat n, 0 ≤ x ∧ x ≤ 32767 * ((i + 1 : Nat) : Int)) := ⟨addAt_bd2 HGV.out (by omega) (by omega)⟩
                      rw [hgb0] at gb
                      rw [hsb0] at sb x1
                      have e6 : IntKind.i64.wrap (sb0 + n) = sb0 + n := IntWalk.i64_in _ (by omega)
                      have e7 : IntKind.i64.wrap (gb0 + n) = gb0 + n := IntWalk.i64_in _ (by omega)
                      have HGB := Aside0.mk hgb0
                      have HSB := Aside0.mk hsb0
                      clear gb sb hgb0 hsb0
                      go_wp2_with fail
                      go_still_tail 10, (by kernel_rfl)
                      change wpList _ _ _ _ _ w5.drew
                      obtain ⟨w7, hw7⟩ : ∃ w7, w7 = (w5.setCell ⟨g1, a.toNat, none⟩ (.int .i64 (sb0 + n))).drew := ⟨_, rfl⟩
                      have G1' : Aside0 (RowI w7 g1 (addAt sv a.toNat n)) := ⟨by rw [hw7]; unfold addAt; rw [HSB.out]; exact (G1.out.set _ _).drew⟩
                      have G2' : Aside0 (RowI w7 (g1 + 1) gv) := ⟨by rw [hw7]; exact (G2.out.other (by omega)).drew⟩
                      have HX8 : Aside0 (Below g1 w1 w7) := ⟨by rw [hw7]; exact (HX5.out.setCell (Nat.le_refl _) _).drew⟩
                      have k0' : w7.cell? ⟨wo.heap.size, 0, none⟩ = some (.int .i8 a) := by rw [hw7]; exact (World.cell?_setCell_far _ _ _ _ (show g1 ≠ wo.heap.size by omega)).trans k0
                      have k1' : w7.cell? ⟨wo.heap.size, 1, none⟩ = some (.int .i8 b) := by rw [hw7]; exact (World.cell?_setCell_far _ _ _ _ (show g1 ≠ wo.heap.size by omega)).trans k1
                      have k2' : w7.cell? ⟨wo.heap.size, 2, none⟩ = some (.int .i16 n) := by rw [hw7]; exact (World.cell?_setCell_far _ _ _ _ (show g1 ≠ wo.heap.size by omega)).trans k2
                      have HW7 := Aside0.mk hw7
                      clear hw7
                      go_wp2_with fail
                      rw [← HW7.out]
                      clear HW7 k0 k1 k2 x1 y1 e6 G1 G2
                      have x2 := G2'.out.cell b.toNat (by omega)
                      have y2 := G2'.out.frozen b.toNat
                      rw [HGB.out] at x2
                      go_still_tail 10, (by kernel_rfl)
                      change wpList _ _ _ _ _ w7.drew
                      obtain ⟨w8, hw8⟩ : ∃ w8, w8 = (w7.setCell ⟨g1 + 1, b.toNat, none⟩ (.int .i64 (gb0 + n))).drew := ⟨_, rfl⟩
                      have G1 : Aside0 (RowI w8 g1 (addAt sv a.toNat n)) := ⟨by rw [hw8]; exact (G1'.out.other (by omega)).drew⟩
                      have G2 : Aside0 (RowI w8 (g1 + 1) (addAt gv b.toNat n)) := ⟨by rw [hw8]; unfold addAt; rw [HGB.out]; exact (G2'.out.set _ _).drew⟩
                      have HX9 : Aside0 (Below g1 w1 w8) := ⟨by rw [hw8]; exact (HX8.out.setCell (by simp) _).drew⟩
                      have HW8 := Aside0.mk hw8
                      clear hw8
                      go_wp2
                      rw [← HW8.out]
                      clear HW8 k0' k1' k2' x2 y2 e7 G1' G2'
                      go_roundg (ms.length - (i + 1))
                      case measure => omega
                      case rel => exact ⟨i + 1, addAt sv a.toNat n, addAt gv b.toNat n, by omega, by omega, by go_num, by unfold addAt; rw [List.length_set]; exact hsl2, by unfold addAt; rw [List.length_set]; exact hgl, HSV2, HGV2, G1, G2, HX9, ⟨HUN3.out.symm⟩⟩
        · have hltz : ¬ (i : Int) < (ms.length : Int) := by omega
          have ER2 : Aside0 (sCheckRes l m days ms = ((List.range m.length).all (fitR m sv) && (List.range l.length).all (fitO l gv), 0)) := ⟨by rw [ER.out, ← HA.out, show ms.length - i = 0 by omega]; rfl⟩
          clear HA
          go_wp2
          have hie : Aside0 (i = ms.length) := ⟨by omega⟩
          have hir : (i : Int) ≤ 100 := by omega
          obtain ⟨wo, hwo⟩ : ∃ wo : World, wo = wr := ⟨_, rfl⟩
          subst hwo
          go_loopg [16] m.length (fun gg v16 wr => ∃ (r n1 : Nat), r ≤ m.length ∧ m.length - r ≤ gg ∧ v16 = .int .i64 r ∧ Aside0 ((List.range r).all (fitR m sv) = true) ∧ wr = wo.drewN n1)
          case atStart => exact ⟨0, 0, by omega, by omega, rfl, ⟨rfl⟩, rfl⟩
          case round =>
            obtain ⟨r, n1, hr, hgg3, rfl, HF, rfl⟩ := hrel
            by_cases hrm : r < m.length
            · have hrz : (r : Int) < (m.length : Int) := by omega
              obtain ⟨adr, er, _, _, r2, _⟩ := at_T81 (Kd.C_below HR1.out (pw_below_drewN hb2.out n1)) (r : Int) (by omega) hrz
              have hmr : m.getD r z81 ∈ m := by rw [List.getD_eq_getElem?_getD, List.getElem?_eq_getElem (by omega)]; exact List.getElem_mem (by omega)
              have hbr := okReturn_iff.1 (HM.out _ hmr)
              simp only [rd_T81, Int.toNat_natCast] at r2
              subst er
              have x1 := (HA1.out.drewN n1).cell r (by omega)
              have sb := getD_bd HSV.out (i := r) (by omega)
              have HS1 : Aside0 ((List.range (r + 1)).all (fitR m sv) = fitR m sv r) := ⟨by rw [range_all_succ, HF.out, Bool.true_and]⟩
              have HS2 : Aside0 (fitR m sv r = false → (List.range m.length).all (fitR m sv) = false) := ⟨range_all_fail _ _ _ hrm⟩
              have HFD : Aside0 (fitR m sv r = decide (sv.getD r 0 ≤ (m.getD r z81).f2)) := ⟨rfl⟩
              generalize m.getD r z81 = yr at *
              obtain ⟨ra, rb, rn, rd⟩ := yr
              simp only at r2 hbr HFD
              obtain ⟨sb0, hsb0⟩ : ∃ x, sv.getD r 0 = x := ⟨_, rfl⟩
              rw [hsb0] at x1 sb HFD
              clear hsb0 hmr
              have e1 : IntKind.i64.wrap rn = rn := IntWalk.i64_in _ (by omega)
              have x1' : wo.cell? ⟨g1, r, none⟩ = some (.int .i64 sb0) := x1
              have r2' := r2
              change wo.cell? _ = _ at r2'
              clear x1 r2
              by_cases hv : rn < sb0
              · have hd1 : decide (rn < sb0) = true := decide_eq_true hv
                have EF : Aside0 (sCheckRes l m days ms = (false, 0)) := ⟨by rw [ER2.out, HS2.out (by rw [HFD.out]; exact decide_eq_false (by omega))]; rfl⟩
                go_wp2_with fail
                go_quiet (fail)
                go_wp2
                go_ret2
                rw [EF.out]
                exact ⟨rfl, by first | exact pw_below_drewN hb2.out _ | exact pw_below_drewN (pw_below_drewN hb2.out _) _⟩
              · have hd1 : decide (rn < sb0) = false := decide_eq_false hv
                have HF2 : Aside0 ((List.range (r + 1)).all (fitR m sv) = true) := ⟨by rw [HS1.out, HFD.out]; exact decide_eq_true (by omega)⟩
                clear HS1 HS2 HFD
                go_wp2_with fail
                go_quiet (fail)
                go_wp2
                go_roundg (m.length - (r + 1))
                case measure => omega
                case rel => exact ⟨r + 1, _, by omega, by omega, by go_num, HF2, rfl⟩
            · have hrz : ¬ (r : Int) < (m.length : Int) := by omega
              have hre : r = m.length := by omega
              have ER3 : Aside0 (sCheckRes l m days ms = ((List.range l.length).all (fitO l gv), 0)) := ⟨by rw [ER2.out, ← hre, HF.out, Bool.true_and]⟩
              clear HF hre ER2
              have hb5 : Aside0 (Below w.heap.size w (wo.drewN n1)) := ⟨pw_below_drewN hb2.out _⟩
              have G2 : Aside0 (RowI (wo.drewN n1) (g1 + 1) gv) := ⟨HA2.out.drewN _⟩
              generalize wo.drewN n1 = w5 at *
              go_wp2
              go_loopg [17] l.length (fun gg v17 wr => ∃ (o n1 : Nat), o ≤ l.length ∧ l.length - o ≤ gg ∧ v17 = .int .i64 o ∧ Aside0 ((List.range o).all (fitO l gv) = true) ∧ wr = w5.drewN n1)
              case atStart => exact ⟨0, 0, by omega, by omega, rfl, ⟨rfl⟩, rfl⟩
              case round =>
                obtain ⟨o, n2, ho, hgg4, rfl, HF, rfl⟩ := hrel
                by_cases hom : o < l.length
                · have hoz : (o : Int) < (l.length : Int) := by omega
                  obtain ⟨ado, eo, _, _, o2, _, _⟩ := at_T75 (Kd.C_below HR.out (pw_below_drewN hb5.out n2)) (o : Int) (by omega) hoz
                  have hmo : l.getD o z75 ∈ l := by rw [List.getD_eq_getElem?_getD, List.getElem?_eq_getElem (by omega)]; exact List.getElem_mem (by omega)
                  have hbo := okOrder_iff.1 (HL.out _ hmo)
                  simp only [rd_T75, Int.toNat_natCast] at o2
                  subst eo
                  have x1 := (G2.out.drewN n2).cell o (by omega)
                  have sb := getD_bd HGV.out (i := o) (by omega)
                  have HS1 : Aside0 ((List.range (o + 1)).all (fitO l gv) = fitO l gv o) := ⟨by rw [range_all_succ, HF.out, Bool.true_and]⟩
                  have HS2 : Aside0 (fitO l gv o = false → (List.range l.length).all (fitO l gv) = false) := ⟨range_all_fail _ _ _ hom⟩
                  have HFD : Aside0 (fitO l gv o = decide (gv.getD o 0 ≤ (l.getD o z75).f2)) := ⟨rfl⟩
                  generalize l.getD o z75 = yo at *
                  obtain ⟨oa, ob, on, op, od⟩ := yo
                  simp only at o2 hbo HFD
                  obtain ⟨sb0, hsb0⟩ : ∃ x, gv.getD o 0 = x := ⟨_, rfl⟩
                  rw [hsb0] at x1 sb HFD
                  clear hsb0 hmo
                  have e1 : IntKind.i64.wrap on = on := IntWalk.i64_in _ (by omega)
                  have x1' : w5.cell? ⟨g1 + 1, o, none⟩ = some (.int .i64 sb0) := x1
                  have o2' := o2
                  change w5.cell? _ = _ at o2'
                  clear x1 o2
                  by_cases hv : on < sb0
                  · have hd1 : decide (on < sb0) = true := decide_eq_true hv
                    have EF : Aside0 (sCheckRes l m days ms = (false, 0)) := ⟨by rw [ER3.out, HS2.out (by rw [HFD.out]; exact decide_eq_false (by omega))]⟩
                    go_wp2_with fail
                    go_quiet (fail)
                    go_wp2
                    go_ret2
                    rw [EF.out]
                    exact ⟨rfl, by first | exact pw_below_drewN hb5.out _ | exact pw_below_drewN (pw_below_drewN hb5.out _) _⟩
                  · have hd1 : decide (on < sb0) = false := decide_eq_false hv
                    have HF2 : Aside0 ((List.range (o + 1)).all (fitO l gv) = true) := ⟨by rw [HS1.out, HFD.out]; exact decide_eq_true (by omega)⟩
                    clear HS1 HS2 HFD
                    go_wp2_with fail
                    go_quiet (fail)
                    go_wp2
                    go_roundg (l.length - (o + 1))
                    case measure => omega
                    case rel => exact ⟨o + 1, _, by omega, by omega, by go_num, HF2, rfl⟩
                · have hoz : ¬ (o : Int) < (l.length : Int) := by omega
                  have hoe : o = l.length := by omega
                  have EF : Aside0 (sCheckRes l m days ms = (true, 0)) := ⟨by rw [ER3.out, ← hoe, HF.out]⟩
                  clear HF hoe ER3
                  go_wp2
                  go_ret2
                  rw [EF.out]
                  exact ⟨rfl, by first | exact hb5.out | exact pw_below_drewN hb5.out _⟩
    · have ER := Aside0.mk (ENE.out (by rw [EC2.out, if_neg h100]; decide))
      have h100z : (100 : Int) < (ms.length : Int) := by omega
      have hdd : decide ((100 : Int) < (ms.length : Int)) = true := decide_eq_true h100z
      have hcc : Aside0 (checkC l m days ms = 3) := ⟨by rw [EC2.out, if_neg h100]⟩
      go_wp2
      go_ret2
      rw [ER.out, hcc.out]
      exact ⟨rfl, H1.out⟩
  · have EC2 : Aside0 (checkC l m days ms = daysC l m days) := ⟨by rw [ECC.out, if_neg hd]⟩
    have ER := Aside0.mk (ENE.out (by rw [EC2.out]; exact hd))
    rw [EC2.out] at ER
    generalize daysC l m days = cd at *
    have h0 : (cd == 0) = false := beq_false_of_ne hd
    have h1 : (cd != 0) = true := bne_iff_ne.2 hd
    clear hd
    go_wp2
    go_ret2
    rw [ER.out]
    exact ⟨rfl, H1.out⟩
def impl_CheckMatches.f (l0 : List (S75)) (l1 : List (S81)) (a2 : Int) (l3 : List (S102)) : Option (Bool × Int) :=
  if (l0.all okOrder = true ∧ l0.length ≤ 1048576) ∧ (l1.all okReturn = true ∧ l1.length ≤ 1048576) ∧ l3.all okMatch = true ∧ l3.length ≤ 1048576 then some (checkRes l0 l1 a2 l3) else none
theorem impl_CheckMatches.calls (A0 : Option Addr) (c0 : Nat) (l0 : List (S75)) (A1 : Option Addr) (c1 : Nat) (l1 : List (S81)) (a2 : Int) (A3 : Option Addr) (c3 : Nat) (l3 : List (S102)) (r1 : Bool) (r2 : Int) (w : World) (hr0 : Kd.C k75 w A0 l0.length l0) (hc0 : l0.length ≤ c0) (hr1 : Kd.C k81 w A1 l1.length l1) (hc1 : l1.length ≤ c1) (hr3 : Kd.C k102 w A3 l3.length l3) (hc3 : l3.length ≤ c3) (h : impl_CheckMatches.f l0 l1 a2 l3 = some (r1, r2)) :
    Calls Try.prog 36 #[.slice A0 l0.length c0, .slice A1 l1.length c1, .int .i64 a2, .slice A3 l3.length c3] w fun e w' => e = .returned (.tuple #[.bool r1, .int .i64 r2]) ∧ Below w.heap.size w w' := by
  unfold impl_CheckMatches.f at h
  split at h
  · rename_i hh
    injection h with h
    have h1 : (checkRes l0 l1 a2 l3).1 = r1 := by rw [h]
    have h2 : (checkRes l0 l1 a2 l3).2 = r2 := by rw [h]
    rw [← h1, ← h2]
    exact CheckMatches_any A0 c0 l0 A1 c1 l1 a2 A3 c3 l3 w hr0 hc0 (List.all_eq_true.1 hh.1.1) hh.1.2 hr1 hc1 (List.all_eq_true.1 hh.2.1.1) hh.2.1.2 hr3 hc3 (List.all_eq_true.1 hh.2.2.1) hh.2.2.2
  · cases h
def spec_CheckMatches.f (l0 : List (S75)) (l1 : List (S81)) (a2 : Int) (l3 : List (S102)) : Option (Bool × Int) :=
  if (l0.all okOrder = true ∧ l0.length ≤ 1048576) ∧ (l1.all okReturn = true ∧ l1.length ≤ 1048576) ∧ l3.all okMatch = true ∧ l3.length ≤ 1048576 then some (sCheckRes l0 l1 a2 l3) else none
theorem spec_CheckMatches.calls (A0 : Option Addr) (c0 : Nat) (l0 : List (S75)) (A1 : Option Addr) (c1 : Nat) (l1 : List (S81)) (a2 : Int) (A3 : Option Addr) (c3 : Nat) (l3 : List (S102)) (r1 : Bool) (r2 : Int) (w : World) (hr0 : Kd.C k75 w A0 l0.length l0) (hc0 : l0.length ≤ c0) (hr1 : Kd.C k81 w A1 l1.length l1) (hc1 : l1.length ≤ c1) (hr3 : Kd.C k102 w A3 l3.length l3) (hc3 : l3.length ≤ c3) (h : spec_CheckMatches.f l0 l1 a2 l3 = some (r1, r2)) :
    Calls Try.prog 35 #[.slice A0 l0.length c0, .slice A1 l1.length c1, .int .i64 a2, .slice A3 l3.length c3] w fun e w' => e = .returned (.tuple #[.bool r1, .int .i64 r2]) ∧ Below w.heap.size w w' := by
  unfold spec_CheckMatches.f at h
  split at h
  · rename_i hh
    injection h with h
    have h1 : (sCheckRes l0 l1 a2 l3).1 = r1 := by rw [h]
    have h2 : (sCheckRes l0 l1 a2 l3).2 = r2 := by rw [h]
    rw [← h1, ← h2]
    exact sCheckMatches_any A0 c0 l0 A1 c1 l1 a2 A3 c3 l3 w hr0 hc0 (List.all_eq_true.1 hh.1.1) hh.1.2 hr1 hc1 (List.all_eq_true.1 hh.2.1.1) hh.2.1.2 hr3 hc3 (List.all_eq_true.1 hh.2.2.1) hh.2.2.2
  · cases h
end Go.Proofs.Ytennlgkacijnnaa.Q
