/- impl's areIndices and RefundOf, for orders, returns and matches whose fields lie in their kinds. -/
import Derived.Test.YtennlgkacijnnaaHOrders
import Derived.Test.YtennlgkacijnnaaIdxMatch
import Derived.IntWalk
set_option linter.unusedVariables false
set_option linter.unusedSimpArgs false
namespace Go.Proofs.Ytennlgkacijnnaa.Q
open Go.RowKit Go.Proofs.YtennlgkacijnnaaW.PrintWords Go.Proofs.YtennlgkacijnnaaW.PrintLast Go.Proofs.YtennlgkacijnnaaW.PrintMore
def okMatch (x : S102) : Bool := decide (-128 ≤ x.f0 ∧ x.f0 ≤ 127 ∧ -128 ≤ x.f1 ∧ x.f1 ≤ 127 ∧ -32768 ≤ x.f2 ∧ x.f2 ≤ 32767)
theorem okMatch_iff {x : S102} : okMatch x = true ↔ -128 ≤ x.f0 ∧ x.f0 ≤ 127 ∧ -128 ≤ x.f1 ∧ x.f1 ≤ 127 ∧ -32768 ≤ x.f2 ∧ x.f2 ≤ 32767 := by simp [okMatch]
theorem sizeR_is (A : Option Addr) (n c : Nat) (w : World) (hn : n ≤ 9223372036854775807) : Calls Try.prog 102 #[.slice A n c] w fun e w' => e = .returned (.int .i64 n) ∧ w = w' := by
  go_enter Try.func102, Try.ntmps102
  go_wp2
  go_ret
  exact ⟨rfl, rfl⟩
theorem sizeO_is (A : Option Addr) (n c : Nat) (w : World) (hn : n ≤ 9223372036854775807) : Calls Try.prog 103 #[.slice A n c] w fun e w' => e = .returned (.int .i64 n) ∧ w = w' := by
  go_enter Try.func103, Try.ntmps103
  go_wp2
  go_ret
  exact ⟨rfl, rfl⟩
theorem within_same (n lo hi : Int) (b : Bool) (h : inB n lo hi = b) (w : World) : Calls Try.prog 60 #[.int .i64 n, .int .i64 lo, .int .i64 hi] w fun e w' => e = .returned (.bool b) ∧ w' = w := (within_is n lo hi b h w).mono fun e w' h => ⟨h.1, h.2.symm⟩
set_option maxHeartbeats 2000000 in
set_option maxRecDepth 100000 in
theorem areIndices_is (x0 x1 x2 : Int) (A1 : Option Addr) (n1 c1 : Nat) (A2 : Option Addr) (n2 c2 : Nat) (w : World) (h10 : n1 ≤ 1048576) (h20 : n2 ≤ 1048576) (a0 : -128 ≤ x0) (a1 : x0 ≤ 127) (b0 : -128 ≤ x1) (b1 : x1 ≤ 127) :
    Calls Try.prog 81 #[.agg #[.int .i8 x0, .int .i8 x1, .int .i16 x2], .slice A1 n1 c1, .slice A2 n2 c2] w fun e w' => e = .returned (.bool (inB x0 0 ((n2 : Int) - 1) && inB x1 0 ((n1 : Int) - 1))) ∧ Below w.heap.size w w' := by
  have e1 : IntKind.i64.wrap ((n1 : Int) - 1) = (n1 : Int) - 1 := IntWalk.i64_in _ (by omega)
  have e2 : IntKind.i64.wrap ((n2 : Int) - 1) = (n2 : Int) - 1 := IntWalk.i64_in _ (by omega)
  cases h1 : inB x0 0 ((n2 : Int) - 1) with
  | false =>
    go_enter Try.func81, Try.ntmps81
    go_wp2
    go_quiet ((first | (go_at_call 60; with_reducible exact Calls.quiet_of_same (within_same x0 _ _ _ h1 _)) | (go_at_call 60; with_reducible exact Calls.quiet_of_same (within_same x1 _ _ _ rfl _)) | (go_at_call 102; exact Calls.quiet_of_same ((sizeR_is _ _ _ _ (by omega)).mono fun e w' h => ⟨h.1, h.2.symm⟩))))
    go_wp2
    go_ret
    exact ⟨rfl, by first | exact (Below.refl _ _).alloc (Nat.le_refl _) _ | exact pw_below_drewN ((Below.refl _ _).alloc (Nat.le_refl _) _) _⟩
  | true =>
    go_enter Try.func81, Try.ntmps81
    go_wp2
    go_quiet ((first | (go_at_call 60; with_reducible exact Calls.quiet_of_same (within_same x0 _ _ _ h1 _)) | (go_at_call 60; with_reducible exact Calls.quiet_of_same (within_same x1 _ _ _ rfl _)) | (go_at_call 102; exact Calls.quiet_of_same ((sizeR_is _ _ _ _ (by omega)).mono fun e w' h => ⟨h.1, h.2.symm⟩)) | (go_at_call 103; exact Calls.quiet_of_same ((sizeO_is _ _ _ _ (by omega)).mono fun e w' h => ⟨h.1, h.2.symm⟩))))
    go_wp2
    go_ret
    exact ⟨rfl, by first | exact (Below.refl _ _).alloc (Nat.le_refl _) _ | exact pw_below_drewN ((Below.refl _ _).alloc (Nat.le_refl _) _) _⟩
/-- What makes a match bad, of n1 orders and n2 returns. -/
def refBad (n1 n2 : Nat) (x : S102) : Bool := decide (x.f2 < 0) || !(inB x.f0 0 ((n2 : Int) - 1) && inB x.f1 0 ((n1 : Int) - 1))
set_option maxHeartbeats 1000000 in
theorem refund_pred (B1 B2 : Nat) (A1 : Option Addr) (n1 c1 : Nat) (A2 : Option Addr) (n2 c2 : Nat) (ms : List S102) (w : World) (h1 : B1 < w.heap.size) (h2 : B2 < w.heap.size) (k1 : w.cell? ⟨B1, 0, none⟩ = some (.slice A1 n1 c1)) (k2 : w.cell? ⟨B2, 0, none⟩ = some (.slice A2 n2 c2)) (h10 : n1 ≤ 1048576) (h20 : n2 ≤ 1048576) (hms : ∀ x ∈ ms, okMatch x = true) :
    PredMatch 80 #[.pointer (some ⟨B1, 0, none⟩), .pointer (some ⟨B2, 0, none⟩)] (refBad n1 n2) ms w := by
  intro W x hx hb
  have d1 := (hb.cell (p := ⟨B1, 0, none⟩) h1).trans k1
  have d2 := (hb.cell (p := ⟨B2, 0, none⟩) h2).trans k2
  have hB1 : B1 < W.heap.size := Nat.lt_of_lt_of_le h1 hb.size
  have hB2 : B2 < W.heap.size := Nat.lt_of_lt_of_le h2 hb.size
  obtain ⟨a0, a1, b0, b1, m0, m1⟩ := okMatch_iff.1 (hms x hx)
  obtain ⟨a, b, m⟩ := x
  simp only at a0 a1 b0 b1 m0 m1
  clear k1 k2 hx hb hms h1 h2
  simp only [List.append_toArray, List.cons_append, List.nil_append]
  have E : Aside0 (refBad n1 n2 ⟨a, b, m⟩ = (decide (m < 0) || !(inB a 0 ((n2 : Int) - 1) && inB b 0 ((n1 : Int) - 1)))) := ⟨rfl⟩
  cases hq : decide (m < 0) with
  | true =>
    go_enter Try.func80, Try.ntmps80
    go_wp2
    go_ret
    exact ⟨by rw [E.out, hq]; rfl, (Below.refl _ _).alloc (Nat.le_refl _) _⟩
  | false =>
    go_enter Try.func80, Try.ntmps80
    go_wp2_with fail
    refine (areIndices_is a b m A1 n1 c1 A2 n2 c2 _ h10 h20 a0 a1 b0 b1).mono ?_
    rintro e w1 ⟨rfl, hb⟩
    have HB := Aside0.mk (below_call hb)
    clear hb
    generalize (inB a 0 ((n2 : Int) - 1) && inB b 0 ((n1 : Int) - 1)) = y at *
    go_wp2
    go_ret
    exact ⟨by rw [E.out, hq]; rfl, HB.out⟩
/-- A match's money. -/
def refStep (l : List S75) (s : Int) (x : S102) : Int := s + x.f2 * (l.getD x.f1.toNat z75).f3
theorem mul_bd {a b : Int} (h0 : -32768 ≤ a) (h1 : a ≤ 32768) (h2 : -32768 ≤ b) (h3 : b ≤ 32768) : -1073741824 ≤ a * b ∧ a * b ≤ 1073741824 := by
  have h : (a * b).natAbs ≤ 32768 * 32768 := by
    rw [Int.natAbs_mul]
    exact Nat.mul_le_mul (by omega) (by omega)
  omega
def refundRes (l : List S75) (m : List S81) (ms : List S102) : Int × Int :=
  if (ordersB l && returnsB m) = true then (if ms.any (refBad l.length m.length) = true then (0, 2) else (ms.foldl (refStep l) 0, 0)) else (0, 1)
theorem price_bd {l : List S75} (hl : ∀ x ∈ l, okOrder x = true) (i : Nat) (h : i < l.length) : -32768 ≤ (l.getD i z75).f3 ∧ (l.getD i z75).f3 ≤ 32767 := by
  have := okOrder_iff.1 (hl (l.getD i z75) (by rw [List.getD_eq_getElem?_getD, List.getElem?_eq_getElem h]; exact List.getElem_mem h))
  omega
set_option maxHeartbeats 2000000 in
set_option maxRecDepth 100000 in
theorem RefundOf_any (A : Option Addr) (c : Nat) (l : List S75) (A1 : Option Addr) (c1 : Nat) (m : List S81) (A2 : Option Addr) (c2 : Nat) (ms : List S102) (w : World) (hr : Kd.C k75 w A l.length l) (hc : l.length ≤ c) (hl : ∀ x ∈ l, okOrder x = true) (hll : l.length ≤ 1048576)
    (hr1 : Kd.C k81 w A1 m.length m) (hc1 : m.length ≤ c1) (hm : ∀ x ∈ m, okReturn x = true) (hml : m.length ≤ 1048576) (hr2 : Kd.C k102 w A2 ms.length ms) (hc2 : ms.length ≤ c2) (hs : ∀ x ∈ ms, okMatch x = true) (hsl : ms.length ≤ 1048576) :
    Calls Try.prog 33 #[.slice A l.length c, .slice A1 m.length c1, .slice A2 ms.length c2] w fun e w' => e = .returned (.tuple #[.int .i64 (refundRes l m ms).1, .int .i64 (refundRes l m ms).2]) ∧ Below w.heap.size w w' := by
  have HR := Aside0.mk hr
  have HR1 := Aside0.mk hr1
  have HR2 := Aside0.mk hr2
  have HL := Aside0.mk hl
  have HM := Aside0.mk hm
  have HS := Aside0.mk hs
  clear hr hr1 hr2 hl hm hs
  go_enter Try.func33, Try.ntmps33
  go_wp2_with fail
  obtain ⟨V, hV⟩ : ∃ V, V = (w.alloc (.cells #[.slice A l.length c] 25)).alloc (.cells #[.slice A1 m.length c1] 40) := ⟨_, rfl⟩
  have HBW : Aside0 (Below w.heap.size w V) := ⟨by rw [hV]; exact ((Below.refl _ _).alloc (Nat.le_refl _) _).alloc (by simp) _⟩
  have hzV : Aside0 (V.heap.size = w.heap.size + 1 + 1) := ⟨by rw [hV]; simp⟩
  have q0 : Aside0 (V.cell? ⟨w.heap.size, 0, none⟩ = some (.slice A l.length c)) := ⟨by rw [hV]; go_simp⟩
  have q1 : Aside0 (V.cell? ⟨w.heap.size + 1, 0, none⟩ = some (.slice A1 m.length c1)) := ⟨by rw [hV]; go_simp⟩
  rw [← hV]
  clear hV
  refine (ValidOrders_any A c l _ (Kd.C_below HR.out HBW.out) hc HL.out).mono ?_
  rintro e w1 ⟨rfl, hb⟩
  have H1 := Aside0.mk hb
  have hb1 : Aside0 (Below w.heap.size w w1) := ⟨HBW.out.trans (hb.mono HBW.out.size)⟩
  have d0 := pw_cell_below H1.out q0.out
  have d1 := pw_cell_below H1.out q1.out
  clear hb
  cases ho : ordersB l with
  | false =>
    have ER : Aside0 (refundRes l m ms = (0, 1)) := ⟨by unfold refundRes; rw [ho]; rfl⟩
    clear ho
    go_wp2
    go_ret2
    rw [ER.out]
    exact ⟨rfl, hb1.out⟩
  | true =>
    have HO := Aside0.mk ho
    clear ho
    go_wp2_with fail
    refine (ValidReturns_any A1 c1 m _ (Kd.C_below HR1.out hb1.out) hc1 HM.out).mono ?_
    rintro e w2 ⟨rfl, hb⟩
    have H2 : Aside0 (Below V.heap.size V w2) := ⟨H1.out.trans (hb.mono H1.out.size)⟩
    have hb2 : Aside0 (Below w.heap.size w w2) := ⟨HBW.out.trans (H2.out.mono HBW.out.size)⟩
    clear hb d0 d1
    have d0 := pw_cell_below H2.out q0.out
    have d1 := pw_cell_below H2.out q1.out
    cases hr : returnsB m with
    | false =>
      have ER : Aside0 (refundRes l m ms = (0, 1)) := ⟨by unfold refundRes; rw [HO.out, hr]; rfl⟩
      clear hr
      go_wp2
      go_ret2
      rw [ER.out]
      exact ⟨rfl, hb2.out⟩
    | true =>
      have EA : Aside0 (refundRes l m ms = if ms.any (refBad l.length m.length) = true then (0, 2) else (ms.foldl (refStep l) 0, 0)) := ⟨by unfold refundRes; rw [HO.out, hr]; rfl⟩
      have eg := enters_of Try.func80 (by kernel_rfl) rfl
      have hs2 := H2.out.size
      have hz2 := hzV.out
      have hl0 : w.heap.size < w2.heap.size := by omega
      have hl1 : w.heap.size + 1 < w2.heap.size := by omega
      clear hr
      go_wp2_with fail
      refine (containsFunc_Match 80 _ eg (refBad l.length m.length) A2 c2 ms _ (Kd.C_below HR2.out hb2.out) hc2 (refund_pred w.heap.size (w.heap.size + 1) A l.length c A1 m.length c1 ms _ hl0 hl1 d0 d1 hll hml HS.out)).mono ?_
      rintro e w3 ⟨rfl, hb⟩
      have H3 : Aside0 (Below V.heap.size V w3) := ⟨H2.out.trans (hb.mono H2.out.size)⟩
      have hb3 : Aside0 (Below w.heap.size w w3) := ⟨HBW.out.trans (H3.out.mono HBW.out.size)⟩
      clear hb d0 d1
      cases hany : ms.any (refBad l.length m.length) with
      | true =>
        have ER : Aside0 (refundRes l m ms = (0, 2)) := ⟨by rw [EA.out, if_pos hany]⟩
        clear hany
        go_wp2
        go_ret2
        rw [ER.out]
        exact ⟨rfl, hb3.out⟩
      | false =>
        have ER : Aside0 (refundRes l m ms = (ms.foldl (refStep l) 0, 0)) := ⟨by rw [EA.out, hany]; rfl⟩
        have HANY := Aside0.mk hany
        clear hany
        go_wp2
        go_loopg [8, 26] ms.length (fun gg v8 v26 wr => ∃ (kk : Nat) (s : Int), kk ≤ ms.length ∧ ms.length - kk ≤ gg ∧ v26 = .int .i64 kk ∧ v8 = .int .i64 s ∧ -(1073741824 * (kk : Int)) ≤ s ∧ s ≤ 1073741824 * (kk : Int) ∧ Aside0 (Below V.heap.size V wr) ∧ Aside0 ((ms.drop kk).foldl (refStep l) s = ms.foldl (refStep l) 0))
        case atStart => exact ⟨0, 0, by omega, by omega, rfl, rfl, by omega, by omega, H3, ⟨rfl⟩⟩
        case round =>
          obtain ⟨kk, s, hkk, hgg, rfl, rfl, hs0, hs1, BW, HA⟩ := hrel
          have hsz := BW.out.size
          have hzz := hzV.out
          have BW0 : Aside0 (Below w.heap.size w wr) := ⟨HBW.out.trans (BW.out.mono HBW.out.size)⟩
          by_cases hlt : kk < ms.length
          · have hltz : (kk : Int) < (ms.length : Int) := by omega
            have d0 := pw_cell_below BW.out q0.out
            have hw0 : w.heap.size < wr.heap.size := by omega
            obtain ⟨ad, e, hx0, hx1, hx2⟩ := at_T102 (Kd.C_below HR2.out BW0.out) (kk : Int) (by omega) hltz
            have hmem : ms.getD kk z102 ∈ ms := by rw [List.getD_eq_getElem?_getD, List.getElem?_eq_getElem hlt]; exact List.getElem_mem hlt
            have hbd := okMatch_iff.1 (HS.out _ hmem)
            have hnb := List.any_eq_false.1 HANY.out _ hmem
            have hd := drop_cons_of ms z102 kk hlt
            simp only [rd_T102, Int.toNat_natCast] at hx0 hx1 hx2
            subst e
            generalize ms.getD kk z102 = y at hx0 hx1 hx2 hbd hnb hd
            obtain ⟨a, b, n⟩ := y
            simp only [refBad, Bool.or_eq_true, decide_eq_true_eq, Bool.not_eq_true', Bool.and_eq_false_iff, not_or, Bool.not_eq_false, inB_true] at hnb
            obtain ⟨hn0, ⟨ha0, ha1⟩, hb0, hb1⟩ := hnb
            obtain ⟨b, rfl⟩ := Int.eq_ofNat_of_zero_le hb0
            simp only at hx0 hx1 hx2 hbd
            obtain ⟨g0, g1, g2, g3, g4, g5⟩ := hbd
            have hbl : b < l.length := by omega
            have hblz : (b : Int) < (l.length : Int) := by omega
            obtain ⟨ao, e, ho0, ho1, ho2, ho3, ho4⟩ := at_T75 (Kd.C_below HR.out BW0.out) (b : Int) (by omega) hblz
            have hpb := price_bd HL.out b hbl
            simp only [rd_T75, Int.toNat_natCast] at ho0 ho1 ho2 ho3 ho4
            subst e
            have HD : Aside0 ((ms.drop (kk + 1)).foldl (refStep l) (s + n * (l.getD b z75).f3) = ms.foldl (refStep l) 0) := ⟨by rw [← HA.out, hd]; simp [refStep]⟩
            generalize (l.getD b z75).f3 = p at ho3 hpb HD
            have hmb := mul_bd (a := n) (b := p) (by omega) (by omega) (by omega) (by omega)
            have i1 : IntKind.i64.wrap (n * p) = n * p := IntWalk.i64_in _ (by omega)
            have i2 : IntKind.i64.wrap (s + n * p) = s + n * p := IntWalk.i64_in _ (by omega)
            have hab := World.block_lt_of_cell? wr _ ho3
            clear hd HA ho0 ho1 ho2 ho4
            have hc3 : -(1073741824 * ((kk + 1 : Nat) : Int)) ≤ s + n * p ∧ s + n * p ≤ 1073741824 * ((kk + 1 : Nat) : Int) := by omega
            have HC3 := Aside0.mk hc3
            clear hc3
            go_wp2
            go_big_quiet (fail)
            go_wp2
            go_roundg (ms.length - (kk + 1))
            case measure => omega
            case rel => exact ⟨kk + 1, s + n * p, by omega, by omega, by go_num, rfl, HC3.out.1, HC3.out.2, ⟨by first | exact pw_below_drewN (BW.out.alloc BW.out.size _) _ | exact BW.out.alloc BW.out.size _⟩, HD⟩
          · have hltz : ¬ (kk : Int) < (ms.length : Int) := by omega
            have HF : Aside0 (s = ms.foldl (refStep l) 0) := ⟨by rw [← HA.out, List.drop_of_length_le (by omega)]; rfl⟩
            clear HA
            go_wp2
            go_ret2
            rw [ER.out]
            exact ⟨by rw [← HF.out]; rfl, BW0.out⟩
def impl_RefundOf.f (l0 : List (S75)) (l1 : List (S81)) (l2 : List (S102)) : Option (Int × Int) :=
  if (l0.all okOrder = true ∧ l0.length ≤ 1048576) ∧ (l1.all okReturn = true ∧ l1.length ≤ 1048576) ∧ l2.all okMatch = true ∧ l2.length ≤ 1048576 then some (refundRes l0 l1 l2) else none
theorem impl_RefundOf.calls (A0 : Option Addr) (c0 : Nat) (l0 : List (S75)) (A1 : Option Addr) (c1 : Nat) (l1 : List (S81)) (A2 : Option Addr) (c2 : Nat) (l2 : List (S102)) (r1 : Int) (r2 : Int) (w : World) (hr0 : Kd.C k75 w A0 l0.length l0) (hc0 : l0.length ≤ c0) (hr1 : Kd.C k81 w A1 l1.length l1) (hc1 : l1.length ≤ c1) (hr2 : Kd.C k102 w A2 l2.length l2) (hc2 : l2.length ≤ c2) (h : impl_RefundOf.f l0 l1 l2 = some (r1, r2)) :
    Calls Try.prog 33 #[.slice A0 l0.length c0, .slice A1 l1.length c1, .slice A2 l2.length c2] w fun e w' => e = .returned (.tuple #[.int .i64 r1, .int .i64 r2]) ∧ Below w.heap.size w w' := by
  unfold impl_RefundOf.f at h
  split at h
  · rename_i hh
    injection h with h
    have h1 : (refundRes l0 l1 l2).1 = r1 := by rw [h]
    have h2 : (refundRes l0 l1 l2).2 = r2 := by rw [h]
    rw [← h1, ← h2]
    exact RefundOf_any A0 c0 l0 A1 c1 l1 A2 c2 l2 w hr0 hc0 (List.all_eq_true.1 hh.1.1) hh.1.2 hr1 hc1 (List.all_eq_true.1 hh.2.1.1) hh.2.1.2 hr2 hc2 (List.all_eq_true.1 hh.2.2.1) hh.2.2.2
  · cases h
end Go.Proofs.Ytennlgkacijnnaa.Q
