/- impl's isRising, isEach, areSwapped; slices.Equal at []int64. -/
import Derived.Test.YtgjpnamckkedfaaHSorted
set_option linter.unusedVariables false
set_option linter.unusedSimpArgs false
namespace Go.Proofs.Ytgjpnamckkedfaa.Q
open Go.RowKit Go.Proofs.YtgjpnamckkedfaaW.PrintWords Go.Proofs.YtgjpnamckkedfaaW.PrintLast Go.Proofs.YtgjpnamckkedfaaW.PrintMore
open Go.Sort (grow)
def risB : List Int → Bool
  | x :: y :: r => decide (x < y) && risB (y :: r)
  | _ => true
theorem risB_step (l : List Int) (i : Nat) (h0 : 1 ≤ i) (h : i < l.length) : risB (l.drop (i - 1)) = (decide (l.getD (i - 1) 0 < l.getD i 0) && risB (l.drop i)) := by
  obtain ⟨j, rfl⟩ : ∃ j, i = j + 1 := ⟨i - 1, by omega⟩
  rw [Nat.add_sub_cancel, drop_cons_of l 0 j (by omega), drop_cons_of l 0 (j + 1) h]
  rfl
theorem risB_end (l : List Int) (i : Nat) (h : l.length ≤ i) : risB (l.drop (i - 1)) = true := by
  have : (l.drop (i - 1)).length ≤ 1 := by rw [List.length_drop]; omega
  match l.drop (i - 1), this with
  | [], _ => rfl
  | [x], _ => rfl
set_option maxHeartbeats 2000000 in
theorem isRising_is (A : Option Addr) (c : Nat) (l : List Int) (w : World) (hr : Kd.C (Kd.int .i64) w A l.length l) (hc : l.length ≤ c) (hl : l.length ≤ 1048576) :
    Calls Try.prog 25 #[.slice A l.length c] w fun e w' => e = .returned (.bool (risB l)) ∧ Below w.heap.size w w' := by
  have HR := Aside0.mk hr
  clear hr
  go_enter Try.func25, Try.ntmps25
  go_wp2
  go_loopg [3] l.length (fun gg v3 wr => ∃ i : Nat, 1 ≤ i ∧ l.length - i ≤ gg ∧ i ≤ l.length + 1 ∧ v3 = .int .i64 i ∧ Aside0 (Below w.heap.size w wr) ∧ Aside0 (risB (l.drop (i - 1)) = risB l))
  case atStart => exact ⟨1, Nat.le_refl _, by omega, by omega, rfl, ⟨Below.refl _ _⟩, ⟨rfl⟩⟩
  case round =>
    obtain ⟨i, hi, hg, hi2, rfl, BW, HD⟩ := hrel
    by_cases hlt : i < l.length
    · have hltz : (i : Int) < (l.length : Int) := by omega
      have hltz1 : ((i - 1 : Nat) : Int) < (l.length : Int) := by omega
      have hw1 : IntKind.i64.wrap ((i : Int) - 1) = ((i - 1 : Nat) : Int) := by rw [i64_w]; unfold wrap64; omega
      obtain ⟨ad, e, hx0⟩ := at_int64 (Kd.C_below HR.out BW.out) (i - 1) (by omega)
      obtain ⟨ad2, e2, hx1⟩ := at_int64 (Kd.C_below HR.out BW.out) i hlt
      subst e
      obtain rfl : ad = ad2 := by simpa using e2
      have hs := risB_step l i hi hlt
      rw [HD.out] at hs
      generalize l.getD (i - 1) 0 = x at *
      generalize l.getD i 0 = y at *
      have HS := Aside0.mk hs
      clear hs e2 HD
      by_cases hxy : y ≤ x
      · have hd : Aside0 (risB l = false) := ⟨by rw [HS.out, decide_eq_false (by omega)]; rfl⟩
        go_wp2_with fail
        go_quiet (fail)
        go_wp2
        go_ret
        exact ⟨by rw [hd.out]; rfl, pw_below_drewN BW.out _⟩
      · have hd : Aside0 (risB (l.drop (i + 1 - 1)) = risB l) := ⟨by rw [HS.out, decide_eq_true (by omega)]; rfl⟩
        go_wp2_with fail
        go_quiet (fail)
        go_wp2
        go_roundg (l.length - (i + 1))
        case measure => omega
        case rel => exact ⟨i + 1, by omega, by omega, by omega, by go_num, ⟨pw_below_drewN BW.out _⟩, hd⟩
    · have hltz : ¬ (i : Int) < (l.length : Int) := by omega
      have hd : Aside0 (risB l = true) := ⟨by rw [← HD.out]; exact risB_end l i (by omega)⟩
      go_wp2
      go_ret
      exact ⟨by rw [hd.out]; rfl, BW.out⟩
set_option maxHeartbeats 2000000 in
theorem equal_is (A : Option Addr) (c : Nat) (l : List Int) (A1 : Option Addr) (c1 : Nat) (m : List Int) (w : World) (hr : Kd.C (Kd.int .i64) w A l.length l) (hc : l.length ≤ c) (hr1 : Kd.C (Kd.int .i64) w A1 m.length m) (hc1 : m.length ≤ c1) :
    Calls Try.prog 37 #[.slice A l.length c, .slice A1 m.length c1] w fun e w' => e = .returned (.bool (decide (l = m))) ∧ Below w.heap.size w w' := by
  have HR := Aside0.mk hr
  have HR1 := Aside0.mk hr1
  have hbig : l.length ≤ 9223372036854775807 := hr.2.1
  clear hr hr1
  by_cases hlen : l.length = m.length
  · have HL := Aside0.mk hlen
    have q0 : ((l.length : Int) != (m.length : Int)) = false := by simp [hlen]
    clear hlen
    go_enter Try.func37, Try.ntmps37
    go_wp2_with fail
    go_loopg [13] l.length (fun gg v13 wr => ∃ k : Nat, k ≤ l.length ∧ l.length - k ≤ gg ∧ v13 = .int .i64 k ∧ Aside0 (Below w.heap.size w wr) ∧ Aside0 ((l.drop k = m.drop k) ↔ l = m))
    case atStart => exact ⟨0, Nat.zero_le _, by omega, rfl, ⟨Below.refl _ _⟩, ⟨by simp⟩⟩
    case round =>
      obtain ⟨k, hk, hg, rfl, BW, HD⟩ := hrel
      by_cases hlt : k < l.length
      · have hltz : (k : Int) < (l.length : Int) := by omega
        have hltm : (k : Int) < (m.length : Int) := by have := HL.out; omega
        obtain ⟨ad, e, hx0⟩ := at_int64 (Kd.C_below HR.out BW.out) k hlt
        obtain ⟨ad1, e1, hy0⟩ := at_int64 (Kd.C_below HR1.out BW.out) k (by omega)
        subst e
        subst e1
        have H2 : Aside0 ((l.drop k = m.drop k) ↔ (l.getD k 0 = m.getD k 0 ∧ l.drop (k + 1) = m.drop (k + 1))) := ⟨by rw [drop_cons_of l 0 k hlt, drop_cons_of m 0 k (by omega), List.cons.injEq]⟩
        generalize l.getD k 0 = x at *
        generalize m.getD k 0 = y at *
        by_cases hxy : x = y
        · have hd : Aside0 ((l.drop (k + 1) = m.drop (k + 1)) ↔ l = m) := ⟨by rw [← HD.out, H2.out]; exact ⟨fun h => ⟨hxy, h⟩, fun h => h.2⟩⟩
          have hxz : (x != y) = false := by simp [hxy]
          clear hxy
          go_wp2_with fail
          go_quiet (fail)
          go_wp2
          go_roundg (l.length - (k + 1))
          case measure => omega
          case rel => exact ⟨k + 1, by omega, by omega, by go_num, ⟨pw_below_drewN BW.out _⟩, hd⟩
        · have hd : Aside0 (decide (l = m) = false) := ⟨decide_eq_false (fun h => hxy (H2.out.1 (HD.out.2 h)).1)⟩
          have hxz : (x != y) = true := by simp [hxy]
          clear hxy
          go_wp2_with fail
          go_quiet (fail)
          go_wp2
          go_ret
          exact ⟨by rw [hd.out]; rfl, pw_below_drewN BW.out _⟩
      · have hltz : ¬ (k : Int) < (l.length : Int) := by omega
        have hd : Aside0 (decide (l = m) = true) := ⟨decide_eq_true (HD.out.1 (by rw [List.drop_of_length_le (by omega), List.drop_of_length_le (by have := HL.out; omega)]))⟩
        go_wp2
        go_ret
        exact ⟨by rw [hd.out]; rfl, BW.out⟩
  · have q0 : ((l.length : Int) != (m.length : Int)) = true := by simpa using fun h => hlen (by omega)
    have hd : Aside0 (decide (l = m) = false) := ⟨decide_eq_false (fun e => hlen (by rw [e]))⟩
    clear hlen
    go_enter Try.func37, Try.ntmps37
    go_wp2
    go_ret
    exact ⟨by rw [hd.out]; rfl, Below.refl _ _⟩
/-- slices.Sorted(slices.Values(l)): what both calls come to. -/
theorem values_is (A : Option Addr) (c n : Nat) (w : World) : Calls Try.prog 23 #[.slice A n c] w fun e w' => e = .returned (.func (.func 33) #[] #[.pointer (some ⟨w.heap.size, 0, none⟩)]) ∧ w' = w.alloc (.cells #[.slice A n c] 25) :=
  callsIn_wide.1 (values_in Fence.wide 1 trivial rfl A n c w)
theorem sorted_values (A : Option Addr) (c : Nat) (l : List Int) (w : World) (hr : Kd.C (Kd.int .i64) w A l.length l) (hl : l.length ≤ 1048576) :
    Calls Try.prog 22 #[.func (.func 33) #[] #[.pointer (some ⟨w.heap.size, 0, none⟩)]] (w.alloc (.cells #[.slice A l.length c] 25)) fun e w' => ∃ v, e = .returned v ∧ Kd.R (Kd.int .i64) 2 w' w.heap.size (fun _ => True) v (sortL l) ∧ Below w.heap.size w w' := by
  refine (sorted_is w.heap.size _ l hl _ (by simp) (by go_simp) (ints_of_C (c := c) (Kd.C_alloc hr _))).mono ?_
  rintro e w' ⟨v, rfl, hR, hb⟩
  exact ⟨v, rfl, Kd.R_lower hR (by simp), ((Below.refl _ w).alloc (Nat.le_refl _) _).trans (hb.mono (by simp))⟩
set_option maxHeartbeats 2000000 in
theorem isEach_is (A : Option Addr) (c : Nat) (l : List Int) (A1 : Option Addr) (c1 : Nat) (m : List Int) (w : World) (hr : Kd.C (Kd.int .i64) w A l.length l) (hl : l.length ≤ 1048576) (hr1 : Kd.C (Kd.int .i64) w A1 m.length m) (hc1 : m.length ≤ c1) :
    Calls Try.prog 26 #[.slice A l.length c, .slice A1 m.length c1] w fun e w' => e = .returned (.bool (decide (sortL l = m))) ∧ Below w.heap.size w w' := by
  have HS := Aside0.mk (sorted_values A c l w hr hl)
  have HR1 := Aside0.mk hr1
  clear hr hr1
  go_enter Try.func26, Try.ntmps26
  go_wp2_with fail
  refine (values_is A c l.length w).mono ?_
  rintro e w1 ⟨rfl, rfl⟩
  go_wp2_with fail
  refine HS.out.mono ?_
  rintro e w2 ⟨v, rfl, hR, hb⟩
  obtain ⟨A2, c2, rfl, hc2, hC2⟩ := Kd.R_reads hR
  have HB := Aside0.mk hb
  have HC2 := Aside0.mk hC2
  clear hR hC2 hb
  go_wp2_with fail
  refine (equal_is A2 c2 (sortL l) A1 c1 m w2 HC2.out hc2 (Kd.C_below HR1.out HB.out) hc1).mono ?_
  rintro e w3 ⟨rfl, hb3⟩
  go_wp2
  go_ret
  exact ⟨rfl, HB.out.trans (hb3.mono HB.out.size)⟩
def areSwB (l m : List Int) : Bool := decide (l.length ≤ 9) && (allIn l 0 100 && (risB (sortL l) && decide (sortL m = sortL l)))
set_option maxRecDepth 100000 in
set_option maxHeartbeats 4000000 in
theorem areSwapped_is (A : Option Addr) (c : Nat) (l : List Int) (A1 : Option Addr) (c1 : Nat) (m : List Int) (w : World) (hr : Kd.C (Kd.int .i64) w A l.length l) (hc : l.length ≤ c) (hl : l.length ≤ 1048576) (hr1 : Kd.C (Kd.int .i64) w A1 m.length m) (hc1 : m.length ≤ c1) (hm : m.length ≤ 1048576) :
    Calls Try.prog 14 #[.slice A l.length c, .slice A1 m.length c1] w fun e w' => e = .returned (.bool (areSwB l m)) ∧ Below w.heap.size w w' := by
  have HS := Aside0.mk (sorted_values A c l w hr hl)
  have HR := Aside0.mk hr
  have HR1 := Aside0.mk hr1
  clear hr hr1
  go_enter Try.func14, Try.ntmps14
  go_wp2_with fail
  refine (values_is A c l.length w).mono ?_
  rintro e w1 ⟨rfl, rfl⟩
  go_wp2_with fail
  refine HS.out.mono ?_
  rintro e w2 ⟨v, rfl, hR, hb⟩
  obtain ⟨A2, c2, rfl, hc2, hC2⟩ := Kd.R_reads hR
  have HB := Aside0.mk hb
  have hsl : (sortL l).length ≤ 1048576 := by rw [sortL_length]; exact hl
  have cW : Aside0 (∀ W, Below w2.heap.size w2 W → Calls Try.prog 24 #[.slice A l.length c, .int .i64 0, .int .i64 100] W fun e w' => e = .returned (.bool (allIn l 0 100)) ∧ Below w2.heap.size w2 w') :=
    ⟨fun W h => (areWithin_is A c l 0 100 W (Kd.C_below (Kd.C_below HR.out hb) h) hc).mono fun _ _ ⟨he, h2⟩ => ⟨he, h.trans (h2.mono h.size)⟩⟩
  have cR : Aside0 (∀ W, Below w2.heap.size w2 W → Calls Try.prog 25 #[.slice A2 (sortL l).length c2] W fun e w' => e = .returned (.bool (risB (sortL l))) ∧ Below w2.heap.size w2 w') :=
    ⟨fun W h => (isRising_is A2 c2 (sortL l) W (Kd.C_below hC2 h) hc2 hsl).mono fun _ _ ⟨he, h2⟩ => ⟨he, h.trans (h2.mono h.size)⟩⟩
  have cE : Aside0 (∀ W, Below w2.heap.size w2 W → Calls Try.prog 26 #[.slice A1 m.length c1, .slice A2 (sortL l).length c2] W fun e w' => e = .returned (.bool (decide (sortL m = sortL l))) ∧ Below w2.heap.size w2 w') :=
    ⟨fun W h => (isEach_is A1 c1 m A2 c2 (sortL l) W (Kd.C_below (Kd.C_below HR1.out hb) h) hm (Kd.C_below hC2 h) hc2).mono fun _ _ ⟨he, h2⟩ => ⟨he, h.trans (h2.mono h.size)⟩⟩
  have HE : Aside0 (areSwB l m = (decide (l.length ≤ 9) && (allIn l 0 100 && (risB (sortL l) && decide (sortL m = sortL l))))) := ⟨rfl⟩
  clear hR hb hC2
  generalize decide (sortL m = sortL l) = b3 at *
  generalize risB (sortL l) = b2 at *
  generalize allIn l 0 100 = b1 at *
  have fin : Aside0 (∀ W, Below w2.heap.size w2 W → Below w.heap.size w W) := ⟨fun W h => HB.out.trans (h.mono HB.out.size)⟩
  by_cases h9 : l.length ≤ 9
  · have h9z : (l.length : Int) ≤ 9 := by omega
    rw [decide_eq_true h9, Bool.true_and] at HE
    cases b1 with
    | true =>
      cases b2 with
      | true =>
        go_wp2_with (first | (go_at_call 24; refine (cW.out _ (Below.refl _ _)).mono ?_; rintro e w3 ⟨rfl, hb3⟩) | (go_at_call 25; refine (cR.out _ hb3).mono ?_; rintro e w4 ⟨rfl, hb4⟩) | (go_at_call 26; refine (cE.out _ hb4).mono ?_; rintro e w5 ⟨rfl, hb5⟩))
        go_ret
        exact ⟨by rw [HE.out]; rfl, fin.out _ hb5⟩
      | false =>
        go_wp2_with (first | (go_at_call 24; refine (cW.out _ (Below.refl _ _)).mono ?_; rintro e w3 ⟨rfl, hb3⟩) | (go_at_call 25; refine (cR.out _ hb3).mono ?_; rintro e w4 ⟨rfl, hb4⟩) | (go_at_call 26; refine (cE.out _ hb4).mono ?_; rintro e w5 ⟨rfl, hb5⟩))
        go_ret
        exact ⟨by rw [HE.out]; rfl, fin.out _ hb4⟩
    | false =>
      go_wp2_with (first | (go_at_call 24; refine (cW.out _ (Below.refl _ _)).mono ?_; rintro e w3 ⟨rfl, hb3⟩) | (go_at_call 25; refine (cR.out _ hb3).mono ?_; rintro e w4 ⟨rfl, hb4⟩) | (go_at_call 26; refine (cE.out _ hb4).mono ?_; rintro e w5 ⟨rfl, hb5⟩))
      go_ret
      exact ⟨by rw [HE.out]; rfl, fin.out _ hb3⟩
  · have h9z : ¬ (l.length : Int) ≤ 9 := by omega
    rw [decide_eq_false h9, Bool.false_and] at HE
    go_wp2_with (first | (go_at_call 24; refine (cW.out _ (Below.refl _ _)).mono ?_; rintro e w3 ⟨rfl, hb3⟩) | (go_at_call 25; refine (cR.out _ hb3).mono ?_; rintro e w4 ⟨rfl, hb4⟩) | (go_at_call 26; refine (cE.out _ hb4).mono ?_; rintro e w5 ⟨rfl, hb5⟩))
    go_ret
    exact ⟨by rw [HE.out]; rfl, fin.out _ (Below.refl _ _)⟩
end Go.Proofs.Ytgjpnamckkedfaa.Q
