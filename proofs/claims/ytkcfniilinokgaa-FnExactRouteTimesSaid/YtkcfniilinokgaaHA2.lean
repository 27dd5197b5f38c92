/- The law's helpers at pairs of hours ([2]int64): whether two lists are the same; marks written into a list, and found again. -/
import Derived.Test.YtkcfniilinokgaaQ0
import Derived.Deep.QuietTactic
import Derived.BigQuiet
import Derived.Lib.QuietBelow
set_option linter.unusedVariables false
set_option linter.unusedSimpArgs false
namespace Go.Proofs.Ytkcfniilinokgaa.Q
open Go.RowKit Go.Proofs.YtkcfniilinokgaaW.PrintWords Go.Proofs.YtkcfniilinokgaaW.PrintLast Go.Proofs.YtkcfniilinokgaaW.PrintMore
abbrev Two2 := S51
instance : DecidableEq Two2 := fun x y => decidable_of_iff (x.f0 = y.f0 ∧ x.f1 = y.f1) (by cases x; cases y; simp)
theorem two_eq (x y : Two2) : x = y ↔ x.f0 = y.f0 ∧ x.f1 = y.f1 := by cases x; cases y; simp
set_option maxHeartbeats 2000000 in
theorem eqA2_is (a b c d : Int) (w : World) : Calls Try.prog 23 #[.agg #[.int .i64 a, .int .i64 b], .agg #[.int .i64 c, .int .i64 d]] w fun e w' => e = .returned (.bool (decide (a = c ∧ b = d))) ∧ Below w.heap.size w w' := by
  go_enter Try.func23, Try.ntmps23
  go_wp2
  have c0 : ((w.alloc (.cells #[.int .i64 a, .int .i64 b] 51)).alloc (.cells #[.int .i64 c, .int .i64 d] 51)).cell? ⟨w.heap.size, 0, none⟩ = some (.int .i64 a) := by go_simp
  have c1 : ((w.alloc (.cells #[.int .i64 a, .int .i64 b] 51)).alloc (.cells #[.int .i64 c, .int .i64 d] 51)).cell? ⟨w.heap.size, 1, none⟩ = some (.int .i64 b) := by go_simp
  have c2 : ((w.alloc (.cells #[.int .i64 a, .int .i64 b] 51)).alloc (.cells #[.int .i64 c, .int .i64 d] 51)).cell? ⟨w.heap.size + 1, 0, none⟩ = some (.int .i64 c) := by go_simp
  have c3 : ((w.alloc (.cells #[.int .i64 a, .int .i64 b] 51)).alloc (.cells #[.int .i64 c, .int .i64 d] 51)).cell? ⟨w.heap.size + 1, 1, none⟩ = some (.int .i64 d) := by go_simp
  have B0 := Aside0.mk (((Below.refl _ w).alloc (Nat.le_refl _) (.cells #[.int .i64 a, .int .i64 b] 51)).alloc (by simp) (.cells #[.int .i64 c, .int .i64 d] 51))
  have hs : w.heap.size + 1 < ((w.alloc (.cells #[.int .i64 a, .int .i64 b] 51)).alloc (.cells #[.int .i64 c, .int .i64 d] 51)).heap.size := by simp
  generalize ((w.alloc (.cells #[.int .i64 a, .int .i64 b] 51)).alloc (.cells #[.int .i64 c, .int .i64 d] 51)) = W at *
  have C0 := Aside0.mk c0
  have C1 := Aside0.mk c1
  have C2 := Aside0.mk c2
  have C3 := Aside0.mk c3
  clear c0 c1 c2 c3
  go_loopg [5] 2 (fun gg v5 wr => ∃ k : Nat, k ≤ 2 ∧ 2 - k ≤ gg ∧ v5 = .int .i64 k ∧ Aside0 (Below W.heap.size W wr) ∧ Aside0 (0 < k → a = c) ∧ Aside0 (1 < k → b = d))
  case atStart => exact ⟨0, by omega, by omega, rfl, ⟨Below.refl _ _⟩, ⟨fun h => absurd h (by omega)⟩, ⟨fun h => absurd h (by omega)⟩⟩
  case round =>
    obtain ⟨k, hk, hg, rfl, BW, H0, H1⟩ := hrel
    have d0 := (BW.out.cell (p := ⟨w.heap.size, 0, none⟩) (show w.heap.size < W.heap.size by omega)).trans C0.out
    have d1 := (BW.out.cell (p := ⟨w.heap.size, 1, none⟩) (show w.heap.size < W.heap.size by omega)).trans C1.out
    have d2 := (BW.out.cell (p := ⟨w.heap.size + 1, 0, none⟩) hs).trans C2.out
    have d3 := (BW.out.cell (p := ⟨w.heap.size + 1, 1, none⟩) hs).trans C3.out
    have hsr : w.heap.size + 1 < wr.heap.size := Nat.lt_of_lt_of_le hs BW.out.size
    match k, hk with
    | 0, _ =>
      go_wp2_with fail
      go_quiet (fail)
      go_wp2
      · rename_i hq
        go_ret
        exact ⟨by rw [decide_eq_false (fun h => by rw [h.1] at hq; simp at hq)]; rfl, pw_below_drewN (B0.out.trans (BW.out.mono B0.out.size)) _⟩
      · rename_i hq
        go_roundg 1
        case measure => omega
        case rel => exact ⟨1, by omega, by omega, rfl, ⟨pw_below_drewN BW.out _⟩, ⟨fun _ => by simpa using hq⟩, ⟨fun h => absurd h (by omega)⟩⟩
    | 1, _ =>
      go_wp2_with fail
      go_quiet (fail)
      go_wp2
      · rename_i hq
        go_ret
        exact ⟨by rw [decide_eq_false (fun h => by rw [h.2] at hq; simp at hq)]; rfl, pw_below_drewN (B0.out.trans (BW.out.mono B0.out.size)) _⟩
      · rename_i hq
        go_roundg 0
        case measure => omega
        case rel => exact ⟨2, by omega, by omega, rfl, ⟨pw_below_drewN BW.out _⟩, ⟨fun _ => H0.out (by omega)⟩, ⟨fun _ => by simpa using hq⟩⟩
    | 2, _ =>
      go_wp2
      go_ret
      exact ⟨by rw [decide_eq_true ⟨H0.out (by omega), H1.out (by omega)⟩]; rfl, B0.out.trans (BW.out.mono B0.out.size)⟩
theorem two_at (l m : List Two2) (z : Two2) (k : Nat) (hk : k < l.length) (hm : l.length = m.length) : (l.drop k = m.drop k) ↔ (l.getD k z = m.getD k z ∧ l.drop (k + 1) = m.drop (k + 1)) := by
  have e1 : l.drop k = l.getD k z :: l.drop (k + 1) := by rw [List.getD_eq_getElem?_getD, List.getElem?_eq_getElem hk]; exact List.drop_eq_getElem_cons hk
  have e2 : m.drop k = m.getD k z :: m.drop (k + 1) := by rw [List.getD_eq_getElem?_getD, List.getElem?_eq_getElem (by omega)]; exact List.drop_eq_getElem_cons (by omega)
  rw [e1, e2, List.cons.injEq]
set_option maxHeartbeats 4000000 in
theorem eqA2S_is (A : Option Addr) (c : Nat) (l : List Two2) (A1 : Option Addr) (c1 : Nat) (m : List Two2) (w : World) (hr : Kd.C k51 w A l.length l) (hc : l.length ≤ c) (hr1 : Kd.C k51 w A1 m.length m) (hc1 : m.length ≤ c1) :
    Calls Try.prog 9 #[.slice A l.length c, .slice A1 m.length c1] w fun e w' => e = .returned (.bool (decide (l = m))) ∧ Below w.heap.size w w' := by
  have HR := Aside0.mk hr
  have HR1 := Aside0.mk hr1
  have hbig : l.length ≤ 9223372036854775807 := hr.2.1
  clear hr hr1
  by_cases hlen : l.length = m.length
  · have HL := Aside0.mk hlen
    have q0 : ((l.length : Int) != (m.length : Int)) = false := by simp [hlen]
    clear hlen
    go_enter Try.func9, Try.ntmps9
    go_wp2
    go_loopg [5] l.length (fun gg v5 wr => ∃ k : Nat, k ≤ l.length ∧ l.length - k ≤ gg ∧ v5 = .int .i64 k ∧ Aside0 (Below w.heap.size w wr) ∧ Aside0 ((l.drop k = m.drop k) ↔ l = m))
    case atStart => exact ⟨0, Nat.zero_le _, by omega, rfl, ⟨Below.refl _ _⟩, ⟨by simp⟩⟩
    case round =>
      obtain ⟨k, hk, hg, rfl, BW, HD⟩ := hrel
      by_cases hlt : k < l.length
      · have hltz : (k : Int) < (l.length : Int) := by omega
        have hltm : (k : Int) < (m.length : Int) := by have := HL.out; omega
        obtain ⟨ad, e, hx0, hx1⟩ := at_T51 (Kd.C_below HR.out BW.out) (k : Int) (by omega) hltz
        obtain ⟨ad1, e1, hy0, hy1⟩ := at_T51 (Kd.C_below HR1.out BW.out) (k : Int) (by omega) hltm
        simp only [rd_T51, Int.toNat_natCast] at hx0 hx1 hy0 hy1
        subst e
        subst e1
        have H2 := Aside0.mk ((two_at l m z51 k hlt HL.out))
        generalize hx : l.getD k z51 = x at hx0 hx1 H2
        generalize hy : m.getD k z51 = y at hy0 hy1 H2
        clear hx hy
        obtain ⟨a, b⟩ := x
        obtain ⟨c', d⟩ := y
        simp only at hx0 hx1 hy0 hy1
        have hx0' := cell_regrown hx0
        have hx1' := cell_regrown hx1
        have hy0' := cell_regrown hy0
        have hy1' := cell_regrown hy1
        obtain ⟨q, hq⟩ : ∃ q, decide (a = c' ∧ b = d) = q := ⟨_, rfl⟩
        have HE : ∀ d' os, Calls Try.prog 23 #[.agg #[.int .i64 a, .int .i64 b], .agg #[.int .i64 c', .int .i64 d]] (Go.Sort.grow (redrawn wr d') os) fun e w' => e = .returned (.bool q) ∧ ∃ p : Regrown, w' = Go.Sort.grow (redrawn wr p.d) p.os := fun d' os => hq ▸ Calls.regrown_of (eqA2_is a b c' d _)
        have HQ := Aside0.mk hq
        clear hx0 hx1 hy0 hy1 hq
        go_wp2_with fail
        refine wp_region_quiet_below (by kernel_rfl) (by kernel_rfl) ?_
        repeat (quiet_step ((go_at_call 23; with_reducible exact HE _ _)))
        refine wpQuiet_nil ?_
        intro _ hw'
        obtain ⟨⟨dq, osq⟩, hw''⟩ := hw'
        subst hw''
        have BW2 : Aside0 (Below w.heap.size w (Go.Sort.grow (redrawn wr dq) osq)) := ⟨BW.out.trans ((below_regrown wr dq osq).mono BW.out.size)⟩
        clear HE hx0' hx1' hy0' hy1'
        generalize Go.Sort.grow (redrawn wr dq) osq = W3 at *
        cases q with
        | false =>
          have HQ' := Aside0.mk (of_decide_eq_false HQ.out)
          go_wp2
          go_ret
          exact ⟨by rw [decide_eq_false (fun h => HQ'.out (by have := (H2.out.1 (HD.out.2 h)).1; rw [two_eq] at this; exact this))]; rfl, BW2.out⟩
        | true =>
          have HQ' := Aside0.mk (of_decide_eq_true HQ.out)
          go_wp2
          go_roundg (l.length - (k + 1))
          case measure => omega
          case rel => exact ⟨k + 1, by omega, by omega, by go_num, BW2, ⟨by rw [← HD.out, H2.out]; exact ⟨fun h => ⟨(two_eq _ _).2 HQ'.out, h⟩, fun h => h.2⟩⟩⟩
      · have hltz : ¬ (k : Int) < (l.length : Int) := by omega
        have hk' : k = l.length := by omega
        have ED : Aside0 (l = m) := ⟨HD.out.1 (by rw [List.drop_of_length_le (by omega), List.drop_of_length_le (by have := HL.out; omega)])⟩
        go_wp2
        go_ret
        exact ⟨by rw [decide_eq_true ED.out]; rfl, BW.out⟩
  · have q0 : ((l.length : Int) != (m.length : Int)) = true := by simp; omega
    have ED : Aside0 (decide (l = m) = false) := ⟨decide_eq_false (fun h => hlen (by rw [h]))⟩
    clear hlen
    go_enter Try.func9, Try.ntmps9
    go_wp2
    go_ret
    exact ⟨by rw [ED.out]; rfl, Below.refl _ _⟩
def laws_eqInt64A2S.f (l0 : List Two2) (l1 : List Two2) : Option (Bool) := some (decide (l0 = l1))
theorem laws_eqInt64A2S.calls (A0 : Option Addr) (c0 : Nat) (l0 : List Two2) (A1 : Option Addr) (c1 : Nat) (l1 : List Two2) (r : Bool) (w : World) (hr0 : Kd.C k51 w A0 l0.length l0) (hc0 : l0.length ≤ c0) (hr1 : Kd.C k51 w A1 l1.length l1) (hc1 : l1.length ≤ c1) (h : laws_eqInt64A2S.f l0 l1 = some r) :
    Calls Try.prog 9 #[.slice A0 l0.length c0, .slice A1 l1.length c1] w fun e w' => e = .returned (.bool r) ∧ Below w.heap.size w w' := by
  unfold laws_eqInt64A2S.f at h
  injection h with h
  subst h
  exact eqA2S_is _ _ _ _ _ _ _ hr0 hc0 hr1 hc1
end Go.Proofs.Ytkcfniilinokgaa.Q
