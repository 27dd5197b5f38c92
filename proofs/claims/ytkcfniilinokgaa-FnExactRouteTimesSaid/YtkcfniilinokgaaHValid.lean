/- impl.ValidNet and spec.ValidNet: both tell netB, for nets whose fields lie in their kinds. -/
import Derived.Test.YtkcfniilinokgaaNet
import Derived.Test.YtkcfniilinokgaaIdx
import Derived.Deep.QuietTactic
import Derived.BigQuiet
set_option linter.unusedVariables false
set_option linter.unusedSimpArgs false
namespace Go.Proofs.Ytkcfniilinokgaa.Q
open Go.RowKit Go.Proofs.YtkcfniilinokgaaW.PrintWords Go.Proofs.YtkcfniilinokgaaW.PrintLast Go.Proofs.YtkcfniilinokgaaW.PrintMore

theorem within_is (n lo hi : Int) (b : Bool) (h : inB n lo hi = b) (w : World) : Calls Try.prog 37 #[.int .i64 n, .int .i64 lo, .int .i64 hi] w fun e w' => e = .returned (.bool b) ∧ w = w' := by
  subst h
  by_cases h1 : lo ≤ n
  · by_cases h2 : n ≤ hi
    · go_enter Try.func37, Try.ntmps37
      go_wp2
      go_ret
      exact ⟨by simp [inB, h1, h2], rfl⟩
    · go_enter Try.func37, Try.ntmps37
      go_wp2
      go_ret
      exact ⟨by simp [inB, h2], rfl⟩
  · have h3 : inB n lo hi = false := by rw [inB_false]; omega
    go_enter Try.func37, Try.ntmps37
    go_wp2
    go_ret
    exact ⟨rfl, rfl⟩
theorem isStation_is (s t : Int) (v : Value) (x : Int) (b : Bool) (hs0 : -128 ≤ s) (hs1 : s ≤ 127) (h : inB x 0 (s - 1) = b) (w : World) :
    Calls Try.prog 34 #[.agg #[.int .i8 s, .int .i16 t, v], .int .i64 x] w fun e w' => e = .returned (.bool b) ∧ Below w.heap.size w w' := by
  have H := Aside0.mk h
  clear h
  go_enter Try.func34, Try.ntmps34
  go_wp2_with (go_at_call 37; refine (within_is _ _ _ _ H.out _).mono ?_; rintro e w' ⟨rfl, rfl⟩)
  go_ret
  exact ⟨rfl, (Below.refl _ _).alloc (Nat.le_refl _) _⟩
/-- The literal of ValidNet, in whatever world holds the net in its block. -/
theorem lane_pred (B : Nat) (s t : Int) (v : Value) (l : List S55) (w : World) (hB : B < w.heap.size) (c0 : w.cell? ⟨B, 0, none⟩ = some (.int .i8 s)) (c1 : w.cell? ⟨B, 1, none⟩ = some (.int .i16 t)) (c2 : w.cell? ⟨B, 2, none⟩ = some v)
    (hs0 : -128 ≤ s) (hs1 : s ≤ 127) (hl : ∀ x ∈ l, okLane x = true) : PredLane 39 #[.pointer (some ⟨B, 0, none⟩)] (laneBad s) l w := by
  intro W x hx hb
  have d0 := (hb.cell (p := ⟨B, 0, none⟩) hB).trans c0
  have d1 := (hb.cell (p := ⟨B, 1, none⟩) hB).trans c1
  have d2 := (hb.cell (p := ⟨B, 2, none⟩) hB).trans c2
  obtain ⟨a1, a2, a3, a4, a5, a6, a7, a8⟩ := okLane_iff.1 (hl x hx)
  have hBW : B < W.heap.size := Nat.lt_of_lt_of_le hB hb.size
  clear c0 c1 c2 hl hx hb
  obtain ⟨f, g, m, n⟩ := x
  simp only at a1 a2 a3 a4 a5 a6 a7 a8 ⊢
  simp only [List.append_toArray, List.cons_append, List.nil_append]
  have E : Aside0 (laneBad s ⟨f, g, m, n⟩ = (!inB f 0 (s - 1) || (!inB g 0 (s - 1) || (f == g || (!inB m 1 n || decide (40 < n)))))) := ⟨rfl⟩
  go_enter Try.func39, Try.ntmps39
  go_wp2_with fail
  cases h1 : inB f 0 (s - 1) with
  | false =>
    refine (isStation_is _ _ _ _ _ hs0 hs1 h1 _).mono ?_
    rintro e w1 ⟨rfl, hb⟩
    have H1 := Aside0.mk h1
    clear h1
    go_wp2
    go_ret
    exact ⟨by rw [E.out, H1.out]; rfl, below_call hb⟩
  | true =>
    refine (isStation_is _ _ _ _ _ hs0 hs1 h1 _).mono ?_
    rintro e w1 ⟨rfl, hb⟩
    have H1 := Aside0.mk h1
    clear h1
    obtain ⟨hc, hf⟩ := bcell hb
    go_wp2_with fail
    cases h2 : inB g 0 (s - 1) with
    | false =>
      refine (isStation_is _ _ _ _ _ hs0 hs1 h2 _).mono ?_
      rintro e w2 ⟨rfl, hb2⟩
      have H2 := Aside0.mk h2
      clear h2
      go_wp2
      go_ret
      exact ⟨by rw [E.out, H1.out, H2.out]; rfl, below_call (hb.trans (hb2.mono hb.size))⟩
    | true =>
      refine (isStation_is _ _ _ _ _ hs0 hs1 h2 _).mono ?_
      rintro e w2 ⟨rfl, hb2⟩
      have H2 := Aside0.mk h2
      clear h2
      have hb3 := Aside0.mk (below_call (hb.trans (hb2.mono hb.size)))
      have hz : W.heap.size < w1.heap.size := by have := hb.size; simp at this; omega
      obtain ⟨hc2, hf2⟩ := bcell hb2
      cases h3 : (f == g) with
      | true =>
        go_wp2
        go_ret
        exact ⟨by rw [E.out, H1.out, H2.out, h3]; rfl, hb3.out⟩
      | false =>
        go_wp2_with fail
        cases h4 : inB m 1 n with
        | false =>
          refine (within_is _ _ _ _ h4 _).mono ?_
          rintro e w' ⟨rfl, rfl⟩
          have H4 := Aside0.mk h4
          clear h4
          go_wp2
          go_ret
          exact ⟨by rw [E.out, H1.out, H2.out, h3, H4.out]; rfl, hb3.out⟩
        | true =>
          refine (within_is _ _ _ _ h4 _).mono ?_
          rintro e w' ⟨rfl, rfl⟩
          have H4 := Aside0.mk h4
          clear h4
          go_wp2
          go_ret
          exact ⟨by rw [E.out, H1.out, H2.out, h3, H4.out]; rfl, hb3.out⟩
def impl_ValidNet.f (a0_0 : Int) (a0_1 : Int) (l0_2 : List (S55)) : Option (Bool) := if okNet a0_0 a0_1 l0_2 = true then some (netB a0_0 a0_1 l0_2) else none
theorem ValidNet_any (s t : Int) (A : Option Addr) (c : Nat) (l : List S55) (w : World) (hr : Kd.C k55 w A l.length l) (hc : l.length ≤ c) (hok : okNet s t l = true) :
    Calls Try.prog 30 #[.agg #[.int .i8 s, .int .i16 t, .slice A l.length c]] w fun e w' => e = .returned (.bool (netB s t l)) ∧ Below w.heap.size w w' := by
  obtain ⟨⟨hs0, hs1, ht0, ht1⟩, hl⟩ := okNet_iff.1 hok
  have HR := Aside0.mk hr
  have HL := Aside0.mk hl
  have E : Aside0 (netB s t l = (inB s 1 8 && (inB t 0 40 && (decide ((l.length : Int) ≤ 20) && !l.any (laneBad s))))) := ⟨by unfold netB; rw [show decide (l.length ≤ 20) = decide ((l.length : Int) ≤ 20) from by congr 1; simp only [eq_iff_iff]; omega]⟩
  clear hr hl hok
  go_enter Try.func30, Try.ntmps30
  go_wp2_with fail
  cases h1 : inB s 1 8 with
  | false =>
    refine (within_is _ _ _ _ h1 _).mono ?_
    rintro e w' ⟨rfl, rfl⟩
    have H1 := Aside0.mk h1
    clear h1
    go_wp2
    go_ret
    exact ⟨by rw [E.out, H1.out]; rfl, (Below.refl _ _).alloc (Nat.le_refl _) _⟩
  | true =>
    refine (within_is _ _ _ _ h1 _).mono ?_
    rintro e w' ⟨rfl, rfl⟩
    have H1 := Aside0.mk h1
    clear h1
    go_wp2_with fail
    cases h2 : inB t 0 40 with
    | false =>
      refine (within_is _ _ _ _ h2 _).mono ?_
      rintro e w' ⟨rfl, rfl⟩
      have H2 := Aside0.mk h2
      clear h2
      go_wp2
      go_ret
      exact ⟨by rw [E.out, H1.out, H2.out]; rfl, (Below.refl _ _).alloc (Nat.le_refl _) _⟩
    | true =>
      refine (within_is _ _ _ _ h2 _).mono ?_
      rintro e w' ⟨rfl, rfl⟩
      have H2 := Aside0.mk h2
      clear h2
      cases h3 : decide ((l.length : Int) ≤ 20) with
      | false =>
        go_wp2
        go_ret
        exact ⟨by rw [E.out, H1.out, H2.out, h3]; rfl, (Below.refl _ _).alloc (Nat.le_refl _) _⟩
      | true =>
        have eg := enters_of Try.func39 (by kernel_rfl) rfl
        go_wp2_with (go_at_call 38; refine (containsFunc_Lane 39 _ eg (laneBad s) A c l _ (Kd.C_alloc HR.out _) hc (lane_pred w.heap.size s t (.slice A l.length c) l _ (by simp) (by go_simp) (by go_simp) (by go_simp) hs0 hs1 HL.out)).mono ?_; rintro e w1 ⟨rfl, hb⟩)
        go_ret
        exact ⟨by rw [E.out, H1.out, H2.out, h3]; rfl, below_call hb⟩
theorem impl_ValidNet.calls (a0_0 : Int) (a0_1 : Int) (A0_2 : Option Addr) (c0_2 : Nat) (l0_2 : List (S55)) (r : Bool) (w : World) (hr0_2 : Kd.C k55 w A0_2 l0_2.length l0_2) (hc0_2 : l0_2.length ≤ c0_2) (h : impl_ValidNet.f a0_0 a0_1 l0_2 = some r) :
    Calls Try.prog 30 #[.agg #[.int .i8 a0_0, .int .i16 a0_1, .slice A0_2 l0_2.length c0_2]] w fun e w' => e = .returned (.bool r) ∧ Below w.heap.size w w' := by
  unfold impl_ValidNet.f at h
  split at h
  · cases h
    exact ValidNet_any _ _ _ _ _ w hr0_2 hc0_2 ‹_›
  · cases h
end Go.Proofs.Ytkcfniilinokgaa.Q
