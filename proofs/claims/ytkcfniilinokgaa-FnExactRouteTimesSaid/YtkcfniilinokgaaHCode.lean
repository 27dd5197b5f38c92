/- impl.areWithin, netCode, unless: the code of a net, stations and hours: 1 where the net is not valid, else 2 where a station or an hour is not there, else 0. -/
import Derived.Test.YtkcfniilinokgaaHValid
import Derived.Test.YtkcfniilinokgaaIdx
set_option linter.unusedVariables false
set_option linter.unusedSimpArgs false
namespace Go.Proofs.Ytkcfniilinokgaa.Q
open Go.RowKit Go.Proofs.YtkcfniilinokgaaW.PrintWords Go.Proofs.YtkcfniilinokgaaW.PrintLast Go.Proofs.YtkcfniilinokgaaW.PrintMore

theorem unless_is (b : Bool) (c : Int) (w : World) : Calls Try.prog 31 #[.bool b, .int .i64 c] w fun e w' => e = .returned (.int .i64 (if b = true then 0 else c)) ∧ w = w' := by
  cases b with
  | true =>
    go_enter Try.func31, Try.ntmps31
    go_wp2
    go_ret
    exact ⟨rfl, rfl⟩
  | false =>
    go_enter Try.func31, Try.ntmps31
    go_wp2
    go_ret
    exact ⟨rfl, rfl⟩
theorem within_pred (B1 B2 : Nat) (lo hi : Int) (l : List Int) (w : World) (h1 : B1 < w.heap.size) (h2 : B2 < w.heap.size) (c1 : w.cell? ⟨B1, 0, none⟩ = some (.int .i64 lo)) (c2 : w.cell? ⟨B2, 0, none⟩ = some (.int .i64 hi)) :
    PredInt 41 #[.pointer (some ⟨B1, 0, none⟩), .pointer (some ⟨B2, 0, none⟩)] (fun n => !inB n lo hi) l w := by
  intro W x hx hb
  have d1 := (hb.cell (p := ⟨B1, 0, none⟩) h1).trans c1
  have d2 := (hb.cell (p := ⟨B2, 0, none⟩) h2).trans c2
  clear c1 c2 hx hb
  simp only [List.append_toArray, List.cons_append, List.nil_append]
  go_enter Try.func41, Try.ntmps41
  go_wp2_with (first | (go_at_call 37; refine (within_is _ _ _ _ rfl _).mono ?_; rintro e w' ⟨rfl, rfl⟩) | go_quiet ((go_at_call 37; exact Calls.quiet_of_same ((within_is _ _ _ _ rfl _).mono fun e w' h => ⟨h.1, h.2.symm⟩))))
  go_ret
  exact ⟨rfl, Below.refl _ _⟩
def allIn (l : List Int) (lo hi : Int) : Bool := l.all fun n => inB n lo hi
theorem allIn_not (l : List Int) (lo hi : Int) : (!l.any fun n => !inB n lo hi) = allIn l lo hi := by
  unfold allIn
  induction l with
  | nil => rfl
  | cons x l ih => rw [List.any_cons, List.all_cons, ← ih]; cases inB x lo hi <;> simp
theorem areWithin_is (A : Option Addr) (c : Nat) (l : List Int) (lo hi : Int) (w : World) (hr : Kd.C (Kd.int .i64) w A l.length l) (hc : l.length ≤ c) :
    Calls Try.prog 35 #[.slice A l.length c, .int .i64 lo, .int .i64 hi] w fun e w' => e = .returned (.bool (allIn l lo hi)) ∧ Below w.heap.size w w' := by
  have HR := Aside0.mk hr
  clear hr
  have eg := enters_of Try.func41 (by kernel_rfl) rfl
  go_enter Try.func35, Try.ntmps35
  go_wp2_with (go_at_call 32; refine (containsFunc_Int 41 _ eg (fun n => !inB n lo hi) A c l _ (Kd.C_alloc (Kd.C_alloc HR.out _) _) hc (within_pred w.heap.size (w.heap.size + 1) lo hi l _ (by simp; omega) (by simp) (by go_simp) (by go_simp))).mono ?_; rintro e w1 ⟨rfl, hb⟩)
  go_ret
  refine ⟨by rw [← allIn_not]; rfl, ?_⟩
  exact (((Below.refl _ _).alloc (Nat.le_refl _) _).alloc (by simp) _).trans (hb.mono (by simp; omega))
theorem station_pred (B : Nat) (s t : Int) (v : Value) (l : List Int) (w : World) (hB : B < w.heap.size) (c0 : w.cell? ⟨B, 0, none⟩ = some (.int .i8 s)) (c1 : w.cell? ⟨B, 1, none⟩ = some (.int .i16 t)) (c2 : w.cell? ⟨B, 2, none⟩ = some v)
    (hs0 : -128 ≤ s) (hs1 : s ≤ 127) : PredInt 33 #[.pointer (some ⟨B, 0, none⟩)] (fun n => !inB n 0 (s - 1)) l w := by
  intro W x hx hb
  have d0 := (hb.cell (p := ⟨B, 0, none⟩) hB).trans c0
  have d1 := (hb.cell (p := ⟨B, 1, none⟩) hB).trans c1
  have d2 := (hb.cell (p := ⟨B, 2, none⟩) hB).trans c2
  clear c0 c1 c2 hx hb
  simp only [List.append_toArray, List.cons_append, List.nil_append]
  go_enter Try.func33, Try.ntmps33
  go_wp2_with (go_at_call 34; refine (isStation_is _ _ _ _ _ hs0 hs1 rfl _).mono ?_; rintro e w' ⟨rfl, hb⟩)
  go_ret
  exact ⟨rfl, hb⟩
/-- The code of a net, stations and hours. -/
def codeB (net fine : Bool) : Int := if net = true then (if fine = true then 0 else 2) else 1
theorem netCode_is (s t : Int) (A : Option Addr) (c : Nat) (l : List S55) (A1 : Option Addr) (c1 : Nat) (ss : List Int) (A2 : Option Addr) (c2 : Nat) (hs : List Int) (w : World) (hr : Kd.C k55 w A l.length l) (hc : l.length ≤ c) (hok : okNet s t l = true)
    (hr1 : Kd.C (Kd.int .i64) w A1 ss.length ss) (hc1 : ss.length ≤ c1) (hr2 : Kd.C (Kd.int .i64) w A2 hs.length hs) (hc2 : hs.length ≤ c2) :
    Calls Try.prog 22 #[.agg #[.int .i8 s, .int .i16 t, .slice A l.length c], .slice A1 ss.length c1, .slice A2 hs.length c2] w fun e w' =>
      e = .returned (.int .i64 (codeB (netB s t l) (allIn ss 0 (s - 1) && allIn hs 0 300))) ∧ Below w.heap.size w w' := by
  obtain ⟨⟨hs0, hs1, ht0, ht1⟩, hl⟩ := okNet_iff.1 hok
  have HR := Aside0.mk hr
  have HR1 := Aside0.mk hr1
  have HR2 := Aside0.mk hr2
  have OK := Aside0.mk hok
  clear hr hr1 hr2 hok hl
  have eg := enters_of Try.func33 (by kernel_rfl) rfl
  go_enter Try.func22, Try.ntmps22
  go_wp2_with fail
  refine (ValidNet_any s t A c l _ (Kd.C_alloc HR.out _) hc OK.out).mono ?_
  rintro e w1 ⟨rfl, hb⟩
  have hb1 := Aside0.mk (below_call hb)
  obtain ⟨hcl, hf⟩ := bcell hb
  cases h1 : netB s t l with
  | false =>
    have H1 := Aside0.mk h1
    clear h1
    go_wp2
    go_ret
    exact ⟨by rw [H1.out]; rfl, hb1.out⟩
  | true =>
    have H1 := Aside0.mk h1
    clear h1
    have hz : w.heap.size < w1.heap.size := by have := hb.size; simp at this; omega
    clear hb
    go_wp2_with fail
    refine (containsFunc_Int 33 _ eg (fun n => !inB n 0 (s - 1)) A1 c1 ss _ (Kd.C_below HR1.out hb1.out) hc1 (station_pred w.heap.size s t (.slice A l.length c) ss _ hz (by go_simp) (by go_simp) (by go_simp) hs0 hs1)).mono ?_
    rintro e w2 ⟨rfl, hb2⟩
    have hb3 := Aside0.mk (hb1.out.trans (hb2.mono hb1.out.size))
    rw [show ((ss.any fun n => !inB n 0 (s - 1))) = !allIn ss 0 (s - 1) by rw [← allIn_not, Bool.not_not]]
    cases h2 : allIn ss 0 (s - 1) with
    | false =>
      have H2 := Aside0.mk h2
      clear hcl hf hb2 h2
      go_wp2_with fail
      refine (unless_is _ _ _).mono ?_
      rintro e w' ⟨rfl, rfl⟩
      go_wp2
      go_ret
      exact ⟨by rw [H1.out, H2.out]; rfl, hb3.out⟩
    | true =>
      have H2 := Aside0.mk h2
      clear hcl hf hb2 h2
      go_wp2_with fail
      refine (areWithin_is A2 c2 hs 0 300 _ (Kd.C_below HR2.out hb3.out) hc2).mono ?_
      rintro e w3 ⟨rfl, hb4⟩
      have hb5 := Aside0.mk (hb3.out.trans (hb4.mono hb3.out.size))
      clear hb4
      cases h3 : allIn hs 0 300 with
      | false =>
        have H3 := Aside0.mk h3
        clear h3
        go_wp2_with fail
        refine (unless_is _ _ _).mono ?_
        rintro e w' ⟨rfl, rfl⟩
        go_wp2
        go_ret
        exact ⟨by rw [H1.out, H2.out, H3.out]; rfl, hb5.out⟩
      | true =>
        have H3 := Aside0.mk h3
        clear h3
        go_wp2_with fail
        refine (unless_is _ _ _).mono ?_
        rintro e w' ⟨rfl, rfl⟩
        go_wp2
        go_ret
        exact ⟨by rw [H1.out, H2.out, H3.out]; rfl, hb5.out⟩
end Go.Proofs.Ytkcfniilinokgaa.Q
