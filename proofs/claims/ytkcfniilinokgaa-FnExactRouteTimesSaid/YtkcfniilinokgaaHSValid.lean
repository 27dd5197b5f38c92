/- spec's l07Ok and ValidNet: they tell netB, for nets whose fields lie in their kinds. -/
import Derived.Test.YtkcfniilinokgaaHValid
set_option linter.unusedVariables false
set_option linter.unusedSimpArgs false
namespace Go.Proofs.Ytkcfniilinokgaa.Q
open Go.RowKit Go.Proofs.YtkcfniilinokgaaW.PrintWords Go.Proofs.YtkcfniilinokgaaW.PrintLast Go.Proofs.YtkcfniilinokgaaW.PrintMore

theorem l00In_is (n lo hi : Int) (b : Bool) (h : inB n lo hi = b) (w : World) : Calls Try.prog 26 #[.int .i64 n, .int .i64 lo, .int .i64 hi] w fun e w' => e = .returned (.bool b) ∧ w = w' := by
  subst h
  by_cases h1 : lo ≤ n
  · by_cases h2 : n ≤ hi
    · go_enter Try.func26, Try.ntmps26
      go_wp2
      go_ret
      exact ⟨by simp [inB, h1, h2], rfl⟩
    · go_enter Try.func26, Try.ntmps26
      go_wp2
      go_ret
      exact ⟨by simp [inB, h2], rfl⟩
  · have h3 : inB n lo hi = false := by rw [inB_false]; omega
    go_enter Try.func26, Try.ntmps26
    go_wp2
    go_ret
    exact ⟨rfl, rfl⟩
theorem l07Station_is (B : Nat) (s x : Int) (b : Bool) (w : World) (c0 : w.cell? ⟨B, 0, none⟩ = some (.int .i8 s)) (hs0 : -128 ≤ s) (hs1 : s ≤ 127) (h : inB x 0 (s - 1) = b) :
    Calls Try.prog 18 #[.pointer (some ⟨B, 0, none⟩), .int .i64 x] w fun e w' => e = .returned (.bool b) ∧ w = w' := by
  have H := Aside0.mk h
  clear h
  go_enter Try.func18, Try.ntmps18
  go_wp2_with fail
  refine (l00In_is _ _ _ _ H.out _).mono ?_
  rintro e w' ⟨rfl, rfl⟩
  go_wp2
  go_ret
  exact ⟨rfl, rfl⟩
theorem drop_cons_of {α : Type} (l : List α) (z : α) (i : Nat) (h : i < l.length) : l.drop i = l.getD i z :: l.drop (i + 1) := by
  rw [List.getD_eq_getElem?_getD, List.getElem?_eq_getElem h]
  exact List.drop_eq_getElem_cons h
set_option maxHeartbeats 2000000 in
theorem l07Ok_is (B : Nat) (s t : Int) (A : Option Addr) (c : Nat) (l : List S55) (w : World) (hB : B < w.heap.size) (c0 : w.cell? ⟨B, 0, none⟩ = some (.int .i8 s)) (c1 : w.cell? ⟨B, 1, none⟩ = some (.int .i16 t)) (c2 : w.cell? ⟨B, 2, none⟩ = some (.slice A l.length c))
    (hr : Kd.C k55 w A l.length l) (hc : l.length ≤ c) (hok : okNet s t l = true) :
    Calls Try.prog 27 #[.pointer (some ⟨B, 0, none⟩)] w fun e w' => e = .returned (.bool (netB s t l)) ∧ Below w.heap.size w w' := by
  obtain ⟨⟨hs0, hs1, ht0, ht1⟩, hl⟩ := okNet_iff.1 hok
  have HR := Aside0.mk hr
  have HL := Aside0.mk hl
  have E : Aside0 (netB s t l = (inB s 1 8 && (inB t 0 40 && (decide ((l.length : Int) ≤ 20) && !l.any (laneBad s))))) := ⟨by unfold netB; rw [show decide (l.length ≤ 20) = decide ((l.length : Int) ≤ 20) from by congr 1; simp only [eq_iff_iff]; omega]⟩
  clear hr hl hok
  go_enter Try.func27, Try.ntmps27
  go_wp2_with fail
  cases h1 : inB s 1 8 with
  | false =>
    refine (l00In_is _ _ _ _ h1 _).mono ?_
    rintro e w' ⟨rfl, rfl⟩
    have H1 := Aside0.mk h1
    clear h1
    go_wp2
    go_ret
    exact ⟨by rw [E.out, H1.out]; rfl, Below.refl _ _⟩
  | true =>
    refine (l00In_is _ _ _ _ h1 _).mono ?_
    rintro e w' ⟨rfl, rfl⟩
    have H1 := Aside0.mk h1
    clear h1
    go_wp2_with fail
    cases h2 : inB t 0 40 with
    | false =>
      refine (l00In_is _ _ _ _ h2 _).mono ?_
      rintro e w' ⟨rfl, rfl⟩
      have H2 := Aside0.mk h2
      clear h2
      go_wp2
      go_ret
      exact ⟨by rw [E.out, H1.out, H2.out]; rfl, Below.refl _ _⟩
    | true =>
      refine (l00In_is _ _ _ _ h2 _).mono ?_
      rintro e w' ⟨rfl, rfl⟩
      have H2 := Aside0.mk h2
      clear h2
      cases h3 : decide ((20 : Int) < (l.length : Int)) with
      | true =>
        have h3' := of_decide_eq_true h3
        go_wp2
        go_ret
        exact ⟨by rw [E.out, H1.out, H2.out, decide_eq_false (by omega)]; rfl, Below.refl _ _⟩
      | false =>
        have h3' := of_decide_eq_false h3
        go_wp2
        have H3 := Aside0.mk h3'
        have C0 := Aside0.mk c0
        have C1 := Aside0.mk c1
        have C2 := Aside0.mk c2
        clear c0 c1 c2 h3
        go_loopg [3] l.length (fun gg v3 wr => ∃ kk : Nat, kk ≤ l.length ∧ l.length - kk ≤ gg ∧ v3 = .int .i64 kk ∧ Aside0 (Below w.heap.size w wr) ∧ Aside0 ((l.drop kk).any (laneBad s) = l.any (laneBad s)))
        case atStart => exact ⟨0, Nat.zero_le _, by omega, rfl, ⟨Below.refl _ w⟩, ⟨by rw [List.drop_zero]⟩⟩
        case round =>
          obtain ⟨kk, hkk, hg, rfl, BW, HA⟩ := hrel
          have d0 := (BW.out.cell (p := ⟨B, 0, none⟩) hB).trans C0.out
          have d2 := (BW.out.cell (p := ⟨B, 2, none⟩) hB).trans C2.out
          have hBW : B < wr.heap.size := Nat.lt_of_lt_of_le hB BW.out.size
          by_cases hlt : kk < l.length
          · have hltz : (kk : Int) < (l.length : Int) := by omega
            obtain ⟨ad, e, hx0, hx1, hx2, hx3⟩ := at_T55 (Kd.C_below HR.out BW.out) (kk : Int) (by omega) hltz
            obtain ⟨a1, a2, a3, a4, a5, a6, a7, a8⟩ := okLane_iff.1 (HL.out (l.getD kk z55) (by rw [List.getD_eq_getElem?_getD, List.getElem?_eq_getElem hlt]; exact List.getElem_mem hlt))
            have hd := drop_cons_of l z55 kk hlt
            simp only [rd_T55, Int.toNat_natCast] at hx0 hx1 hx2 hx3
            subst e
            generalize hy : l.getD kk z55 = y at hx0 hx1 hx2 hx3 a1 a2 a3 a4 a5 a6 a7 a8 hd
            have B' := Aside0.mk hy
            have HD : Aside0 (l.any (laneBad s) = (laneBad s y || (l.drop (kk + 1)).any (laneBad s))) := ⟨by rw [← HA.out, hd, List.any_cons]⟩
            obtain ⟨f, g, m, n⟩ := y
            have EB : Aside0 (laneBad s ⟨f, g, m, n⟩ = (!inB f 0 (s - 1) || (!inB g 0 (s - 1) || (f == g || (!inB m 1 n || decide (40 < n)))))) := ⟨rfl⟩
            simp only at a1 a2 a3 a4 a5 a6 a7 a8 hx0 hx1 hx2 hx3
            clear hy hd HA
            go_wp2_with fail
            cases h4 : inB f 0 (s - 1) with
            | false =>
              refine (l07Station_is B s f _ _ (by go_simp) hs0 hs1 h4).mono ?_
              rintro e w' ⟨rfl, rfl⟩
              have H4 := Aside0.mk h4
              clear h4
              go_wp2
              go_ret
              exact ⟨by rw [E.out, H1.out, H2.out, decide_eq_true (by have := H3.out; omega), HD.out, EB.out, H4.out]; rfl, BW.out.alloc BW.out.size _⟩
            | true =>
              refine (l07Station_is B s f _ _ (by go_simp) hs0 hs1 h4).mono ?_
              rintro e w' ⟨rfl, rfl⟩
              have H4 := Aside0.mk h4
              clear h4
              go_wp2_with fail
              cases h5 : inB g 0 (s - 1) with
              | false =>
                refine (l07Station_is B s g _ _ (by go_simp) hs0 hs1 h5).mono ?_
                rintro e w' ⟨rfl, rfl⟩
                have H5 := Aside0.mk h5
                clear h5
                go_wp2
                go_ret
                exact ⟨by rw [E.out, H1.out, H2.out, decide_eq_true (by have := H3.out; omega), HD.out, EB.out, H4.out, H5.out]; rfl, BW.out.alloc BW.out.size _⟩
              | true =>
                refine (l07Station_is B s g _ _ (by go_simp) hs0 hs1 h5).mono ?_
                rintro e w' ⟨rfl, rfl⟩
                have H5 := Aside0.mk h5
                clear h5
                cases h6 : (f == g) with
                | true =>
                  go_wp2
                  go_ret
                  exact ⟨by rw [E.out, H1.out, H2.out, decide_eq_true (by have := H3.out; omega), HD.out, EB.out, H4.out, H5.out, h6]; rfl, BW.out.alloc BW.out.size _⟩
                | false =>
                  cases h7 : decide (m < 1) with
                  | true =>
                    have h7' := of_decide_eq_true h7
                    go_wp2
                    go_ret
                    exact ⟨by rw [E.out, H1.out, H2.out, decide_eq_true (by have := H3.out; omega), HD.out, EB.out, H4.out, H5.out, h6, inB_false.2 (by omega)]; rfl, BW.out.alloc BW.out.size _⟩
                  | false =>
                    have h7' := of_decide_eq_false h7
                    cases h8 : decide (n < m) with
                    | true =>
                      have h8' := of_decide_eq_true h8
                      go_wp2
                      go_ret
                      exact ⟨by rw [E.out, H1.out, H2.out, decide_eq_true (by have := H3.out; omega), HD.out, EB.out, H4.out, H5.out, h6, inB_false.2 (by omega)]; rfl, BW.out.alloc BW.out.size _⟩
                    | false =>
                      have h8' := of_decide_eq_false h8
                      cases h9 : decide (40 < n) with
                      | true =>
                        go_wp2
                        go_ret
                        exact ⟨by rw [E.out, H1.out, H2.out, decide_eq_true (by have := H3.out; omega), HD.out, EB.out, H4.out, H5.out, h6, inB_true.2 ⟨by omega, by omega⟩, h9]; rfl, BW.out.alloc BW.out.size _⟩
                      | false =>
                        have HD2 : Aside0 ((l.drop (kk + 1)).any (laneBad s) = l.any (laneBad s)) := ⟨by rw [HD.out, EB.out, H4.out, H5.out, h6, inB_true.2 ⟨by omega, by omega⟩, h9]; rfl⟩
                        go_wp2
                        go_roundg (l.length - (kk + 1))
                        case measure => omega
                        case rel => exact ⟨kk + 1, by omega, by omega, by go_num, ⟨BW.out.alloc BW.out.size _⟩, HD2⟩
          · have hltz : ¬ (kk : Int) < (l.length : Int) := by omega
            have hk : kk = l.length := by omega
            have HD2 : Aside0 (l.any (laneBad s) = false) := ⟨by rw [← HA.out, List.drop_of_length_le (by omega)]; rfl⟩
            clear HA
            subst hk
            go_wp2
            go_ret
            exact ⟨by rw [E.out, H1.out, H2.out, decide_eq_true (by have := H3.out; omega), HD2.out]; rfl, BW.out⟩
end Go.Proofs.Ytkcfniilinokgaa.Q
