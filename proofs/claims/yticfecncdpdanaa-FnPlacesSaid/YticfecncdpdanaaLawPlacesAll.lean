/- The law FnPlaces returns true, whatever the two rows of bytes are. -/
import Derived.Test.YticfecncdpdanaaHLawPlaces
import Derived.Test.YticfecncdpdanaaMG
import Derived.OpenShut
set_option linter.unusedVariables false
set_option linter.unusedSimpArgs false
namespace Go.Proofs.Yticfecncdpdanaa.Q
open Go.RowKit Go.Proofs.YticfecncdpdanaaW.PrintWords Go.Proofs.YticfecncdpdanaaW.PrintLast Go.Proofs.YticfecncdpdanaaW.PrintMore Go.Proofs.Yticfecncdpdanaa.Loops
theorem byts_of (l : List Int) (hl : ∀ x ∈ l, (Lit.int .u8 x).wf = true) : Byts l := fun x hx => by
  have := bounds_u8 (hl x hx)
  omega
set_option maxRecDepth 100000 in
set_option maxHeartbeats 4000000 in
theorem lawPlaces_is (A : Option Addr) (c : Nat) (y0 : List Int) (A1 : Option Addr) (c1 : Nat) (y1 : List Int) (w : World) (hr : Kd.C (Kd.int .u8) w A y0.length y0) (hc : y0.length ≤ c) (hr1 : Kd.C (Kd.int .u8) w A1 y1.length y1) (hc1 : y1.length ≤ c1)
    (w0 : y0.length ≤ maxLen ∧ ∀ x ∈ y0, (Lit.int .u8 x).wf = true) (w1 : y1.length ≤ maxLen ∧ ∀ x ∈ y1, (Lit.int .u8 x).wf = true) :
    Calls Try.prog 3 #[.slice A y0.length c, .slice A1 y1.length c1] w fun e w' => e = .returned (.bool true) ∧ Below w.heap.size w w' := by
  by_cases hl : y0.length ≤ 4096
  · by_cases hl1 : y1.length ≤ 4096
    · have b0 := byts_of y0 w0.2
      have b1 := byts_of y1 w1.2
      obtain ⟨s, t, ls, ⟨KN, hN⟩, hD⟩ := P6Net_is b0
      have hs2 := hD.s2
      obtain ⟨a0, a1, hS, g0, g1, g2, g3⟩ := P6Scan_is b1 hD
      obtain ⟨v, hP, v0, v1⟩ := P6Pick_is b1 12 (by omega)
      obtain ⟨q, hq, q0, q1⟩ := P6Pick_is b1 s (by omega)
      obtain ⟨X, ⟨KX, hX⟩, hX4, hXD⟩ := P6Scans_is b0 hD
      obtain ⟨P, L, KP, hPF⟩ := placeF hD g0 g1 g2 g3 v0 v1
      obtain ⟨D, F, M, C, fine, bi, bc, lc, late, KS, hSF⟩ := scanF hD (y0 := y0) (y1 := y1) g2 g3 v0 v1 hX hX4 hXD hq q0 q1
      obtain ⟨PF, he, hCG, hHas⟩ := hPF (max KN (max KP KS)) (by omega)
      exact lawPlaces_go A c y0 A1 c1 y1 w hr hc hr1 hc1 hl hl1 (max KN (max KP KS)) s t ls (hN _ (by omega)) hD a0 a1 hS g0 g1 g2 g3 v hP v0 v1 P L PF X D F M C fine bi bc q lc late (hSF _ (by omega)) he hCG hHas
    · have F0 : laws_f6big.f y0 = some false := by unfold laws_f6big.f; rw [decide_eq_false (by omega)]
      have F1 : laws_f6big.f y1 = some true := by unfold laws_f6big.f; rw [decide_eq_true (by omega)]
      have HR := Aside0.mk hr
      have HR1 := Aside0.mk hr1
      clear hr hr1
      go_enter Try.func3, Try.ntmps3
      go_wp2_with fail
      refine (laws_f6big.calls A c y0 false w HR.out hc F0).mono ?_
      rintro e x1 ⟨rfl, hd⟩
      have B1 := Aside0.mk (drawn_below hd)
      clear hd
      go_wp2_with fail
      refine (laws_f6big.calls A1 c1 y1 true x1 (Kd.C_below HR1.out B1.out) hc1 F1).mono ?_
      rintro e x2 ⟨rfl, hd⟩
      have B2 := Aside0.mk (bel B1.out (drawn_below hd))
      clear hd B1
      go_wp2
      go_ret
      exact ⟨rfl, B2.out⟩
  · have F0 : laws_f6big.f y0 = some true := by unfold laws_f6big.f; rw [decide_eq_true (by omega)]
    have HR := Aside0.mk hr
    clear hr
    go_enter Try.func3, Try.ntmps3
    go_wp2_with fail
    refine (laws_f6big.calls A c y0 true w HR.out hc F0).mono ?_
    rintro e x1 ⟨rfl, hd⟩
    have B1 := Aside0.mk (drawn_below hd)
    clear hd
    go_wp2
    go_ret
    exact ⟨rfl, B1.out⟩
end Go.Proofs.Yticfecncdpdanaa.Q
