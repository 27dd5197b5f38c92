/- The pure statement of FnExactMatchReturns: both sides tell the same matches, for all orders, returns and days. -/
import Derived.Test.YtlefddghiiigeaaMatMat
import Derived.Test.YtlefddghiiigeaaMarksM
import Derived.Test.YtlefddghiiigeaaQ9
set_option linter.unusedVariables false
set_option linter.unusedSimpArgs false
namespace Go.Proofs.Ytlefddghiiigeaa.Q
open Go.RowKit Go.Proofs.YtlefddghiiigeaaW.PrintWords Go.Proofs.YtlefddghiiigeaaW.PrintMore Go.Proofs.Ytlefddghiiigeaa.Loops
theorem Pure.FnExactMatchReturns (y0 : List (S57)) (y1 : List (S59)) (x2 : Int) (w0 : (y0.length ≤ maxLen ∧ ∀ x ∈ y0, wf57 x)) (w1 : (y1.length ≤ maxLen ∧ ∀ x ∈ y1, wf59 x)) (w2 : (Lit.int .i64 x2).wf = true) : ∃ k, laws_FnExactMatchReturns.f k y0 y1 x2 = some true := by
  have hok := okOrder_all y0 w0
  have hom := okReturn_all y1 w1
  by_cases h1 : (1048576 : Int) - y0.length < 0
  · refine ⟨0, ?_⟩
    unfold laws_FnExactMatchReturns.f
    rw [szOrderS_is y0 _ w0.1 (by omega) (by omega), Option.bind_some]
    simp [h1]
  · by_cases h2 : (1048576 : Int) - y0.length - y1.length < 0
    · refine ⟨0, ?_⟩
      unfold laws_FnExactMatchReturns.f
      rw [szOrderS_is y0 _ w0.1 (by omega) (by omega), Option.bind_some, if_neg h1, if_neg h1, szReturnS_is y1 _ w1.1 (by omega) (by omega), Option.bind_some]
      simp [h2]
    · have hl' : (y0.map cvOrder).length ≤ 1048576 := by rw [List.length_map]; omega
      have hlm : (y0.map cvOrder).length = y0.length := List.length_map ..
      have hm' : (y1.map cvReturn).length ≤ 1048576 := by rw [List.length_map]; omega
      have hmm : (y1.map cvReturn).length = y1.length := List.length_map ..
      have hlen := mat_short (y0.map cvOrder) (y1.map cvReturn) x2 hok hom
      obtain ⟨r, c, hr⟩ : ∃ r c, matRes (y0.map cvOrder) (y1.map cvReturn) x2 = (r, c) := ⟨_, _, rfl⟩
      rw [hr] at hlen
      simp only at hlen
      have T : ∀ k, y0.length < k → laws_toOrderS.f k y0 = some (y0.map cvOrder) := fun k hk => toOrderS_is y0 (by omega) k hk
      have T1 : ∀ k, y1.length < k → laws_toReturnS.f k y1 = some (y1.map cvReturn) := fun k hk => toReturnS_is y1 (by omega) k hk
      have I : ∀ k, 0 < k → impl_MatchReturns.f k (y0.map cvOrder) (y1.map cvReturn) x2 = some (r, c) := fun k hk => by rw [iMatR_is _ _ _ k hk hok hom, hr]
      have Sp : ∀ k, y0.length + y1.length + 1700 < k → spec_MatchReturns.f k (y0.map cvOrder) (y1.map cvReturn) x2 = some (r, c) := fun k hk => by rw [sMatR_is _ _ _ k (by omega) hl' hm' hok hom, hr]
      have E : ∀ k, 1600 < k → laws_eqMatchS.f k r r = some true := fun k hk => by rw [eqMatchS_is r r (by omega) k (by omega)]; simp
      have E0 : ∀ k, y0.length < k → laws_eqOrderS.f k (y0.map cvOrder) (y0.map cvOrder) = some true := fun k hk => by rw [eqOrderS_is _ _ hl' k (by omega)]; simp
      have E1 : ∀ k, y1.length < k → laws_eqReturnS.f k (y1.map cvReturn) (y1.map cvReturn) = some true := fun k hk => by rw [eqReturnS_is _ _ hm' k (by omega)]; simp
      have M0 := fun k (hk : y0.length < k) => markOrderS_num (y0.map cvOrder) hl' k (by omega) 1 (by omega) (by omega)
      have M1 := fun k (hk : y1.length < k) => markReturnS_num (y1.map cvReturn) hm' k (by omega) (1 + 5 * ((y0.map cvOrder).length : Int)) (by omega) (by omega)
      have M2 := fun k (hk : 1600 < k) => markMatchS_is r (by omega) k (by omega) 1 (by omega) (by omega)
      have H := fun k (hk : 1600 < k) => heldMatchS_is r.length (by omega) k (by omega) 1 (by omega) (by omega)
      refine ⟨y0.length + y1.length + 1710, ?_⟩
      unfold laws_FnExactMatchReturns.f
      rw [szOrderS_is y0 _ w0.1 (by omega) (by omega), Option.bind_some, if_neg h1, if_neg h1, szReturnS_is y1 _ w1.1 (by omega) (by omega), Option.bind_some, if_neg h2, if_neg h2]
      rw [T _ (by omega)]
      simp only [Option.bind_some]
      rw [T1 _ (by omega)]
      simp only [Option.bind_some]
      rw [Sp _ (by omega)]
      simp only [Option.bind_some]
      rw [I _ (by omega)]
      simp only [Option.bind_some]
      rw [E _ (by omega)]
      simp only [Option.bind_some, bne_self_eq_false, if_true]
      rw [laws_FnExactMatchReturns.j0, if_neg (by simp), T _ (by omega)]
      simp only [Option.bind_some]
      rw [E0 _ (by omega)]
      simp only [Option.bind_some, if_true]
      rw [T1 _ (by omega)]
      simp only [Option.bind_some]
      rw [E1 _ (by omega)]
      simp only [Option.bind_some, if_true]
      obtain ⟨q0, e0⟩ := M0 (y0.length + y1.length + 1709) (by omega)
      obtain ⟨q1, e1⟩ := M1 (y0.length + y1.length + 1709) (by omega)
      rw [e0]
      simp only [Option.bind_some]
      rw [e1]
      simp only [Option.bind_some]
      rw [if_neg (by omega), E _ (by omega)]
      simp only [Option.bind_some, if_true, bne_self_eq_false]
      rw [laws_FnExactMatchReturns.j1, if_neg (by simp), M2 _ (by omega)]
      simp only [Option.bind_some]
      rw [H _ (by omega)]
      simp only [Option.bind_some, if_true]
      rw [if_neg (by omega), T _ (by omega)]
      simp only [Option.bind_some]
      rw [T1 _ (by omega)]
      simp only [Option.bind_some]
      rw [I _ (by omega)]
      simp only [Option.bind_some]
      rw [E _ (by omega)]
      simp only [Option.bind_some, if_true, bne_self_eq_false]
      rw [laws_FnExactMatchReturns.j2, if_neg (by simp), H _ (by omega)]
      simp only [Option.bind_some, if_true]
      rw [if_neg (by omega)]
end Go.Proofs.Ytlefddghiiigeaa.Q
