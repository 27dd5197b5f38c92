/- The pure statement of FnExactValidOrders: both sides tell the same answer, for all orders. -/
import Derived.Test.YtennlgkacijnnaaSpec6O
import Derived.Test.YtennlgkacijnnaaQ9
set_option linter.unusedVariables false
set_option linter.unusedSimpArgs false
namespace Go.Proofs.Ytennlgkacijnnaa.Q
open Go.RowKit Go.Proofs.YtennlgkacijnnaaW.PrintWords Go.Proofs.Ytennlgkacijnnaa.Loops
theorem Pure.FnExactValidOrders (y0 : List (S77)) (w0 : (y0.length ≤ maxLen ∧ ∀ x ∈ y0, wf77 x)) : ∃ k, laws_FnExactValidOrders.f k y0 = some true := by
  have hok := okOrder_all y0 w0
  by_cases h1 : (1048576 : Int) - y0.length < 0
  · refine ⟨0, ?_⟩
    unfold laws_FnExactValidOrders.f
    rw [szOrderS_is y0 _ w0.1 (by omega) (by omega), Option.bind_some]
    simp [h1]
  · have hl' : (y0.map cvOrder).length ≤ 1048576 := by rw [List.length_map]; omega
    have hlm : (y0.map cvOrder).length = y0.length := List.length_map ..
    refine ⟨y0.length + 1, ?_⟩
    unfold laws_FnExactValidOrders.f
    rw [szOrderS_is y0 _ w0.1 (by omega) (by omega), Option.bind_some, if_neg h1, if_neg h1, toOrderS_is y0 (by omega) _ (by omega), Option.bind_some]
    unfold spec_ValidOrders.f impl_ValidOrders.f
    rw [sOrders_is _ hok hl' _ (by omega)]
    simp only [Option.bind_some]
    rw [if_pos hok, Option.bind_some, bne_self_eq_false, if_neg (by simp), eqOrderS_is _ _ hl' _ (by omega)]
    simp
end Go.Proofs.Ytennlgkacijnnaa.Q
