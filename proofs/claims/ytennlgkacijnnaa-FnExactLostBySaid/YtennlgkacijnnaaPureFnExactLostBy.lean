/- The pure statement of FnExactLostBy: both sides tell the same sum and code, for all vouchers and days. -/
import Derived.Test.YtennlgkacijnnaaSpec6V
import Derived.Test.YtennlgkacijnnaaQ11
set_option linter.unusedVariables false
set_option linter.unusedSimpArgs false
namespace Go.Proofs.Ytennlgkacijnnaa.Q
open Go.RowKit Go.Proofs.YtennlgkacijnnaaW.PrintWords Go.Proofs.Ytennlgkacijnnaa.Loops
theorem Pure.FnExactLostBy (y0 : List (S89)) (x1 : Int) (w0 : (y0.length ≤ maxLen ∧ ∀ x ∈ y0, wf89 x)) (w1 : (Lit.int .i64 x1).wf = true) : ∃ k, laws_FnExactLostBy.f k y0 x1 = some true := by
  have hok := okVoucher_all y0 w0
  by_cases h1 : (1048576 : Int) - y0.length < 0
  · refine ⟨0, ?_⟩
    unfold laws_FnExactLostBy.f
    rw [szVoucherS_is y0 _ w0.1 (by omega) (by omega), Option.bind_some]
    simp [h1]
  · have hl' : (y0.map cvVoucher).length ≤ 1048576 := by rw [List.length_map]; omega
    have hlm : (y0.map cvVoucher).length = y0.length := List.length_map ..
    have hs : spec_LostBy.f (y0.length + 2) (y0.map cvVoucher) x1 = impl_LostBy.f (y0.length + 2) (y0.map cvVoucher) x1 ∧ ∃ r, spec_LostBy.f (y0.length + 2) (y0.map cvVoucher) x1 = some r := by
      unfold spec_LostBy.f impl_LostBy.f
      rw [sOn_is _ _ hok hl' _ (by omega), iCode_is _ _ _ hok, sWorth_is _ _ hl' _ (by omega), iWorth_is _ _ hl' _ (by omega)]
      simp only [Option.bind_some, show allIn [] 0 1000000 = true from rfl, Bool.and_true, true_and]
      split <;> exact ⟨_, rfl⟩
    obtain ⟨he, ⟨r, c⟩, hr⟩ := hs
    rw [hr] at he
    refine ⟨y0.length + 2, ?_⟩
    unfold laws_FnExactLostBy.f
    rw [szVoucherS_is y0 _ w0.1 (by omega) (by omega), Option.bind_some, if_neg h1, if_neg h1, toVoucherS_is y0 (by omega) _ (by omega), Option.bind_some, hr, Option.bind_some, Option.bind_some, ← he, Option.bind_some, if_pos rfl, bne_self_eq_false]
    simp only [laws_FnExactLostBy.j0]
    rw [if_neg (by simp), toVoucherS_is y0 (by omega) _ (by omega), Option.bind_some, eqVoucherS_is _ _ hl' _ (by omega)]
    simp
end Go.Proofs.Ytennlgkacijnnaa.Q
