/- The pure statement of FnExactNetText: both sides give the same text, for all nets. -/
import Derived.Test.YtcekifhkbdjpdaaDoorFitN
import Derived.Test.YtcekifhkbdjpdaaDoorHNText
import Derived.Test.YtcekifhkbdjpdaaDoorQ4
set_option linter.unusedVariables false
set_option linter.unusedSimpArgs false
namespace Go.Proofs.YtcekifhkbdjpdaaDoor.Q
open Go.RowKit Go.Proofs.YtcekifhkbdjpdaaDoorW.PrintWords
theorem Pure.FnExactNetText (y0 : S37) (w0 : wf37 y0) : ∃ k, laws_FnExactNetText.f k y0.f0 y0.f1 y0.f2 = some true := by
  have hok := okNet_of w0
  obtain ⟨a, b, l⟩ := y0
  obtain ⟨_, _, hl, _⟩ := w0
  simp only at hl hok ⊢
  refine ⟨l.length + 1, ?_⟩
  unfold laws_FnExactNetText.f
  rw [szNet_is a b l _ hl (by omega) (by omega), Option.bind_some]
  by_cases h1 : (1048576 : Int) - l.length < 0
  · simp [h1]
  · rw [if_neg h1, if_neg h1]
    have hl' : (l.map cvLane).length ≤ 1048576 := by rw [List.length_map]; omega
    simp only [toNet_is a b l (by omega) _ (show l.length < l.length + 1 by omega), Option.bind_some, spec_NetText.f, impl_NetText.f, hok, if_true,
      eqNet_same a b _ hl' _ (show (l.map cvLane).length < l.length + 1 by rw [List.length_map]; omega)]
end Go.Proofs.YtcekifhkbdjpdaaDoor.Q
