/- What reads as a net lies in its kinds. -/
import Derived.Test.YtcekifhkbdjpdaaDoorHelpN
import Derived.Test.YtcekifhkbdjpdaaDoorQFit
import Derived.Test.YtcekifhkbdjpdaaDoorNet
set_option linter.unusedVariables false
set_option linter.unusedSimpArgs false
namespace Go.Proofs.YtcekifhkbdjpdaaDoor.Q
open Go.RowKit Go.Proofs.YtcekifhkbdjpdaaDoorW.PrintWords
theorem okNet_of {y : S37} (w : wf37 y) : okNet y.f0 y.f1 (y.f2.map cvLane) = true := by
  obtain ⟨h0, h1, _, h2⟩ := w
  rw [okNet_iff]
  have := bounds_i8 h0
  have := bounds_i16 h1
  refine ⟨by omega, fun x hx => ?_⟩
  obtain ⟨z, hz, rfl⟩ := List.mem_map.1 hx
  obtain ⟨g0, g1, g2, g3⟩ := h2 z hz
  have := bounds_i8 g0
  have := bounds_i8 g1
  have := bounds_i16 g2
  have := bounds_i16 g3
  rw [okLane_iff]
  simp only [cvLane]
  omega
end Go.Proofs.YtcekifhkbdjpdaaDoor.Q
