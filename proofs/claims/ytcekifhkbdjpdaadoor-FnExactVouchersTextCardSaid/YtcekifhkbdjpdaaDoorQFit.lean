-- By a program of this session (wip/pr.py) that turns the kit's printer.
import Derived.Test.YtcekifhkbdjpdaaDoorQ0
import Derived.Test.YtcekifhkbdjpdaaDoorOpen
namespace Go.Proofs.YtcekifhkbdjpdaaDoor.Q
open Go.RowKit Go.Proofs.YtcekifhkbdjpdaaDoorW.PrintWords Go.Proofs.YtcekifhkbdjpdaaDoorW.PrintLast Go.Proofs.YtcekifhkbdjpdaaDoorW.PrintMore
attribute [local go_sem] max2_int min2_int max_two min_two max_three min_three max_four min_four   -- for this text's walks alone
set_option linter.unusedVariables false
set_option linter.unusedSimpArgs false

open Go.Proofs.YtcekifhkbdjpdaaDoor.Open
def wf53 (y : S53) : Prop := (Lit.int .i32 y.f0).wf = true ∧ (Lit.int .i16 y.f1).wf = true
theorem opens53 : Opens Tryd.prog 53 k53 wf53 := by
  have h := opens_struct (fun x : S53 => (x.f0, x.f1)) (fun p => (⟨p.1, p.2⟩ : S53)) (fun x => rfl) Tryd.underlying53 (by kernel_rfl) (ts := [21, 34]) (fun j u h => by
    rcases j with _ | _ | j
    · cases h; exact ⟨_, rfl, rfl, by kernel_rfl⟩
    · cases h; exact ⟨_, rfl, rfl, by kernel_rfl⟩
    · simp at h) (opensL_cons (opens_int Tryd.underlying21 (by kernel_rfl)) (opensL_one (opens_int Tryd.underlying34 (by kernel_rfl))))
  exact h
end Go.Proofs.YtcekifhkbdjpdaaDoor.Q
