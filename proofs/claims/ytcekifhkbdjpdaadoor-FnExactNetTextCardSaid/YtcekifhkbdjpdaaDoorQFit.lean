-- By a program of this session (wip/pr.py) that turns the kit's printer.
import Derived.Test.YtcekifhkbdjpdaaDoorQ0
import Derived.Test.YtcekifhkbdjpdaaDoorOpen
namespace Go.Proofs.YtcekifhkbdjpdaaDoor.Q
open Go.RowKit Go.Proofs.YtcekifhkbdjpdaaDoorW.PrintWords Go.Proofs.YtcekifhkbdjpdaaDoorW.PrintLast Go.Proofs.YtcekifhkbdjpdaaDoorW.PrintMore
attribute [local go_sem] max2_int min2_int max_two min_two max_three min_three max_four min_four   -- for this text's walks alone
set_option linter.unusedVariables false
set_option linter.unusedSimpArgs false

open Go.Proofs.YtcekifhkbdjpdaaDoor.Open
def wf102 (y : S102) : Prop := (Lit.int .i8 y.f0).wf = true ∧ (Lit.int .i8 y.f1).wf = true ∧ (Lit.int .i16 y.f2).wf = true ∧ (Lit.int .i16 y.f3).wf = true
theorem opens102 : Opens Tryd.prog 102 k102 wf102 := by
  have h := opens_struct (fun x : S102 => (x.f0, x.f1, x.f2, x.f3)) (fun p => (⟨p.1, p.2.1, p.2.2.1, p.2.2.2⟩ : S102)) (fun x => rfl) Tryd.underlying102 (by kernel_rfl) (ts := [33, 33, 34, 34]) (fun j u h => by
    rcases j with _ | _ | _ | _ | j
    · cases h; exact ⟨_, rfl, rfl, by kernel_rfl⟩
    · cases h; exact ⟨_, rfl, rfl, by kernel_rfl⟩
    · cases h; exact ⟨_, rfl, rfl, by kernel_rfl⟩
    · cases h; exact ⟨_, rfl, rfl, by kernel_rfl⟩
    · simp at h) (opensL_cons (opens_int Tryd.underlying33 (by kernel_rfl)) (opensL_cons (opens_int Tryd.underlying33 (by kernel_rfl)) (opensL_cons (opens_int Tryd.underlying34 (by kernel_rfl)) (opensL_one (opens_int Tryd.underlying34 (by kernel_rfl))))))
  exact h
def wf37 (y : S37) : Prop := (Lit.int .i8 y.f0).wf = true ∧ (Lit.int .i16 y.f1).wf = true ∧ (y.f2.length ≤ maxLen ∧ ∀ x ∈ y.f2, wf102 x)
theorem opens37 : Opens Tryd.prog 37 k37 wf37 := by
  have h := opens_struct (fun x : S37 => (x.f0, x.f1, x.f2)) (fun p => (⟨p.1, p.2.1, p.2.2⟩ : S37)) (fun x => rfl) Tryd.underlying37 (by kernel_rfl) (ts := [33, 34, 35]) (fun j u h => by
    rcases j with _ | _ | _ | j
    · cases h; exact ⟨_, rfl, rfl, by kernel_rfl⟩
    · cases h; exact ⟨_, rfl, rfl, by kernel_rfl⟩
    · cases h; exact ⟨_, rfl, rfl, by kernel_rfl⟩
    · simp at h) (opensL_cons (opens_int Tryd.underlying33 (by kernel_rfl)) (opensL_cons (opens_int Tryd.underlying34 (by kernel_rfl)) (opensL_one (opens_slice Tryd.underlying35 (by kernel_rfl) opens102))))
  exact h
end Go.Proofs.YtcekifhkbdjpdaaDoor.Q
