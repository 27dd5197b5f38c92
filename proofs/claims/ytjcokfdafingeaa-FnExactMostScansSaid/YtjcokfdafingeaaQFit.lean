-- By a program of this session (wip/pr.py) that turns the kit's printer.
import Derived.Test.YtjcokfdafingeaaQ0
import Derived.Test.YtjcokfdafingeaaOpen
namespace Go.Proofs.Ytjcokfdafingeaa.Q
open Go.RowKit Go.Proofs.YtjcokfdafingeaaW.PrintWords Go.Proofs.YtjcokfdafingeaaW.PrintLast Go.Proofs.YtjcokfdafingeaaW.PrintMore
attribute [local go_sem] max2_int min2_int max_two min_two max_three min_three max_four min_four   -- for this text's walks alone
set_option linter.unusedVariables false
set_option linter.unusedSimpArgs false

open Go.Proofs.Ytjcokfdafingeaa.Open
def wf117 (y : S117) : Prop := (Lit.int .i8 y.f0).wf = true ∧ (Lit.int .i8 y.f1).wf = true ∧ (Lit.int .i16 y.f2).wf = true ∧ (Lit.int .i16 y.f3).wf = true
theorem opens117 : Opens Try.prog 117 k117 wf117 := by
  have h := opens_struct (fun x : S117 => (x.f0, x.f1, x.f2, x.f3)) (fun p => (⟨p.1, p.2.1, p.2.2.1, p.2.2.2⟩ : S117)) (fun x => rfl) Try.underlying117 (by kernel_rfl) (ts := [22, 22, 23, 23]) (fun j u h => by
    rcases j with _ | _ | _ | _ | j
    · cases h; exact ⟨_, rfl, rfl, by kernel_rfl⟩
    · cases h; exact ⟨_, rfl, rfl, by kernel_rfl⟩
    · cases h; exact ⟨_, rfl, rfl, by kernel_rfl⟩
    · cases h; exact ⟨_, rfl, rfl, by kernel_rfl⟩
    · simp at h) (opensL_cons (opens_int Try.underlying22 (by kernel_rfl)) (opensL_cons (opens_int Try.underlying22 (by kernel_rfl)) (opensL_cons (opens_int Try.underlying23 (by kernel_rfl)) (opensL_one (opens_int Try.underlying23 (by kernel_rfl))))))
  exact h
def wf26 (y : S26) : Prop := (Lit.int .i8 y.f0).wf = true ∧ (Lit.int .i16 y.f1).wf = true ∧ (y.f2.length ≤ maxLen ∧ ∀ x ∈ y.f2, wf117 x)
theorem opens26 : Opens Try.prog 26 k26 wf26 := by
  have h := opens_struct (fun x : S26 => (x.f0, x.f1, x.f2)) (fun p => (⟨p.1, p.2.1, p.2.2⟩ : S26)) (fun x => rfl) Try.underlying26 (by kernel_rfl) (ts := [22, 23, 24]) (fun j u h => by
    rcases j with _ | _ | _ | j
    · cases h; exact ⟨_, rfl, rfl, by kernel_rfl⟩
    · cases h; exact ⟨_, rfl, rfl, by kernel_rfl⟩
    · cases h; exact ⟨_, rfl, rfl, by kernel_rfl⟩
    · simp at h) (opensL_cons (opens_int Try.underlying22 (by kernel_rfl)) (opensL_cons (opens_int Try.underlying23 (by kernel_rfl)) (opensL_one (opens_slice Try.underlying24 (by kernel_rfl) opens117))))
  exact h
def wf44 (y : S44) : Prop := (Lit.int .i8 y.f0).wf = true ∧ (Lit.int .i16 y.f1).wf = true
theorem opens44 : Opens Try.prog 44 k44 wf44 := by
  have h := opens_struct (fun x : S44 => (x.f0, x.f1)) (fun p => (⟨p.1, p.2⟩ : S44)) (fun x => rfl) Try.underlying44 (by kernel_rfl) (ts := [22, 23]) (fun j u h => by
    rcases j with _ | _ | j
    · cases h; exact ⟨_, rfl, rfl, by kernel_rfl⟩
    · cases h; exact ⟨_, rfl, rfl, by kernel_rfl⟩
    · simp at h) (opensL_cons (opens_int Try.underlying22 (by kernel_rfl)) (opensL_one (opens_int Try.underlying23 (by kernel_rfl))))
  exact h
end Go.Proofs.Ytjcokfdafingeaa.Q
