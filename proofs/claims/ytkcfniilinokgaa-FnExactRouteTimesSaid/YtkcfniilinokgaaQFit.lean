-- By a program of this session (wip/pr.py) that turns the kit's printer.
import Derived.Test.YtkcfniilinokgaaQ0
import Derived.Test.YtkcfniilinokgaaOpen
namespace Go.Proofs.Ytkcfniilinokgaa.Q
open Go.RowKit Go.Proofs.YtkcfniilinokgaaW.PrintWords Go.Proofs.YtkcfniilinokgaaW.PrintLast Go.Proofs.YtkcfniilinokgaaW.PrintMore
attribute [local go_sem] max2_int min2_int max_two min_two max_three min_three max_four min_four   -- for this text's walks alone
set_option linter.unusedVariables false
set_option linter.unusedSimpArgs false

open Go.Proofs.Ytkcfniilinokgaa.Open
def wf63 (y : S63) : Prop := (Lit.int .i8 y.f0).wf = true ∧ (Lit.int .i8 y.f1).wf = true ∧ (Lit.int .i16 y.f2).wf = true ∧ (Lit.int .i16 y.f3).wf = true
theorem opens63 : Opens Try.prog 63 k63 wf63 := by
  have h := opens_struct (fun x : S63 => (x.f0, x.f1, x.f2, x.f3)) (fun p => (⟨p.1, p.2.1, p.2.2.1, p.2.2.2⟩ : S63)) (fun x => rfl) Try.underlying63 (by kernel_rfl) (ts := [22, 22, 23, 23]) (fun j u h => by
    rcases j with _ | _ | _ | _ | j
    · cases h; exact ⟨_, rfl, rfl, by kernel_rfl⟩
    · cases h; exact ⟨_, rfl, rfl, by kernel_rfl⟩
    · cases h; exact ⟨_, rfl, rfl, by kernel_rfl⟩
    · cases h; exact ⟨_, rfl, rfl, by kernel_rfl⟩
    · simp at h) (opensL_cons (opens_int Try.underlying22 (by kernel_rfl)) (opensL_cons (opens_int Try.underlying22 (by kernel_rfl)) (opensL_cons (opens_int Try.underlying23 (by kernel_rfl)) (opensL_one (opens_int Try.underlying23 (by kernel_rfl))))))
  exact h
def wf26 (y : S26) : Prop := (Lit.int .i8 y.f0).wf = true ∧ (Lit.int .i16 y.f1).wf = true ∧ (y.f2.length ≤ maxLen ∧ ∀ x ∈ y.f2, wf63 x)
theorem opens26 : Opens Try.prog 26 k26 wf26 := by
  have h := opens_struct (fun x : S26 => (x.f0, x.f1, x.f2)) (fun p => (⟨p.1, p.2.1, p.2.2⟩ : S26)) (fun x => rfl) Try.underlying26 (by kernel_rfl) (ts := [22, 23, 24]) (fun j u h => by
    rcases j with _ | _ | _ | j
    · cases h; exact ⟨_, rfl, rfl, by kernel_rfl⟩
    · cases h; exact ⟨_, rfl, rfl, by kernel_rfl⟩
    · cases h; exact ⟨_, rfl, rfl, by kernel_rfl⟩
    · simp at h) (opensL_cons (opens_int Try.underlying22 (by kernel_rfl)) (opensL_cons (opens_int Try.underlying23 (by kernel_rfl)) (opensL_one (opens_slice Try.underlying24 (by kernel_rfl) opens63))))
  exact h
end Go.Proofs.Ytkcfniilinokgaa.Q
