-- By a program of this session (wip/pr.py) that turns the kit's printer.
import Derived.Test.YtlefddghiiigeaaQ0
import Derived.Test.YtlefddghiiigeaaOpen
namespace Go.Proofs.Ytlefddghiiigeaa.Q
open Go.RowKit Go.Proofs.YtlefddghiiigeaaW.PrintWords Go.Proofs.YtlefddghiiigeaaW.PrintLast Go.Proofs.YtlefddghiiigeaaW.PrintMore
attribute [local go_sem] max2_int min2_int max_two min_two max_three min_three max_four min_four   -- for this text's walks alone
set_option linter.unusedVariables false
set_option linter.unusedSimpArgs false

open Go.Proofs.Ytlefddghiiigeaa.Open
def wf57 (y : S57) : Prop := (Lit.int .i8 y.f0).wf = true ∧ (Lit.int .i8 y.f1).wf = true ∧ (Lit.int .i16 y.f2).wf = true ∧ (Lit.int .i16 y.f3).wf = true ∧ (Lit.int .i16 y.f4).wf = true
theorem opens57 : Opens Try.prog 57 k57 wf57 := by
  have h := opens_struct (fun x : S57 => (x.f0, x.f1, x.f2, x.f3, x.f4)) (fun p => (⟨p.1, p.2.1, p.2.2.1, p.2.2.2.1, p.2.2.2.2⟩ : S57)) (fun x => rfl) Try.underlying57 (by kernel_rfl) (ts := [47, 47, 48, 48, 48]) (fun j u h => by
    rcases j with _ | _ | _ | _ | _ | j
    · cases h; exact ⟨_, rfl, rfl, by kernel_rfl⟩
    · cases h; exact ⟨_, rfl, rfl, by kernel_rfl⟩
    · cases h; exact ⟨_, rfl, rfl, by kernel_rfl⟩
    · cases h; exact ⟨_, rfl, rfl, by kernel_rfl⟩
    · cases h; exact ⟨_, rfl, rfl, by kernel_rfl⟩
    · simp at h) (opensL_cons (opens_int Try.underlying47 (by kernel_rfl)) (opensL_cons (opens_int Try.underlying47 (by kernel_rfl)) (opensL_cons (opens_int Try.underlying48 (by kernel_rfl)) (opensL_cons (opens_int Try.underlying48 (by kernel_rfl)) (opensL_one (opens_int Try.underlying48 (by kernel_rfl)))))))
  exact h
def wf59 (y : S59) : Prop := (Lit.int .i8 y.f0).wf = true ∧ (Lit.int .i8 y.f1).wf = true ∧ (Lit.int .i16 y.f2).wf = true ∧ (Lit.int .i16 y.f3).wf = true
theorem opens59 : Opens Try.prog 59 k59 wf59 := by
  have h := opens_struct (fun x : S59 => (x.f0, x.f1, x.f2, x.f3)) (fun p => (⟨p.1, p.2.1, p.2.2.1, p.2.2.2⟩ : S59)) (fun x => rfl) Try.underlying59 (by kernel_rfl) (ts := [47, 47, 48, 48]) (fun j u h => by
    rcases j with _ | _ | _ | _ | j
    · cases h; exact ⟨_, rfl, rfl, by kernel_rfl⟩
    · cases h; exact ⟨_, rfl, rfl, by kernel_rfl⟩
    · cases h; exact ⟨_, rfl, rfl, by kernel_rfl⟩
    · cases h; exact ⟨_, rfl, rfl, by kernel_rfl⟩
    · simp at h) (opensL_cons (opens_int Try.underlying47 (by kernel_rfl)) (opensL_cons (opens_int Try.underlying47 (by kernel_rfl)) (opensL_cons (opens_int Try.underlying48 (by kernel_rfl)) (opensL_one (opens_int Try.underlying48 (by kernel_rfl))))))
  exact h
end Go.Proofs.Ytlefddghiiigeaa.Q
