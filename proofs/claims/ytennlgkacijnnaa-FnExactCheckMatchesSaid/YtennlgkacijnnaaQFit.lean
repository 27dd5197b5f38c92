-- By a program of this session (wip/pr.py) that turns the kit's printer.
import Derived.Test.YtennlgkacijnnaaQ0
import Derived.Test.YtennlgkacijnnaaOpen
namespace Go.Proofs.Ytennlgkacijnnaa.Q
open Go.RowKit Go.Proofs.YtennlgkacijnnaaW.PrintWords Go.Proofs.YtennlgkacijnnaaW.PrintLast Go.Proofs.YtennlgkacijnnaaW.PrintMore
attribute [local go_sem] max2_int min2_int max_two min_two max_three min_three max_four min_four   -- for this text's walks alone
set_option linter.unusedVariables false
set_option linter.unusedSimpArgs false

open Go.Proofs.Ytennlgkacijnnaa.Open
def wf77 (y : S77) : Prop := (Lit.int .i8 y.f0).wf = true ∧ (Lit.int .i8 y.f1).wf = true ∧ (Lit.int .i16 y.f2).wf = true ∧ (Lit.int .i16 y.f3).wf = true ∧ (Lit.int .i16 y.f4).wf = true
theorem opens77 : Opens Try.prog 77 k77 wf77 := by
  have h := opens_struct (fun x : S77 => (x.f0, x.f1, x.f2, x.f3, x.f4)) (fun p => (⟨p.1, p.2.1, p.2.2.1, p.2.2.2.1, p.2.2.2.2⟩ : S77)) (fun x => rfl) Try.underlying77 (by kernel_rfl) (ts := [72, 72, 73, 73, 73]) (fun j u h => by
    rcases j with _ | _ | _ | _ | _ | j
    · cases h; exact ⟨_, rfl, rfl, by kernel_rfl⟩
    · cases h; exact ⟨_, rfl, rfl, by kernel_rfl⟩
    · cases h; exact ⟨_, rfl, rfl, by kernel_rfl⟩
    · cases h; exact ⟨_, rfl, rfl, by kernel_rfl⟩
    · cases h; exact ⟨_, rfl, rfl, by kernel_rfl⟩
    · simp at h) (opensL_cons (opens_int Try.underlying72 (by kernel_rfl)) (opensL_cons (opens_int Try.underlying72 (by kernel_rfl)) (opensL_cons (opens_int Try.underlying73 (by kernel_rfl)) (opensL_cons (opens_int Try.underlying73 (by kernel_rfl)) (opensL_one (opens_int Try.underlying73 (by kernel_rfl)))))))
  exact h
def wf89 (y : S89) : Prop := (Lit.int .i32 y.f0).wf = true ∧ (Lit.int .i16 y.f1).wf = true
theorem opens89 : Opens Try.prog 89 k89 wf89 := by
  have h := opens_struct (fun x : S89 => (x.f0, x.f1)) (fun p => (⟨p.1, p.2⟩ : S89)) (fun x => rfl) Try.underlying89 (by kernel_rfl) (ts := [21, 73]) (fun j u h => by
    rcases j with _ | _ | j
    · cases h; exact ⟨_, rfl, rfl, by kernel_rfl⟩
    · cases h; exact ⟨_, rfl, rfl, by kernel_rfl⟩
    · simp at h) (opensL_cons (opens_int Try.underlying21 (by kernel_rfl)) (opensL_one (opens_int Try.underlying73 (by kernel_rfl))))
  exact h
def wf96 (y : S96) : Prop := (Lit.int .i8 y.f0).wf = true ∧ (Lit.int .i8 y.f1).wf = true ∧ (Lit.int .i16 y.f2).wf = true ∧ (Lit.int .i16 y.f3).wf = true
theorem opens96 : Opens Try.prog 96 k96 wf96 := by
  have h := opens_struct (fun x : S96 => (x.f0, x.f1, x.f2, x.f3)) (fun p => (⟨p.1, p.2.1, p.2.2.1, p.2.2.2⟩ : S96)) (fun x => rfl) Try.underlying96 (by kernel_rfl) (ts := [72, 72, 73, 73]) (fun j u h => by
    rcases j with _ | _ | _ | _ | j
    · cases h; exact ⟨_, rfl, rfl, by kernel_rfl⟩
    · cases h; exact ⟨_, rfl, rfl, by kernel_rfl⟩
    · cases h; exact ⟨_, rfl, rfl, by kernel_rfl⟩
    · cases h; exact ⟨_, rfl, rfl, by kernel_rfl⟩
    · simp at h) (opensL_cons (opens_int Try.underlying72 (by kernel_rfl)) (opensL_cons (opens_int Try.underlying72 (by kernel_rfl)) (opensL_cons (opens_int Try.underlying73 (by kernel_rfl)) (opensL_one (opens_int Try.underlying73 (by kernel_rfl))))))
  exact h
def wf104 (y : S104) : Prop := (Lit.int .i8 y.f0).wf = true ∧ (Lit.int .i8 y.f1).wf = true ∧ (Lit.int .i16 y.f2).wf = true
theorem opens104 : Opens Try.prog 104 k104 wf104 := by
  have h := opens_struct (fun x : S104 => (x.f0, x.f1, x.f2)) (fun p => (⟨p.1, p.2.1, p.2.2⟩ : S104)) (fun x => rfl) Try.underlying104 (by kernel_rfl) (ts := [72, 72, 73]) (fun j u h => by
    rcases j with _ | _ | _ | j
    · cases h; exact ⟨_, rfl, rfl, by kernel_rfl⟩
    · cases h; exact ⟨_, rfl, rfl, by kernel_rfl⟩
    · cases h; exact ⟨_, rfl, rfl, by kernel_rfl⟩
    · simp at h) (opensL_cons (opens_int Try.underlying72 (by kernel_rfl)) (opensL_cons (opens_int Try.underlying72 (by kernel_rfl)) (opensL_one (opens_int Try.underlying73 (by kernel_rfl)))))
  exact h
end Go.Proofs.Ytennlgkacijnnaa.Q
