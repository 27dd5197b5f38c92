-- By a program of this session (wip/pr.py) that turns the kit's printer.
import Derived.Test.YticfecncdpdanaaQ0
namespace Go.Proofs.Yticfecncdpdanaa.Q
open Go.RowKit Go.Proofs.YticfecncdpdanaaW.PrintWords Go.Proofs.YticfecncdpdanaaW.PrintLast Go.Proofs.YticfecncdpdanaaW.PrintMore
attribute [local go_sem] max2_int min2_int max_two min_two max_three min_three max_four min_four   -- for this text's walks alone
set_option linter.unusedVariables false
set_option linter.unusedSimpArgs false

theorem eqA31 (d : Nat) (w : World) (x0 y0 : Int) (x1 y1 : Int) :
    (Op.equalIn (d + 2) 31 (.agg #[.int .i8 x0, .int .i16 x1]) (.agg #[.int .i8 y0, .int .i16 y1])).run Try.prog w = .ok (x0 == y0 && (x1 == y1)) w := by
  refine eqA_of Try.underlying31 (by kernel_rfl) ?_
  refine eqf_cons (by rfl) (by go_simp; rfl) (by go_simp; rfl) (by go_simp) ?_
  exact eqf_last (by rfl) (by go_simp; rfl) (by go_simp; rfl) (by go_simp)
end Go.Proofs.Yticfecncdpdanaa.Q
