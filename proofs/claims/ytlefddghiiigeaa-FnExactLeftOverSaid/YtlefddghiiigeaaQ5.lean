-- By a program of this session (wip/pr.py) that turns the kit's printer. Slimmed: slimmed to what one row names.
import Derived.Test.YtlefddghiiigeaaQ0
namespace Go.Proofs.Ytlefddghiiigeaa.Q
open Go.RowKit Go.Proofs.YtlefddghiiigeaaW.PrintWords Go.Proofs.YtlefddghiiigeaaW.PrintLast Go.Proofs.YtlefddghiiigeaaW.PrintMore
attribute [local go_sem] max2_int min2_int max_two min_two max_three min_three max_four min_four   -- for this text's walks alone
set_option linter.unusedVariables false
set_option linter.unusedSimpArgs false

end Go.Proofs.Ytlefddghiiigeaa.Q
