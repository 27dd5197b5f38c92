-- By a program of this session (wip/pr.py) that turns the kit's printer.
import Derived.Test.YtgjpnamckkedfaaQ0
import Derived.Test.YtgjpnamckkedfaaOpen
namespace Go.Proofs.Ytgjpnamckkedfaa.Q
open Go.RowKit Go.Proofs.YtgjpnamckkedfaaW.PrintWords Go.Proofs.YtgjpnamckkedfaaW.PrintLast Go.Proofs.YtgjpnamckkedfaaW.PrintMore
attribute [local go_sem] max2_int min2_int max_two min_two max_three min_three max_four min_four   -- for this text's walks alone
set_option linter.unusedVariables false
set_option linter.unusedSimpArgs false

open Go.Proofs.Ytgjpnamckkedfaa.Open
end Go.Proofs.Ytgjpnamckkedfaa.Q
