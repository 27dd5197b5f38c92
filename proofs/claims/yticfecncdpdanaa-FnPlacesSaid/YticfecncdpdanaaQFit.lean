-- By a program of this session (wip/pr.py) that turns the kit's printer.
import Derived.Test.YticfecncdpdanaaQ0
import Derived.Test.YticfecncdpdanaaOpen
namespace Go.Proofs.Yticfecncdpdanaa.Q
open Go.RowKit Go.Proofs.YticfecncdpdanaaW.PrintWords Go.Proofs.YticfecncdpdanaaW.PrintLast Go.Proofs.YticfecncdpdanaaW.PrintMore
attribute [local go_sem] max2_int min2_int max_two min_two max_three min_three max_four min_four   -- for this text's walks alone
set_option linter.unusedVariables false
set_option linter.unusedSimpArgs false

open Go.Proofs.Yticfecncdpdanaa.Open
end Go.Proofs.Yticfecncdpdanaa.Q
