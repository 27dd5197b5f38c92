-- By a program of this session (wip/pr.py) that turns the kit's printer.
import Derived.Test.YtpblkgnmddmheaaQ0
import Derived.Test.YtpblkgnmddmheaaOpen
namespace Go.Proofs.Ytpblkgnmddmheaa.Q
open Go.RowKit Go.Proofs.YtpblkgnmddmheaaW.PrintWords Go.Proofs.YtpblkgnmddmheaaW.PrintLast Go.Proofs.YtpblkgnmddmheaaW.PrintMore
attribute [local go_sem] max2_int min2_int max_two min_two max_three min_three max_four min_four   -- for this text's walks alone
set_option linter.unusedVariables false
set_option linter.unusedSimpArgs false

open Go.Proofs.Ytpblkgnmddmheaa.Open
end Go.Proofs.Ytpblkgnmddmheaa.Q
