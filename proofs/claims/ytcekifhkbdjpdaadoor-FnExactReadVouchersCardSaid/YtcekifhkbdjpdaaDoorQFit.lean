-- By a program of this session (wip/pr.py) that turns the kit's printer.
import Derived.Test.YtcekifhkbdjpdaaDoorQ0
import Derived.Test.YtcekifhkbdjpdaaDoorOpen
namespace Go.Proofs.YtcekifhkbdjpdaaDoor.Q
open Go.RowKit Go.Proofs.YtcekifhkbdjpdaaDoorW.PrintWords Go.Proofs.YtcekifhkbdjpdaaDoorW.PrintLast Go.Proofs.YtcekifhkbdjpdaaDoorW.PrintMore
attribute [local go_sem] max2_int min2_int max_two min_two max_three min_three max_four min_four   -- for this text's walks alone
set_option linter.unusedVariables false
set_option linter.unusedSimpArgs false

open Go.Proofs.YtcekifhkbdjpdaaDoor.Open
end Go.Proofs.YtcekifhkbdjpdaaDoor.Q
