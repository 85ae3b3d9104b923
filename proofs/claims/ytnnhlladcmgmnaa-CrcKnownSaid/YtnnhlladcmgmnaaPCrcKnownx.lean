import Derived.Test.YtnnhlladcmgmnaaPCrcKnownx0
import Derived.Test.YtnnhlladcmgmnaaPCrcKnownx1
import Derived.Test.YtnnhlladcmgmnaaPCrcKnownx2
import Derived.Test.YtnnhlladcmgmnaaPCrcKnownx3
import Derived.Test.YtnnhlladcmgmnaaPCrcKnownx4
import Derived.Test.YtnnhlladcmgmnaaPCrcKnownx5
import Derived.Test.YtnnhlladcmgmnaaPCrcKnownx6
namespace Go.Proofs.Ytnnhlladcmgmnaa.PCrcKnown
open Go.RowKit Go.Proofs.YtnnhlladcmgmnaaW.PrintWords Go.Proofs.YtnnhlladcmgmnaaW.PrintLast Go.Proofs.YtnnhlladcmgmnaaW.PrintMore
attribute [local go_sem] max2_int min2_int max_two min_two max_three min_three max_four min_four   -- for this text's walks alone
set_option linter.unusedVariables false
set_option linter.unusedSimpArgs false

end Go.Proofs.Ytnnhlladcmgmnaa.PCrcKnown
