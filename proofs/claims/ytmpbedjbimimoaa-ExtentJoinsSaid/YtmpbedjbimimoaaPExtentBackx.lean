/- Contracts of Go functions of this seat, laid by a program of this session out of the translation. No condition. -/
import Derived.Test.YtmpbedjbimimoaaPExtentBackx0
import Derived.Test.YtmpbedjbimimoaaPExtentBackx1
import Derived.Test.YtmpbedjbimimoaaPExtentBackx2
import Derived.Test.YtmpbedjbimimoaaPExtentBackx3
import Derived.Test.YtmpbedjbimimoaaPExtentBackx4
namespace Go.Proofs.Ytmpbedjbimimoaa.PExtentBack
open Go.RowKit Go.Proofs.YtmpbedjbimimoaaW.PrintWords Go.Proofs.YtmpbedjbimimoaaW.PrintLast Go.Proofs.YtmpbedjbimimoaaW.PrintMore
attribute [local go_sem] max2_int min2_int max_two min_two max_three min_three max_four min_four   -- for this text's walks alone
set_option linter.unusedVariables false
set_option linter.unusedSimpArgs false

end Go.Proofs.Ytmpbedjbimimoaa.PExtentBack
