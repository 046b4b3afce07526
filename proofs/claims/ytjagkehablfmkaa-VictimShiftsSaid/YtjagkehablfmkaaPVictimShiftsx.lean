/- Contracts of Go functions of this seat, laid by a program of this session out of the translation. No condition. -/
import Derived.Test.YtjagkehablfmkaaPVictimShiftsx0
import Derived.Test.YtjagkehablfmkaaPVictimShiftsx1
import Derived.Test.YtjagkehablfmkaaPVictimShiftsx2
import Derived.Test.YtjagkehablfmkaaPVictimShiftsx3
namespace Go.Proofs.Ytjagkehablfmkaa.PVictimShifts
open Go.RowKit Go.Proofs.YtjagkehablfmkaaW.PrintWords Go.Proofs.YtjagkehablfmkaaW.PrintLast Go.Proofs.YtjagkehablfmkaaW.PrintMore
attribute [local go_sem] max2_int min2_int max_two min_two max_three min_three max_four min_four   -- for this text's walks alone
set_option linter.unusedVariables false
set_option linter.unusedSimpArgs false

end Go.Proofs.Ytjagkehablfmkaa.PVictimShifts
