import Derived.Test.YtcamdnfhnianbaaGreatDoorXmlZ33
namespace Go.Proofs.YtcamdnfhnianbaaGreatDoor
set_option linter.unusedVariables false
set_option linter.unusedSimpArgs false
open Go.RowKit

end Go.Proofs.YtcamdnfhnianbaaGreatDoor
