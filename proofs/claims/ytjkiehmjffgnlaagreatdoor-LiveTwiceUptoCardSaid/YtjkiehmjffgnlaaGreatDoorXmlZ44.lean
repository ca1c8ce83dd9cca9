import Derived.Test.YtjkiehmjffgnlaaGreatDoorXmlZ42
import Derived.Test.YtjkiehmjffgnlaaGreatDoorXmlZ26
import Derived.Deep.RegionHeld3
namespace Go.Proofs.YtjkiehmjffgnlaaGreatDoor
set_option linter.unusedVariables false
set_option linter.unusedSimpArgs false
open Go.RowKit

end Go.Proofs.YtjkiehmjffgnlaaGreatDoor
namespace Go.Proofs.YtjkiehmjffgnlaaGreatDoor
set_option linter.unusedVariables false
set_option linter.unusedSimpArgs false
open Go.RowKit

end Go.Proofs.YtjkiehmjffgnlaaGreatDoor
