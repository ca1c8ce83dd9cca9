import Derived.Test.YtjkiehmjffgnlaaGreatDoorXmlZ41
namespace Go.Proofs.YtjkiehmjffgnlaaGreatDoor
set_option linter.unusedVariables false
set_option linter.unusedSimpArgs false
open Go.RowKit

end Go.Proofs.YtjkiehmjffgnlaaGreatDoor
