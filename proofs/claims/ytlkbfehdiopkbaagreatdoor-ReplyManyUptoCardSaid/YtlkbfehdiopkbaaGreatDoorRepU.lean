/-
  Between the walk of ReplyMany and its row: how long the forms are. No condition.
-/
import Derived.Test.YtlkbfehdiopkbaaGreatDoorRepT
import Derived.Test.YtlkbfehdiopkbaaGreatDoorRepRow
namespace Go.Proofs.YtlkbfehdiopkbaaGreatDoor
theorem fsum_le : ∀ l : List RespT, fsum l ≤ 4 * (l.map respM).sum + 70000 * l.length
  | [] => Nat.zero_le _
  | r :: l => by
    have h1 := fsum_le l
    have h2 := flat_le r.hdrs
    rw [fsum_cons]
    simp only [List.map_cons, List.sum_cons, List.length_cons, respM]
    omega
end Go.Proofs.YtlkbfehdiopkbaaGreatDoor
