import Derived.Test.YtjkiehmjffgnlaaGreatDoorXmlZ31
namespace Go.Proofs.YtjkiehmjffgnlaaGreatDoor
set_option linter.unusedVariables false
set_option linter.unusedSimpArgs false
open Go.RowKit

theorem two_alloc (w : World) (a b : Obj) : Below w.heap.size w ((w.alloc a).alloc b) ∧ ((w.alloc a).alloc b).heap[w.heap.size]? = some a ∧ ((w.alloc a).alloc b).heap[w.heap.size + 1]? = some b := by
  have s1 : (w.alloc a).heap.size = w.heap.size + 1 := World.size_alloc ..
  have b1 : Below w.heap.size w (w.alloc a) := (Below.refl _ _).alloc (Nat.le_refl _) _
  refine ⟨b1.alloc b1.size b, ?_, ?_⟩
  · rw [heap_alloc_old _ _ (by rw [s1]; omega)]
    exact heap_alloc_new w a
  · have := heap_alloc_new (w.alloc a) b
    rwa [s1] at this
end Go.Proofs.YtjkiehmjffgnlaaGreatDoor
