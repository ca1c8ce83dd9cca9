import Derived.Test.YtcamdnfhnianbaaGreatDoorXmlZ35
import Derived.Deep.RegionHeld3
namespace Go.Proofs.YtcamdnfhnianbaaGreatDoor
set_option linter.unusedVariables false
set_option linter.unusedSimpArgs false
open Go.RowKit

theorem row1 {α : Type} {n : Nat} {R : World → List Value → α → Prop} {w : World} {b : Nat} {ty : TypeId} {cs : List Value} {x : α} (h : w.heap[b]? = some (.cells cs.toArray ty (0, 0))) (hl : cs.length = n) (hr : R w cs x) : TabP n R anyB w (.slice (some ⟨b, 0, none⟩) 1 1) [x] :=
  many_row (rows := [cs]) (xs := [x]) (by simpa using h) (by intro r hr; rw [List.mem_singleton.1 hr]; exact hl) rfl (show 1 ≤ maxLen by unfold maxLen; decide) (by intro j r y hr2 hx; have hj := (List.getElem?_eq_some_iff.1 hx).1; simp at hj; subst hj; injection hr2 with hr2; injection hx with hx; subst hr2 hx; exact hr) trivial
theorem bulk_dav (nm : List UInt8) (ks : List NodeT) : bulkT (davN nm ks) = nm.length + 7 + bulkTL ks := by
  show bulkT (.mk [] wDav nm [] ks) = _
  rw [bulkT]
  simp only [List.length_nil, List.map_nil, List.sum_nil]
  show 0 + 4 + nm.length + 3 + _ + _ = _
  omega
theorem bulkTL_one (n : NodeT) : bulkTL [n] = bulkT n + 1 := by rw [bulkTL, bulkTL]
def allocs : World → List Obj → World
  | w, [] => w
  | w, o :: l => allocs (w.alloc o) l
theorem allocs_below : ∀ (l : List Obj) (w : World), Below w.heap.size w (allocs w l)
  | [], w => Below.refl _ _
  | o :: l, w => by
    have h := allocs_below l (w.alloc o)
    have hb := (Below.refl w.heap.size w).alloc (Nat.le_refl _) o
    exact hb.trans (h.mono hb.size)
theorem allocs_at : ∀ (l : List Obj) (w : World) (i : Nat) (o : Obj), l[i]? = some o → (allocs w l).heap[w.heap.size + i]? = some o
  | [], w, i, o, h => by simp at h
  | x :: l, w, 0, o, h => by
    obtain rfl : x = o := by simpa using h
    exact ((allocs_below l (w.alloc x)).block _ (by rw [World.size_alloc]; omega)).trans (heap_alloc_new w x)
  | x :: l, w, i + 1, o, h => by
    have := allocs_at l (w.alloc x) i o (by simpa using h)
    rw [World.size_alloc, Nat.add_assoc, Nat.add_comm 1 i] at this
    exact this
end Go.Proofs.YtcamdnfhnianbaaGreatDoor
namespace Go.Proofs.YtcamdnfhnianbaaGreatDoor
set_option linter.unusedVariables false
set_option linter.unusedSimpArgs false
open Go.RowKit

end Go.Proofs.YtcamdnfhnianbaaGreatDoor
