import Derived.Test.YtcamdnfhnianbaaGreatDoorXmlZ31
namespace Go.Proofs.YtcamdnfhnianbaaGreatDoor
set_option linter.unusedVariables false
set_option linter.unusedSimpArgs false
open Go.RowKit

theorem two_alloc (w : World) (a b : Obj) : Below w.heap.size w ((w.alloc a).alloc b) ∧ ((w.alloc a).alloc b).heap[w.heap.size]? = some a ∧ ((w.alloc a).alloc b).heap[w.heap.size + 1]? = some b := by
  have s1 : (w.alloc a).heap.size = w.heap.size + 1 := World.size_alloc ..
  have b1 : Below w.heap.size w (w.alloc a) := (Below.refl _ _).alloc (Nat.le_refl _) _
  refine ⟨b1.alloc b1.size b, ?_, ?_⟩
  · rw [heap_alloc_old _ _ (by rw [s1]; omega)]
    exact heap_alloc_new w a
  · have := heap_alloc_new (w.alloc a) b
    rwa [s1] at this
theorem len_mem_count : ∀ (l : List NodeT) (x : NodeT), x ∈ l → countN x ≤ countL l
  | y :: l, x, h => by
    rw [countL]
    rcases List.mem_cons.1 h with rfl | h
    · omega
    · have := len_mem_count l x h; omega
theorem kids_le (n : NodeT) : n.kids.length < countN n := by
  have h2 := countN_kids n
  have h3 : n.kids.length ≤ countL n.kids := by
    generalize n.kids = ks
    clear h2
    induction ks with
    | nil => exact Nat.zero_le _
    | cons k r ih =>
      rw [countL, List.length_cons]
      have : 1 ≤ countN k := by obtain ⟨t, s, m, ats, ks⟩ := k; rw [countN]; omega
      omega
  omega
/-- a result's cell is filled. -/
theorem row_end {w0 w1 : World} {r : Nat} {cs0 : Array Value} {T : TypeId} (hB : Below w0.heap.size w0 w1) (hr : w1.heap[r]? = some (.cells cs0 T (0, 0))) (hle : w0.heap.size ≤ r) (cs : Array Value) : Below w0.heap.size w0 (w1.setRow r cs) ∧ (w1.setRow r cs).heap[r]? = some (.cells cs T (0, 0)) := by
  have hg := grown_row w1 r cs
  have hs := hB.size
  exact ⟨hB.trans ⟨hg.os, hg.tape, hg.output, hg.size, fun k hk => hg.block k (by omega) (by intro e; injection e with e; omega)⟩, setRow_heap _ r _ _ _ _ hr⟩
end Go.Proofs.YtcamdnfhnianbaaGreatDoor
