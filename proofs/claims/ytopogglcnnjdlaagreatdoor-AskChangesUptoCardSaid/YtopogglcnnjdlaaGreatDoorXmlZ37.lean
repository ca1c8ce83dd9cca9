/-
  Parts of the walks and plain laws of layer 10, joined: AskLw. Conditions: as each theorem states them.
-/
import Derived.Test.YtopogglcnnjdlaaGreatDoorXmlZ35
/-! AskLw -/
namespace Go.Proofs.YtopogglcnnjdlaaGreatDoor
set_option linter.unusedVariables false
set_option linter.unusedSimpArgs false
open Go.RowKit

theorem at_new {w : World} {o : Obj} {b : Nat} (h : b = w.heap.size) : (w.alloc o).heap[b]? = some o := by subst h; exact heap_alloc_new w o
theorem at_old {w : World} {o x : Obj} {b : Nat} (h : b < w.heap.size) (hx : w.heap[b]? = some x) : (w.alloc o).heap[b]? = some x := (heap_alloc_old w o h).trans hx
theorem alloc3 (w : World) (a b c : Obj) : Below w.heap.size w (((w.alloc a).alloc b).alloc c) ∧ (((w.alloc a).alloc b).alloc c).heap[w.heap.size]? = some a ∧ (((w.alloc a).alloc b).alloc c).heap[w.heap.size + 1]? = some b ∧ (((w.alloc a).alloc b).alloc c).heap[w.heap.size + 1 + 1]? = some c := by
  have s1 : (w.alloc a).heap.size = w.heap.size + 1 := World.size_alloc ..
  have s2 : ((w.alloc a).alloc b).heap.size = w.heap.size + 1 + 1 := (World.size_alloc ..).trans (by rw [s1])
  have b1 : Below w.heap.size w (w.alloc a) := (Below.refl _ _).alloc (Nat.le_refl _) _
  have b2 := b1.alloc b1.size b
  exact ⟨b2.alloc b2.size c, at_old (by rw [s2]; omega) (at_old (by rw [s1]; omega) (at_new rfl)), at_old (by rw [s2]; omega) (at_new s1.symm), at_new s2.symm⟩
theorem row1 {α : Type} {n : Nat} {R : World → List Value → α → Prop} {w : World} {b : Nat} {ty : TypeId} {cs : List Value} {x : α} (h : w.heap[b]? = some (.cells cs.toArray ty (0, 0))) (hl : cs.length = n) (hr : R w cs x) : TabP n R anyB w (.slice (some ⟨b, 0, none⟩) 1 1) [x] :=
  many_row (rows := [cs]) (xs := [x]) (by simpa using h) (by intro r hr; rw [List.mem_singleton.1 hr]; exact hl) rfl (show 1 ≤ maxLen by unfold maxLen; decide) (by intro j r y hr2 hx; have hj := (List.getElem?_eq_some_iff.1 hx).1; simp at hj; subst hj; injection hr2 with hr2; injection hx with hx; subst hr2 hx; exact hr) trivial
theorem bulk_dav (nm : List UInt8) (ks : List NodeT) : bulkT (davN nm ks) = nm.length + 7 + bulkTL ks := by
  show bulkT (.mk [] wDav nm [] ks) = _
  rw [bulkT]
  simp only [List.length_nil, List.map_nil, List.sum_nil]
  show 0 + 4 + nm.length + 3 + _ + _ = _
  omega
theorem bulkTL_one (n : NodeT) : bulkTL [n] = bulkT n + 1 := by rw [bulkTL, bulkTL]
theorem bulk_own (o : NodeT) : bulkT (ownN o) ≤ bulkT o + 13 := by
  unfold ownN
  split
  · rw [bulk_dav, bulkTL]; show 5 + 7 + 0 ≤ _; omega
  · rw [bulk_dav, bulkTL_one]; show 5 + 7 + _ ≤ _; omega
theorem bulk_lock (b : Bool) (o z : NodeT) : bulkT (lockN b o z) ≤ bulkT o + bulkT z + 110 := by
  unfold lockN
  rw [bulk_dav, bulkTL_app]
  have h1 : bulkTL (if z.space = wDav then [] else [z]) ≤ bulkT z + 1 := by
    split
    · rw [bulkTL]; omega
    · rw [bulkTL_one]; omega
  have h2 : bulkTL [davN wScope [davN (scopeW b) []], davN wType [davN wWrite []], ownN o] ≤ bulkT o + 85 := by
    have h3 := bulk_own o
    have h4 : (scopeW b).length ≤ 9 := by cases b <;> decide
    rw [bulkTL, bulkTL, bulkTL, bulkTL, bulk_dav, bulk_dav, bulkTL_one, bulkTL_one, bulk_dav, bulk_dav, bulkTL]
    show 9 + 7 + ((scopeW b).length + 7 + 0 + 1) + 1 + (8 + 7 + (5 + 7 + 0 + 1) + 1 + (bulkT (ownN o) + 1 + 0)) ≤ _
    omega
  show 8 + 7 + _ ≤ _
  omega
theorem small_tree {n : NodeT} (h : bulkT n ≤ 2000000) : SmallN 2000000 n ∧ (formN [] n).length ≤ 90000000000000 ∧ bulkT n ≤ 15000000000000 := ⟨small_of h, by have := form_bulk n []; omega, by omega⟩
theorem ask_eql (a c : Bool) (s t : List UInt8) (w : World) : (binOp .eql 79 (.agg #[.bool a, .string ⟨s.toArray⟩]) (.agg #[.bool c, .string ⟨t.toArray⟩])).run Tryz.prog w = .ok (.bool (a == c && s == t)) w := by
  go_simp
  by_cases h1 : a = c <;> by_cases h2 : s = t <;> simp [h1, h2]
def allocs : World → List Obj → World
  | w, [] => w
  | w, o :: l => allocs (w.alloc o) l
theorem allocs_below : ∀ (l : List Obj) (w : World), Below w.heap.size w (allocs w l)
  | [], w => Below.refl _ _
  | o :: l, w => by
    have h := allocs_below l (w.alloc o)
    have hb := (Below.refl w.heap.size w).alloc (Nat.le_refl _) o
    exact hb.trans (h.mono hb.size)
theorem allocs_at : ∀ (l : List Obj) (w : World) (i : Nat) (o : Obj), l[i]? = some o → (allocs w l).heap[w.heap.size + i]? = some o
  | [], w, i, o, h => by simp at h
  | x :: l, w, 0, o, h => by
    obtain rfl : x = o := by simpa using h
    exact ((allocs_below l (w.alloc x)).block _ (by rw [World.size_alloc]; omega)).trans (heap_alloc_new w x)
  | x :: l, w, i + 1, o, h => by
    have := allocs_at l (w.alloc x) i o (by simpa using h)
    rw [World.size_alloc, Nat.add_assoc, Nat.add_comm 1 i] at this
    exact this
end Go.Proofs.YtopogglcnnjdlaaGreatDoor
