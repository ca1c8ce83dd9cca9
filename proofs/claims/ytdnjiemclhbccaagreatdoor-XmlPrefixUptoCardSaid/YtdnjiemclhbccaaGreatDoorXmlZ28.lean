/-
  Parts of the walks and plain laws of layer 10, joined: XmlTx. Conditions: as each theorem states them.
-/
import Derived.Test.YtdnjiemclhbccaaGreatDoorXmlZ26
import Derived.Test.YtdnjiemclhbccaaGreatDoorXmlZ27
/-! XmlTx -/
namespace Go.Proofs.YtdnjiemclhbccaaGreatDoor
set_option linter.unusedVariables false
set_option linter.unusedSimpArgs false
open Go.RowKit

theorem one_row {α : Type} {n : Nat} {R : World → List Value → α → Prop} {w : World} {b : Nat} {ty : TypeId} {cs : List Value} {x : α} (h : w.heap[b]? = some (.cells cs.toArray ty (0, 0))) (hl : cs.length = n) (hr : R w cs x) : TabP n R anyB w (.slice (some ⟨b, 0, none⟩) 1 1) [x] := by
  refine ⟨⟨_, 1, rfl, Nat.le_refl _, by unfold maxLen; decide, fun j y hj => ?_⟩, fun _ _ _ => trivial⟩
  have hj0 : j = 0 := by have := (List.getElem?_eq_some_iff.1 hj).1; simp at this; exact this
  subst hj0
  obtain rfl : x = y := Option.some.inj hj
  refine ⟨b, 0, rfl, xlt h, cs, hl, fun k u hk => ?_, hr⟩
  rw [xat h, ← hk]
  simp
theorem small_textA {s v : List UInt8} (h : s.length + v.length ≤ 9000) : SmallN 2000000 (textA s v) := by
  unfold textA
  refine .mk _ _ _ _ _ (by simp) (by simp) (by simp) (by simp) ?_ ?_ ?_
  · intro a ha
    simp only [List.mem_cons, List.not_mem_nil, or_false] at ha
    subst ha
    exact ⟨by simp, by show v.length ≤ _; omega⟩
  · split <;> simp
  · intro k hk
    split at hk
    · cases hk
    · simp only [List.mem_cons, List.not_mem_nil, or_false] at hk
      subst hk
      exact SmallN.text (by omega)
theorem three_alloc (w : World) (a b c : Obj) : Below w.heap.size w (((w.alloc a).alloc b).alloc c) ∧ (((w.alloc a).alloc b).alloc c).heap[w.heap.size]? = some a ∧ (((w.alloc a).alloc b).alloc c).heap[w.heap.size + 1]? = some b ∧ (((w.alloc a).alloc b).alloc c).heap[w.heap.size + 1 + 1]? = some c := by
  have s1 : (w.alloc a).heap.size = w.heap.size + 1 := World.size_alloc ..
  have s2 : ((w.alloc a).alloc b).heap.size = w.heap.size + 1 + 1 := (World.size_alloc ..).trans (by rw [s1])
  have b1 : Below w.heap.size w (w.alloc a) := (Below.refl _ _).alloc (Nat.le_refl _) _
  have b2 := b1.alloc b1.size b
  refine ⟨b2.alloc b2.size c, ?_, ?_, ?_⟩
  · rw [heap_alloc_old _ _ (by rw [s2]; omega), heap_alloc_old _ _ (by rw [s1]; omega)]
    exact heap_alloc_new w a
  · rw [heap_alloc_old _ _ (by rw [s2]; omega)]
    have := heap_alloc_new (w.alloc a) b
    rwa [s1] at this
  · have := heap_alloc_new ((w.alloc a).alloc b) c
    rwa [s2] at this
end Go.Proofs.YtdnjiemclhbccaaGreatDoor
