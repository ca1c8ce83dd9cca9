import Derived.Test.YtjkiehmjffgnlaaGreatDoorXmlZ35
import Derived.Deep.RegionHeld3
namespace Go.Proofs.YtjkiehmjffgnlaaGreatDoor
set_option linter.unusedVariables false
set_option linter.unusedSimpArgs false
open Go.RowKit

def allocs : World → List Obj → World
  | w, [] => w
  | w, o :: l => allocs (w.alloc o) l
theorem allocs_below : ∀ (l : List Obj) (w : World), Below w.heap.size w (allocs w l)
  | [], w => Below.refl _ _
  | o :: l, w => by
    have h := allocs_below l (w.alloc o)
    have hb := (Below.refl w.heap.size w).alloc (Nat.le_refl _) o
    exact hb.trans (h.mono hb.size)
theorem allocs_at : ∀ (l : List Obj) (w : World) (i : Nat) (o : Obj), l[i]? = some o → (allocs w l).heap[w.heap.size + i]? = some o
  | [], w, i, o, h => by simp at h
  | x :: l, w, 0, o, h => by
    obtain rfl : x = o := by simpa using h
    exact ((allocs_below l (w.alloc x)).block _ (by rw [World.size_alloc]; omega)).trans (heap_alloc_new w x)
  | x :: l, w, i + 1, o, h => by
    have := allocs_at l (w.alloc x) i o (by simpa using h)
    rw [World.size_alloc, Nat.add_assoc, Nat.add_comm 1 i] at this
    exact this
end Go.Proofs.YtjkiehmjffgnlaaGreatDoor
namespace Go.Proofs.YtjkiehmjffgnlaaGreatDoor
set_option linter.unusedVariables false
set_option linter.unusedSimpArgs false
open Go.RowKit

/-- a change where it lies. -/
theorem chg_at {w : World} {A : Option Addr} {n cap : Nat} {l : List ChgT} (h : Tab 6 (ChgR anyB) w (.slice A n cap) l) : n = l.length ∧ n ≤ cap ∧ cap ≤ maxLen ∧ ∀ j c, l[j]? = some c → ∃ b o aA ac kA kc, A = some ⟨b, o, none⟩ ∧ b < w.heap.size ∧ w.cell? ⟨b, o + j * 6, none⟩ = some (.bool c.remove) ∧
    w.cell? ⟨b, o + j * 6 + 1, none⟩ = some (.string ⟨c.value.text.toArray⟩) ∧ w.cell? ⟨b, o + j * 6 + 2, none⟩ = some (.string ⟨c.value.space.toArray⟩) ∧ w.cell? ⟨b, o + j * 6 + 3, none⟩ = some (.string ⟨c.value.name.toArray⟩) ∧ w.cell? ⟨b, o + j * 6 + 4, none⟩ = some (.slice aA c.value.attrs.length ac) ∧ w.cell? ⟨b, o + j * 6 + 5, none⟩ = some (.slice kA c.value.kids.length kc) ∧
    NodeP anyB w [.string ⟨c.value.text.toArray⟩, .string ⟨c.value.space.toArray⟩, .string ⟨c.value.name.toArray⟩, .slice aA c.value.attrs.length ac, .slice kA c.value.kids.length kc] c.value := by
  obtain ⟨A', cap', hv, h1, h2, hc⟩ := h
  injection hv with e1 e2 e3
  subst e1 e2 e3
  refine ⟨rfl, h1, h2, fun j c hj => ?_⟩
  obtain ⟨b, o, hA, hb, cs, hl, hcell, ncs, rfl, hn⟩ := hc j c hj
  obtain ⟨av, kv, rfl, ha, hk⟩ := hn.parts
  obtain ⟨aA, ac, rfl⟩ := tab_shape ha.1
  obtain ⟨kA, kc, rfl⟩ := tab_shape hk.1
  exact ⟨b, o, aA, ac, kA, kc, hA, hb, hcell 0 _ rfl, hcell 1 _ rfl, hcell 2 _ rfl, hcell 3 _ rfl, hcell 4 _ rfl, hcell 5 _ rfl, hn⟩
end Go.Proofs.YtjkiehmjffgnlaaGreatDoor
