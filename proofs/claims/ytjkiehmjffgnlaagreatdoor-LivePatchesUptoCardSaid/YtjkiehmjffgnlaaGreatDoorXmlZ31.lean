import Derived.Test.YtjkiehmjffgnlaaGreatDoorXmlZ20
import Derived.Test.YtjkiehmjffgnlaaGreatDoorXmlZ26
import Derived.Test.YtjkiehmjffgnlaaGreatDoorXmlZ30
namespace Go.Proofs.YtjkiehmjffgnlaaGreatDoor
set_option linter.unusedVariables false
set_option linter.unusedSimpArgs false

def wDav : List UInt8 := [68, 65, 86, 58]
def davN (name : List UInt8) (kids : List NodeT) : NodeT := .mk [] wDav name [] kids
structure ChgT where
  remove : Bool
  value : NodeT
def wExcl : List UInt8 := [101, 120, 99, 108, 117, 115, 105, 118, 101]
def wShared : List UInt8 := [115, 104, 97, 114, 101, 100]
def scopeW (b : Bool) : List UInt8 := if b then wExcl else wShared
end Go.Proofs.YtjkiehmjffgnlaaGreatDoor
namespace Go.Proofs.YtjkiehmjffgnlaaGreatDoor
set_option linter.unusedVariables false
set_option linter.unusedSimpArgs false
open Go.RowKit

def ChgR (P : Nat → Prop) (w : World) (cs : List Value) (c : ChgT) : Prop := ∃ ncs, cs = .bool c.remove :: ncs ∧ NodeP P w ncs c.value
theorem mov_chg : Mov ChgR := fun P Q w w' cs x ⟨ncs, h1, h2⟩ m => ⟨ncs, h1, h2.move m⟩
/-- some records that lie in a block of cells, one behind the other. -/
theorem many_row {α : Type} {n : Nat} {R : World → List Value → α → Prop} {P : Nat → Prop} {w : World} {b : Nat} {ty : TypeId} {rows : List (List Value)} {xs : List α} (h : w.heap[b]? = some (.cells rows.flatten.toArray ty (0, 0))) (hl : ∀ r ∈ rows, r.length = n) (hx : rows.length = xs.length) (hm : xs.length ≤ maxLen)
    (hr : ∀ (j : Nat) (r : List Value) (x : α), rows[j]? = some r → xs[j]? = some x → R w r x) (hP : P b) : TabP n R P w (.slice (some ⟨b, 0, none⟩) xs.length xs.length) xs := by
  refine ⟨⟨_, xs.length, rfl, Nat.le_refl _, hm, fun j x hj => ?_⟩, fun _ k hk => ?_⟩
  · have hjl : j < rows.length := by rw [hx]; exact (List.getElem?_eq_some_iff.1 hj).1
    have hjr := List.getElem?_eq_getElem hjl
    refine ⟨b, 0, rfl, xlt h, rows[j], hl _ (List.getElem_mem _), fun k u hk => ?_, hr j _ x hjr hj⟩
    have hkn : k < n := by rw [← hl rows[j] (List.getElem_mem _)]; exact (List.getElem?_eq_some_iff.1 hk).1
    rw [xat h, Nat.zero_add, List.getElem?_toArray, flatten_at hl j _ hjr k hkn]
    exact hk
  · obtain rfl : b = k := by injection hk
    exact hP
theorem kid_atT {P : Nat → Prop} {w : World} {A : Option Addr} {n cap : Nat} {ks : List NodeT} (h : Tab 5 (NodeP P) w (.slice A n cap) ks) : n = ks.length ∧ n ≤ cap ∧ cap ≤ maxLen ∧ ∀ j x, ks[j]? = some x → ∃ b o aA ac kA kc, A = some ⟨b, o, none⟩ ∧ b < w.heap.size ∧
    w.cell? ⟨b, o + j * 5, none⟩ = some (.string ⟨x.text.toArray⟩) ∧ w.cell? ⟨b, o + j * 5 + 1, none⟩ = some (.string ⟨x.space.toArray⟩) ∧ w.cell? ⟨b, o + j * 5 + 2, none⟩ = some (.string ⟨x.name.toArray⟩) ∧ w.cell? ⟨b, o + j * 5 + 3, none⟩ = some (.slice aA x.attrs.length ac) ∧ w.cell? ⟨b, o + j * 5 + 4, none⟩ = some (.slice kA x.kids.length kc) ∧
    AttrsP P w (.slice aA x.attrs.length ac) x.attrs ∧ NodesP P w (.slice kA x.kids.length kc) x.kids := by
  obtain ⟨A', cap', hv, h1, h2, hc⟩ := h
  injection hv with e1 e2 e3
  subst e1 e2 e3
  refine ⟨rfl, h1, h2, fun j x hj => ?_⟩
  obtain ⟨b, o, hA, hb, cs, hl, hcell, hr⟩ := hc j x hj
  obtain ⟨av, kv, rfl, ha, hk⟩ := hr.parts
  obtain ⟨aA, ac, rfl⟩ := tab_shape ha.1
  obtain ⟨kA, kc, rfl⟩ := tab_shape hk.1
  exact ⟨b, o, aA, ac, kA, kc, hA, hb, hcell 0 _ rfl, hcell 1 _ rfl, hcell 2 _ rfl, hcell 3 _ rfl, hcell 4 _ rfl, ha, hk⟩
theorem node_of {P : Nat → Prop} {w : World} {n : NodeT} {aA kA : Option Addr} {ac kc : Nat} (ha : AttrsP P w (.slice aA n.attrs.length ac) n.attrs) (hk : NodesP P w (.slice kA n.kids.length kc) n.kids) : NodeP P w [.string ⟨n.text.toArray⟩, .string ⟨n.space.toArray⟩, .string ⟨n.name.toArray⟩, .slice aA n.attrs.length ac, .slice kA n.kids.length kc] n := by
  have := NodeP.of (t := n.text) (s := n.space) (n := n.name) ha hk
  obtain ⟨t, s, m, ats, ks⟩ := n
  exact this
end Go.Proofs.YtjkiehmjffgnlaaGreatDoor
namespace Go.Proofs.YtjkiehmjffgnlaaGreatDoor
set_option linter.unusedVariables false
set_option linter.unusedSimpArgs false
open Go.RowKit

end Go.Proofs.YtjkiehmjffgnlaaGreatDoor
