import Derived.Test.YtcamdnfhnianbaaGreatDoorXmlZ20
import Derived.Test.YtcamdnfhnianbaaGreatDoorXmlZ26
import Derived.Test.YtcamdnfhnianbaaGreatDoorXmlZ30
namespace Go.Proofs.YtcamdnfhnianbaaGreatDoor
set_option linter.unusedVariables false
set_option linter.unusedSimpArgs false

def wDav : List UInt8 := [68, 65, 86, 58]
def davN (name : List UInt8) (kids : List NodeT) : NodeT := .mk [] wDav name [] kids
def wProp : List UInt8 := [112, 114, 111, 112]
theorem name_form (n : NodeT) : (formN [] n) = [] → n.name = [] := by
  obtain ⟨t, s, m, asz, ks⟩ := n
  intro h
  by_cases hm : m = []
  · exact hm
  · unfold formN at h
    rw [if_neg hm] at h
    unfold headF at h
    simp at h
theorem xread_back {n : NodeT} {s : List UInt8} (h : writeX n = .ok s) : parseX s = .ok n ∧ s ≠ [] ∧ goodT n = true ∧ s.length ≤ 65536 := by
  unfold writeX at h
  split at h
  · rename_i hg
    split at h
    · cases h
    · rename_i hl
      injection h with h
      subst h
      refine ⟨parse_form hg (by omega), fun e => ?_, hg, by omega⟩
      have := name_form n e
      have h3 := (goodT_parts hg).2.2
      exact h3 this
  · cases h
end Go.Proofs.YtcamdnfhnianbaaGreatDoor
namespace Go.Proofs.YtcamdnfhnianbaaGreatDoor
set_option linter.unusedVariables false
set_option linter.unusedSimpArgs false
open Go.RowKit

theorem mov_node : Mov NodeP := fun P Q w w' cs x h m => h.move m
/-- some records that lie in a block of cells, one behind the other. -/
theorem many_row {α : Type} {n : Nat} {R : World → List Value → α → Prop} {P : Nat → Prop} {w : World} {b : Nat} {ty : TypeId} {rows : List (List Value)} {xs : List α} (h : w.heap[b]? = some (.cells rows.flatten.toArray ty (0, 0))) (hl : ∀ r ∈ rows, r.length = n) (hx : rows.length = xs.length) (hm : xs.length ≤ maxLen)
    (hr : ∀ (j : Nat) (r : List Value) (x : α), rows[j]? = some r → xs[j]? = some x → R w r x) (hP : P b) : TabP n R P w (.slice (some ⟨b, 0, none⟩) xs.length xs.length) xs := by
  refine ⟨⟨_, xs.length, rfl, Nat.le_refl _, hm, fun j x hj => ?_⟩, fun _ k hk => ?_⟩
  · have hjl : j < rows.length := by rw [hx]; exact (List.getElem?_eq_some_iff.1 hj).1
    have hjr := List.getElem?_eq_getElem hjl
    refine ⟨b, 0, rfl, xlt h, rows[j], hl _ (List.getElem_mem _), fun k u hk => ?_, hr j _ x hjr hj⟩
    have hkn : k < n := by rw [← hl rows[j] (List.getElem_mem _)]; exact (List.getElem?_eq_some_iff.1 hk).1
    rw [xat h, Nat.zero_add, List.getElem?_toArray, flatten_at hl j _ hjr k hkn]
    exact hk
  · obtain rfl : b = k := by injection hk
    exact hP
/-- what a call that may refuse answers. -/
def okOr {α : Type} (d : α) (x : Except Int α) : α := match x with
  | .ok a => a
  | .error _ => d
def errX {α : Type} (x : Except Int α) : Int := match x with
  | .ok _ => 0
  | .error k => k
theorem node_of {P : Nat → Prop} {w : World} {n : NodeT} {aA kA : Option Addr} {ac kc : Nat} (ha : AttrsP P w (.slice aA n.attrs.length ac) n.attrs) (hk : NodesP P w (.slice kA n.kids.length kc) n.kids) : NodeP P w [.string ⟨n.text.toArray⟩, .string ⟨n.space.toArray⟩, .string ⟨n.name.toArray⟩, .slice aA n.attrs.length ac, .slice kA n.kids.length kc] n := by
  have := NodeP.of (t := n.text) (s := n.space) (n := n.name) ha hk
  obtain ⟨t, s, m, ats, ks⟩ := n
  exact this
theorem countN_kids (n : NodeT) : countL n.kids < countN n := by
  obtain ⟨t, s, m, ats, ks⟩ := n
  rw [countN]
  show countL ks < _
  omega
theorem parse_good {s : List UInt8} {n : NodeT} (h : parseX s = .ok n) : goodT n = true := by
  unfold parseX at h
  repeat' (first | split at h | skip)
  all_goals first | (cases h; done) | skip
  simp only at h
  repeat' split at h
  all_goals first | (injection h with h; subst h; assumption) | cases h
theorem good_count {n : NodeT} (h : goodT n = true) : countN n ≤ 4096 := by
  unfold goodT at h
  rw [Bool.and_eq_true, Bool.and_eq_true] at h
  exact of_decide_eq_true h.1.2
end Go.Proofs.YtcamdnfhnianbaaGreatDoor
namespace Go.Proofs.YtcamdnfhnianbaaGreatDoor
set_option linter.unusedVariables false
set_option linter.unusedSimpArgs false
open Go.RowKit

end Go.Proofs.YtcamdnfhnianbaaGreatDoor
