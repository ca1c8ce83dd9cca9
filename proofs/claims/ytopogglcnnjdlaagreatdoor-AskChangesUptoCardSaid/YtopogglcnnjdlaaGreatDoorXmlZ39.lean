/-
  Parts of the walks and plain laws of layer 10, joined: AskCh AskCb. Conditions: as each theorem states them.
-/
import Derived.Test.YtopogglcnnjdlaaGreatDoorXmlZ37
import Derived.Deep.RegionHeld3
/-! AskCh -/
namespace Go.Proofs.YtopogglcnnjdlaaGreatDoor
set_option linter.unusedVariables false
set_option linter.unusedSimpArgs false
open Go.RowKit

/-- a change where it lies. -/
theorem chg_at {w : World} {A : Option Addr} {n cap : Nat} {l : List ChgT} (h : Tab 6 (ChgR anyB) w (.slice A n cap) l) : n = l.length ∧ n ≤ cap ∧ cap ≤ maxLen ∧ ∀ j c, l[j]? = some c → ∃ b o aA ac kA kc, A = some ⟨b, o, none⟩ ∧ b < w.heap.size ∧ w.cell? ⟨b, o + j * 6, none⟩ = some (.bool c.remove) ∧
    w.cell? ⟨b, o + j * 6 + 1, none⟩ = some (.string ⟨c.value.text.toArray⟩) ∧ w.cell? ⟨b, o + j * 6 + 2, none⟩ = some (.string ⟨c.value.space.toArray⟩) ∧ w.cell? ⟨b, o + j * 6 + 3, none⟩ = some (.string ⟨c.value.name.toArray⟩) ∧ w.cell? ⟨b, o + j * 6 + 4, none⟩ = some (.slice aA c.value.attrs.length ac) ∧ w.cell? ⟨b, o + j * 6 + 5, none⟩ = some (.slice kA c.value.kids.length kc) ∧
    NodeP anyB w [.string ⟨c.value.text.toArray⟩, .string ⟨c.value.space.toArray⟩, .string ⟨c.value.name.toArray⟩, .slice aA c.value.attrs.length ac, .slice kA c.value.kids.length kc] c.value := by
  obtain ⟨A', cap', hv, h1, h2, hc⟩ := h
  injection hv with e1 e2 e3
  subst e1 e2 e3
  refine ⟨rfl, h1, h2, fun j c hj => ?_⟩
  obtain ⟨b, o, hA, hb, cs, hl, hcell, ncs, rfl, hn⟩ := hc j c hj
  obtain ⟨av, kv, rfl, ha, hk⟩ := hn.parts
  obtain ⟨aA, ac, rfl⟩ := tab_shape ha.1
  obtain ⟨kA, kc, rfl⟩ := tab_shape hk.1
  exact ⟨b, o, aA, ac, kA, kc, hA, hb, hcell 0 _ rfl, hcell 1 _ rfl, hcell 2 _ rfl, hcell 3 _ rfl, hcell 4 _ rfl, hcell 5 _ rfl, hn⟩
theorem tree_len1 (z : NodeT) (c : ChgT) : (chgTree z c).length ≤ 2 := by
  unfold chgTree
  split <;> simp
theorem tree_len (z : NodeT) : ∀ ls : List ChgT, (ls.flatMap (chgTree z)).length ≤ 2 * ls.length
  | [] => Nat.zero_le _
  | y :: ys => by
    have h1 := tree_len1 z y
    have h2 := tree_len z ys
    rw [List.flatMap_cons, List.length_append, List.length_cons]
    omega
/-- what the first loop keeps. -/
structure ChS (w2 : World) (q : Nat) (ks : List NodeT) (wr : World) (kv : Value) : Prop where
  at_ : wr.heap[q]? = some (.cells #[.string ⟨#[]⟩, .string ⟨#[68, 65, 86, 58]⟩, .string ⟨#[112, 114, 111, 112, 101, 114, 116, 121, 117, 112, 100, 97, 116, 101]⟩, .slice none 0 0, kv] 26 (0, 0))
  kids : RowG 26 5 NodeP (· ≠ q) w2.heap.size wr kv ks
  fr : Below q w2 wr
  sz : w2.heap.size ≤ wr.heap.size
  lt : q < w2.heap.size
theorem ChS.under {w2 wr w' : World} {q : Nat} {ks : List NodeT} {kv : Value} (h : ChS w2 q ks wr kv) (hb : Below wr.heap.size wr w') : ChS w2 q ks w' kv :=
  ⟨(hb.block _ (xlt h.at_)).trans h.at_, h.kids.under mov_node hb, h.fr.trans (hb.mono (by have := xlt h.at_; omega)), Nat.le_trans h.sz hb.size, h.lt⟩
/-- a tree has been laid into the root. -/
theorem ChS.app {w2 wr w9 : World} {q : Nat} {ks ks' : List NodeT} {kv v9 : Value} (HS : ChS w2 q ks wr kv) (hr : RowG 26 5 NodeP (· ≠ q) w2.heap.size w9 v9 ks') (hb : Below w2.heap.size wr w9) (hg : wr.grownBy w9 kv.ownBlock) : ChS w2 q ks' (w9.setCell ⟨q, 4, none⟩ v9) v9 := by
  have hlt := HS.lt
  have hq : w9.heap[q]? = some (.cells #[.string ⟨#[]⟩, .string ⟨#[68, 65, 86, 58]⟩, .string ⟨#[112, 114, 111, 112, 101, 114, 116, 121, 117, 112, 100, 97, 116, 101]⟩, .slice none 0 0, kv] 26 (0, 0)) := (hg.block q (xlt HS.at_) (fun e => by have := (HS.kids.lt _ e.symm).1; omega)).trans HS.at_
  refine ⟨heap_setCell_same w9 q 4 _ _ _ hq, hr.step mov_node (xgrown_cell w9 q 4 _) (fun h => h rfl) (fun e => by have := (hr.lt _ e).1; omega), (HS.fr.trans (hb.mono (by omega))).setCell (p := ⟨q, 4, none⟩) (Nat.le_refl _) _, ?_, hlt⟩
  have := HS.sz; have h2 := hb.size; rw [World.size_setCell]; omega
/-- the tree of one change: new blocks beside the root and its row. -/
theorem chg_node {w W : World} {q b1 b2 : Nat} {own : Option Nat} {nm : List UInt8} {x : NodeT} {aA kA : Option Addr} {ac kc : Nat} (hx : NodeP anyB w [.string ⟨x.text.toArray⟩, .string ⟨x.space.toArray⟩, .string ⟨x.name.toArray⟩, .slice aA x.attrs.length ac, .slice kA x.kids.length kc] x) (hw : ∀ k, k < w.heap.size → k ≠ q ∧ some k ≠ own ∧ W.heap[k]? = w.heap[k]?) (hs : w.heap.size ≤ W.heap.size)
    (h1 : W.heap[b1]? = some (.cells #[.string ⟨x.text.toArray⟩, .string ⟨x.space.toArray⟩, .string ⟨x.name.toArray⟩, .slice aA x.attrs.length ac, .slice kA x.kids.length kc] 26 (0, 0))) (h2 : W.heap[b2]? = some (.cells #[.string ⟨#[]⟩, .string ⟨#[68, 65, 86, 58]⟩, .string ⟨#[111, 116, 104, 101, 114]⟩, .slice none 0 0, .slice none 0 0, .string ⟨#[]⟩, .string ⟨#[68, 65, 86, 58]⟩, .string ⟨#[112, 114, 111, 112]⟩, .slice none 0 0, .slice (some ⟨b1, 0, none⟩) 1 1] 26 (0, 0))) (hb1 : b1 ≠ q ∧ some b1 ≠ own) (hb2 : b2 ≠ q ∧ some b2 ≠ own) :
    NodeP (fun k => k ≠ q ∧ some k ≠ own) W [.string ⟨#[]⟩, .string ⟨#[68, 65, 86, 58]⟩, .string ⟨nm.toArray⟩, .slice none 0 0, .slice (some ⟨b2, 0, none⟩) 2 2] (davN nm [davN wOther [], davN wProp [x]]) := by
  have hx' : NodeP (fun k => k ≠ q ∧ some k ≠ own) W [.string ⟨x.text.toArray⟩, .string ⟨x.space.toArray⟩, .string ⟨x.name.toArray⟩, .slice aA x.attrs.length ac, .slice kA x.kids.length kc] x := hx.move ⟨hs, fun k _ hk => ⟨⟨(hw k hk).1, (hw k hk).2.1⟩, (hw k hk).2.2⟩⟩
  have hp : NodesP (fun k => k ≠ q ∧ some k ≠ own) W (.slice (some ⟨b1, 0, none⟩) 1 1) [x] := many_row (rows := [[.string ⟨x.text.toArray⟩, .string ⟨x.space.toArray⟩, .string ⟨x.name.toArray⟩, .slice aA x.attrs.length ac, .slice kA x.kids.length kc]]) (xs := [x]) h1 (by intro r hr; rw [List.mem_singleton.1 hr]; rfl) rfl (show 1 ≤ maxLen by unfold maxLen; decide)
    (by intro j r y hr2 hx2; have hj := (List.getElem?_eq_some_iff.1 hx2).1; simp at hj; subst hj; injection hr2 with hr2; injection hx2 with hx2; subst hr2 hx2; exact hx') hb1
  refine NodeP.of (t := []) (s := wDav) (n := nm) (ats := []) (TabP.nil _ _ _ _) (many_row (rows := [[.string ⟨#[]⟩, .string ⟨#[68, 65, 86, 58]⟩, .string ⟨#[111, 116, 104, 101, 114]⟩, .slice none 0 0, .slice none 0 0], [.string ⟨#[]⟩, .string ⟨#[68, 65, 86, 58]⟩, .string ⟨#[112, 114, 111, 112]⟩, .slice none 0 0, .slice (some ⟨b1, 0, none⟩) 1 1]]) (xs := [davN wOther [], davN wProp [x]]) h2 (by intro r hr; simp only [List.mem_cons, List.not_mem_nil, or_false] at hr; rcases hr with rfl | rfl <;> rfl) rfl (show 2 ≤ maxLen by unfold maxLen; decide) ?_ hb2)
  intro j r y hr hy
  match j, hr, hy with
  | 0, hr, hy => injection hr with hr; injection hy with hy; subst hr hy; exact NodeP.of (t := []) (s := wDav) (n := wOther) (ats := []) (ks := []) (TabP.nil _ _ _ _) (TabP.nil _ _ _ _)
  | 1, hr, hy => injection hr with hr; injection hy with hy; subst hr hy; exact NodeP.of (t := []) (s := wDav) (n := wProp) (ats := []) (TabP.nil _ _ _ _) hp
  | j + 2, hr, hy => simp at hr
end Go.Proofs.YtopogglcnnjdlaaGreatDoor
/-! AskCb -/
namespace Go.Proofs.YtopogglcnnjdlaaGreatDoor
set_option linter.unusedVariables false
set_option linter.unusedSimpArgs false
theorem chgName_len (c : ChgT) : (chgName c).length ≤ 6 := by
  unfold chgName
  split <;> decide
theorem bulk_dav2 (nm : List UInt8) (ks : List NodeT) : bulkT (davN nm ks) = nm.length + 7 + bulkTL ks := by
  unfold davN
  rw [bulkT]
  show 0 + 4 + nm.length + 3 + (0 + 0) + bulkTL ks = _
  omega
theorem chg_bulk1 (c : ChgT) : bulkT (davN (chgName c) [davN wOther [], davN wProp [c.value]]) ≤ bulkT c.value + 42 := by
  have h := chgName_len c
  have h1 : wOther.length = 5 := rfl
  have h2 : wProp.length = 4 := rfl
  rw [bulk_dav2, bulkTL, bulkTL, bulkTL, bulk_dav2, bulk_dav2, bulkTL, bulkTL, bulkTL]
  omega
theorem chg_bulk (z : NodeT) (c : ChgT) : bulkTL (chgTree z c) ≤ bulkT c.value + (bulkT z + 45) := by
  have h := chg_bulk1 c
  unfold chgTree
  rw [bulkTL]
  split
  · rw [bulkTL, bulkTL]; omega
  · rw [bulkTL]; omega
theorem sum_le : ∀ (l : List ChgT) (k : Nat), (l.map fun c => bulkT c.value + k).sum = (l.map fun c => bulkT c.value).sum + l.length * k
  | [], k => by simp
  | c :: l, k => by
    have := sum_le l k
    simp only [List.map_cons, List.sum_cons, List.length_cons, Nat.add_mul, Nat.one_mul] at this ⊢
    omega
theorem sum_mem : ∀ (l : List ChgT) (c : ChgT), c ∈ l → bulkT c.value ≤ (l.map fun c => bulkT c.value).sum
  | y :: l, c, h => by
    rw [List.map_cons, List.sum_cons]
    rcases List.mem_cons.1 h with rfl | h
    · omega
    · have := sum_mem l c h; omega
theorem chg_small {z : NodeT} {l : List ChgT} (hll : l.length ≤ 400000) (hbk : (l.map fun c => bulkT c.value).sum ≤ 1100000) (hzb : bulkT z ≤ 1100000) : SmallN 2000000 (chgRoot z l) ∧ (formN [] (chgRoot z l)).length ≤ 90000000000000 := by
  have hl := tree_len z l
  constructor
  · refine .mk _ _ _ _ _ (Nat.zero_le _) (by decide) (by decide) (Nat.zero_le _) (fun a ha => by cases ha) (by omega) (fun x hx => ?_)
    obtain ⟨c, hc, hx⟩ := List.mem_flatMap.1 hx
    have h1 := bulkTL_mem _ x hx
    have h2 := chg_bulk z c
    have h3 := chg_bulk1 c
    have h4 := sum_mem l c hc
    unfold chgTree at hx
    refine small_of ?_
    rcases List.mem_cons.1 hx with rfl | hx
    · omega
    · split at hx
      · rw [List.mem_singleton.1 hx]; omega
      · cases hx
  · have h1 := form_bulk (chgRoot z l) []
    have h2 := bulkTL_flat (chgTree z) (fun c => bulkT c.value + (bulkT z + 45)) l (fun c _ => chg_bulk z c)
    rw [sum_le] at h2
    have h3 : l.length * (bulkT z + 45) ≤ 400000 * 1100045 := Nat.mul_le_mul hll (by omega)
    have h4 : bulkT (chgRoot z l) = wUpdate.length + 7 + bulkTL (l.flatMap (chgTree z)) := bulk_dav2 _ _
    have h5 : wUpdate.length = 14 := rfl
    omega
end Go.Proofs.YtopogglcnnjdlaaGreatDoor
