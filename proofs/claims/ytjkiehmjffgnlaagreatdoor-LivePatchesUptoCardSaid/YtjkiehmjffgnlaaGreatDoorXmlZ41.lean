import Derived.Lib.SlTrimSet
import Derived.Lib.Bytealg
import Derived.Lib.IndexLaws
import Derived.Test.YtjkiehmjffgnlaaGreatDoorCut
import Derived.Lib.AtoiAll
import Derived.Lib.ItoaNum
import Derived.Test.YtjkiehmjffgnlaaGreatDoorXmlZ31
import Derived.Test.YtjkiehmjffgnlaaGreatDoorXmlZ20
import Derived.Test.YtjkiehmjffgnlaaGreatDoorXmlZ37
import Derived.Deep.DrawnRows
import Derived.Test.YtjkiehmjffgnlaaGreatDoorBase
namespace Go.Proofs.YtjkiehmjffgnlaaGreatDoor

end Go.Proofs.YtjkiehmjffgnlaaGreatDoor
namespace Go.Proofs.YtjkiehmjffgnlaaGreatDoor

end Go.Proofs.YtjkiehmjffgnlaaGreatDoor
namespace Go.Proofs.YtjkiehmjffgnlaaGreatDoor
open Go.Lib

end Go.Proofs.YtjkiehmjffgnlaaGreatDoor
namespace Go.Proofs.YtjkiehmjffgnlaaGreatDoor
set_option linter.unusedVariables false
set_option linter.unusedSimpArgs false

structure PartT where
  status : Int
  props : List NodeT
structure ToldT where
  href : List UInt8
  parts : List PartT
end Go.Proofs.YtjkiehmjffgnlaaGreatDoor
namespace Go.Proofs.YtjkiehmjffgnlaaGreatDoor
set_option linter.unusedVariables false
set_option linter.unusedSimpArgs false
open Go.RowKit

def PartR (P : Nat → Prop) (w : World) (cs : List Value) (p : PartT) : Prop := ∃ pv, cs = [.int .i64 p.status, pv] ∧ NodesP P w pv p.props
def ToldR (P : Nat → Prop) (w : World) (cs : List Value) (t : ToldT) : Prop := ∃ pv, cs = [.string ⟨t.href.toArray⟩, pv] ∧ TabP 2 (PartR P) P w pv t.parts
theorem mov_part : Mov PartR := fun P Q w w' cs x ⟨pv, h1, h2⟩ m => ⟨pv, h1, h2.move m⟩
theorem mov_told : Mov ToldR := fun P Q w w' cs x ⟨pv, h1, h2⟩ m => ⟨pv, h1, h2.move m fun cs p _ h => mov_part _ _ _ _ _ _ h m⟩
theorem elemPt : ElemN Tryz.prog 25 43 2 (.agg #[.int .i64 0, .slice none 0 0]) 32 := ⟨Tryz.underlying25, by kernel_rfl, rfl, by omega, by omega⟩
def PartsP (P : Nat → Prop) (w : World) (v : Value) (l : List PartT) : Prop := TabP 2 (PartR P) P w v l
def ToldsP (P : Nat → Prop) (w : World) (v : Value) (l : List ToldT) : Prop := TabP 2 (ToldR P) P w v l
theorem PartsP.move {P Q : Nat → Prop} {w w' : World} {v : Value} {l : List PartT} (h : PartsP P w v l) (m : Moves P Q w w') : PartsP Q w' v l := TabP.move h m fun cs p _ h => mov_part _ _ _ _ _ _ h m
theorem ToldsP.move {P Q : Nat → Prop} {w w' : World} {v : Value} {l : List ToldT} (h : ToldsP P w v l) (m : Moves P Q w w') : ToldsP Q w' v l := TabP.move h m fun cs p _ h => mov_told _ _ _ _ _ _ h m
theorem PartsP.under {w w' : World} {v : Value} {l : List PartT} (h : PartsP anyB w v l) (hb : Below w.heap.size w w') : PartsP anyB w' v l := h.move (Moves.below hb fun _ _ _ => trivial)
theorem ToldsP.under {w w' : World} {v : Value} {l : List ToldT} (h : ToldsP anyB w v l) (hb : Below w.heap.size w w') : ToldsP anyB w' v l := h.move (Moves.below hb fun _ _ _ => trivial)
theorem told_at {P : Nat → Prop} {w : World} {A : Option Addr} {n cap : Nat} {l : List ToldT} (h : Tab 2 (ToldR P) w (.slice A n cap) l) : n = l.length ∧ n ≤ cap ∧ cap ≤ maxLen ∧ ∀ j t, l[j]? = some t → ∃ b o pA pc, A = some ⟨b, o, none⟩ ∧ b < w.heap.size ∧
    w.cell? ⟨b, o + j * 2, none⟩ = some (.string ⟨t.href.toArray⟩) ∧ w.cell? ⟨b, o + j * 2 + 1, none⟩ = some (.slice pA t.parts.length pc) ∧ PartsP P w (.slice pA t.parts.length pc) t.parts := by
  obtain ⟨A', cap', hv, h1, h2, hc⟩ := h
  injection hv with e1 e2 e3
  subst e1 e2 e3
  refine ⟨rfl, h1, h2, fun j x hj => ?_⟩
  obtain ⟨b, o, hA, hb, cs, hl, hcell, pv, rfl, hp⟩ := hc j x hj
  obtain ⟨pA, pc, rfl⟩ := tab_shape hp.1
  exact ⟨b, o, pA, pc, hA, hb, hcell 0 _ rfl, hcell 1 _ rfl, hp⟩
theorem part_at {P : Nat → Prop} {w : World} {A : Option Addr} {n cap : Nat} {l : List PartT} (h : Tab 2 (PartR P) w (.slice A n cap) l) : n = l.length ∧ n ≤ cap ∧ cap ≤ maxLen ∧ ∀ j p, l[j]? = some p → ∃ b o pA pc, A = some ⟨b, o, none⟩ ∧ b < w.heap.size ∧
    w.cell? ⟨b, o + j * 2, none⟩ = some (.int .i64 p.status) ∧ w.cell? ⟨b, o + j * 2 + 1, none⟩ = some (.slice pA p.props.length pc) ∧ NodesP P w (.slice pA p.props.length pc) p.props := by
  obtain ⟨A', cap', hv, h1, h2, hc⟩ := h
  injection hv with e1 e2 e3
  subst e1 e2 e3
  refine ⟨rfl, h1, h2, fun j x hj => ?_⟩
  obtain ⟨b, o, hA, hb, cs, hl, hcell, pv, rfl, hp⟩ := hc j x hj
  obtain ⟨pA, pc, rfl⟩ := tab_shape hp.1
  exact ⟨b, o, pA, pc, hA, hb, hcell 0 _ rfl, hcell 1 _ rfl, hp⟩
/-- a node that a call has made: its row of kids. -/
theorem dav_node {P : Nat → Prop} {w : World} {nm : List UInt8} {kA : Option Addr} {m kc : Nat} {ks : List NodeT} (h : NodesP P w (.slice kA m kc) ks) : NodeP P w [.string ⟨#[]⟩, .string ⟨#[68, 65, 86, 58]⟩, .string ⟨nm.toArray⟩, .slice none 0 0, .slice kA m kc] (davN nm ks) :=
  NodeP.of (t := []) (s := wDav) (n := nm) (ats := []) (TabP.nil _ _ _ _) h
theorem nodes_lit {P : Nat → Prop} {w : World} {b : Nat} {rows : List (List Value)} {xs : List NodeT} (h : w.heap[b]? = some (.cells rows.flatten.toArray 46 (0, 0))) (hx : rows.length = xs.length) (hm : xs.length ≤ maxLen)
    (hr : ∀ (j : Nat) (r : List Value) (x : NodeT), rows[j]? = some r → xs[j]? = some x → NodeP P w r x) (hP : P b) : NodesP P w (.slice (some ⟨b, 0, none⟩) xs.length xs.length) xs := by
  refine many_row h (fun r hr' => ?_) hx hm hr hP
  obtain ⟨j, hj, rfl⟩ := List.mem_iff_getElem.1 hr'
  obtain ⟨av, kv, e, -⟩ := (hr j _ _ (List.getElem?_eq_getElem hj) (List.getElem?_eq_getElem (by rw [← hx]; exact hj))).parts
  rw [e]
  rfl
theorem nodes_lit1 {P : Nat → Prop} {w : World} {b : Nat} {r : List Value} {x : NodeT} (h : w.heap[b]? = some (.cells r.toArray 46 (0, 0))) (hr : NodeP P w r x) (hP : P b) : NodesP P w (.slice (some ⟨b, 0, none⟩) 1 1) [x] :=
  nodes_lit (rows := [r]) (xs := [x]) (by rw [List.flatten_cons, List.flatten_nil, List.append_nil]; exact h) rfl (show 1 ≤ maxLen by unfold maxLen; decide) (fun j r' y h1 h2 => by
    match j, h1, h2 with
    | 0, h1, h2 => injection h1 with h1; injection h2 with h2; subst h1 h2; exact hr
    | j + 1, h1, h2 => simp at h1) hP
end Go.Proofs.YtjkiehmjffgnlaaGreatDoor
namespace Go.Proofs.YtjkiehmjffgnlaaGreatDoor
open Go.RowKit

end Go.Proofs.YtjkiehmjffgnlaaGreatDoor
namespace Go.Proofs.YtjkiehmjffgnlaaGreatDoor
set_option linter.unusedVariables false
set_option linter.unusedSimpArgs false
open Go.RowKit

structure MEnv (w : World) : Prop where
  x : XEnv w
  pow : Lib.TabIs Tryz.prog w "internal/strconv.uint64pow10" .u64 Lib.pow10Tab
theorem MEnv.below {w w' : World} (h : MEnv w) (hb : Below w.heap.size w w') : MEnv w' := ⟨h.x.below hb, (Lib.tabBelow_of_tabIs h.pow) w' hb⟩
theorem mitoa_any (n : Int) (w : World) (h0 : -9223372036854775808 ≤ n) (h1 : n ≤ 9223372036854775807) (hE : MEnv w) :
    Calls Tryz.prog 45 #[.int .i64 n] w (Ret (.string ⟨(Lib.itoa n).toArray⟩) w) := by
  refine (Tryz.strconv_Itoa n h0 h1 w hE.pow).mono ?_
  rintro e w' ⟨rfl, k, os, rfl⟩
  refine ⟨rfl, rfl, rfl, rfl, ?_, fun j hj => ?_⟩
  · show w.heap.size ≤ (w.heap ++ os).size
    simp
  · show (w.heap ++ os)[j]? = w.heap[j]?
    rw [Array.getElem?_append_left hj]
set_option maxHeartbeats 2000000 in
set_option maxRecDepth 100000 in
set_option linter.unusedSimpArgs false in
theorem ldav_ex (nm : List UInt8) (kA : Option Addr) (m kc : Nat) (w : World) : Calls Tryz.prog 35 #[.string ⟨nm.toArray⟩, .slice kA m kc] w (fun e w' => e = .returned (.agg #[.string ⟨#[]⟩, .string ⟨#[68, 65, 86, 58]⟩, .string ⟨nm.toArray⟩, .slice none 0 0, .slice kA m kc]) ∧ w' = w.alloc (.cells #[.string ⟨#[]⟩, .string ⟨#[68, 65, 86, 58]⟩, .string ⟨nm.toArray⟩, .slice none 0 0, .slice kA m kc] 46 (0, 0))) := by
  have HR0 := Lib.hid (heap_alloc_new w (.cells #[.string ⟨#[]⟩, .string ⟨#[68, 65, 86, 58]⟩, .string ⟨nm.toArray⟩, .slice none 0 0, .slice kA m kc] 46 (0, 0)))
  go_enter Tryz.func35, Tryz.ntmps35
  go_wp2
  refine bodyPost_ret (results_c1 rfl _ _ _ _ _ _ rfl HR0.out Tryz.underlying46 rfl (by kernel_rfl)) rfl ?_
  exact ⟨rfl, rfl⟩
end Go.Proofs.YtjkiehmjffgnlaaGreatDoor
