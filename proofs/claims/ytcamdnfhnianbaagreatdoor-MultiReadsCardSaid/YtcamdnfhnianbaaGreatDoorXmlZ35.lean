import Derived.Test.YtcamdnfhnianbaaGreatDoorXmlZ34
import Derived.Test.YtcamdnfhnianbaaGreatDoorXmlZ2
import Derived.Test.YtcamdnfhnianbaaGreatDoorXmlZ30
namespace Go.Proofs.YtcamdnfhnianbaaGreatDoor
set_option linter.unusedVariables false
set_option linter.unusedSimpArgs false
open Go.RowKit

theorem write_err {n : NodeT} {k : Int} (h : writeX n = .error k) : k = 5 ∨ k = 30 := by
  unfold writeX at h
  split at h
  · split at h
    · injection h with h; exact .inl h.symm
    · cases h
  · injection h with h; exact .inr h.symm
end Go.Proofs.YtcamdnfhnianbaaGreatDoor
namespace Go.Proofs.YtcamdnfhnianbaaGreatDoor
set_option linter.unusedVariables false
set_option linter.unusedSimpArgs false
open Go.RowKit

theorem results_c1 {P : Program} {fn : Func} {p : Tmp} {ty : TypeId} (h : fn.results = #[.cell p ty]) (tmps : Array Value) (w : World) (g : Nat) (t : TypeId) (cs : Array Value) (d : TypeDesc)
    (hp : tmps.getD p undef = .pointer (some ⟨g, 0, none⟩)) (hg : w.heap[g]? = some (.cells cs t (0, 0)))
    (hu : P.underlying ty = some d) (hd : (match d with | .struct _ | .array _ _ => true | _ => false) = true) (hi : (P.info? ty).map (·.size) = some cs.size) :
    (results fn tmps).run P w = .ok (.agg cs) w := results_cell_row h tmps w g t cs (0, 0) d hp hg hu hd hi
/-- what Write answers, in one form. -/
def WrV (x : Except Int (List UInt8)) (w : World) (e : Ending) (w' : World) : Prop := Below w.heap.size w w' ∧ e = .returned (.tuple #[.string ⟨(okOr [] x).toArray⟩, .int .i64 (errX x)])
theorem awrite_dav (nm : List UInt8) (ks : List NodeT) (kA : Option Addr) (m kc : Nat) (w : World) (hN : NodesP anyB w (.slice kA m kc) ks) (hT : SmallN 2000000 (davN nm ks) ∧ (formN [] (davN nm ks)).length ≤ 90000000000000) (hE : XEnv w) :
    Calls Tryz.prog 21 #[.agg #[.string ⟨#[]⟩, .string ⟨#[68, 65, 86, 58]⟩, .string ⟨nm.toArray⟩, .slice none 0 0, .slice kA m kc]] w (WrV (writeX (davN nm ks)) w) := by
  have h := xwrite_any (davN nm ks) (.slice none 0 0) (.slice kA m kc) w (TabP.nil _ _ _ _) hN hT.1 hE hT.2
  refine Calls.mono (show Calls Tryz.prog 21 #[.agg #[.string ⟨#[]⟩, .string ⟨#[68, 65, 86, 58]⟩, .string ⟨nm.toArray⟩, .slice none 0 0, .slice kA m kc]] w (WriteP (writeX (davN nm ks)) w) from h) ?_
  rintro e w' ⟨hb, hx⟩
  cases hw : writeX (davN nm ks) with
  | error k => rw [hw] at hx; exact ⟨hb, hx⟩
  | ok s => rw [hw] at hx; exact ⟨hb, hx⟩
def wEtag : List UInt8 := [103, 101, 116, 101, 116, 97, 103]
end Go.Proofs.YtcamdnfhnianbaaGreatDoor
namespace Go.Proofs.YtcamdnfhnianbaaGreatDoor
set_option linter.unusedVariables false
set_option linter.unusedSimpArgs false
open Go.ChangeShapes Go.WideShapes Go.ChangeAt Go.RowKit Go.Deep

theorem read_node : Tryz.prog.readableRec 36 = true := by kernel_rfl
theorem row_node : 36 < Tryz.prog.types.size := of_decide_eq_true (by kernel_rfl)
section
variable {H : Type} {enc : TypeId × Value → H}
end
end Go.Proofs.YtcamdnfhnianbaaGreatDoor
