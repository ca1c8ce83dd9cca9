import Derived.Test.YtjkiehmjffgnlaaGreatDoorXmlZ34
import Derived.Test.YtjkiehmjffgnlaaGreatDoorXmlZ2
import Derived.Test.YtjkiehmjffgnlaaGreatDoorXmlZ30
namespace Go.Proofs.YtjkiehmjffgnlaaGreatDoor
set_option linter.unusedVariables false
set_option linter.unusedSimpArgs false
open Go.RowKit

end Go.Proofs.YtjkiehmjffgnlaaGreatDoor
namespace Go.Proofs.YtjkiehmjffgnlaaGreatDoor
set_option linter.unusedVariables false
set_option linter.unusedSimpArgs false
open Go.RowKit

theorem results_c1 {P : Program} {fn : Func} {p : Tmp} {ty : TypeId} (h : fn.results = #[.cell p ty]) (tmps : Array Value) (w : World) (g : Nat) (t : TypeId) (cs : Array Value) (d : TypeDesc)
    (hp : tmps.getD p undef = .pointer (some ⟨g, 0, none⟩)) (hg : w.heap[g]? = some (.cells cs t (0, 0)))
    (hu : P.underlying ty = some d) (hd : (match d with | .struct _ | .array _ _ => true | _ => false) = true) (hi : (P.info? ty).map (·.size) = some cs.size) :
    (results fn tmps).run P w = .ok (.agg cs) w := results_cell_row h tmps w g t cs (0, 0) d hp hg hu hd hi
end Go.Proofs.YtjkiehmjffgnlaaGreatDoor
namespace Go.Proofs.YtjkiehmjffgnlaaGreatDoor
set_option linter.unusedVariables false
set_option linter.unusedSimpArgs false
open Go.ChangeShapes Go.WideShapes Go.ChangeAt Go.RowKit Go.Deep

theorem read_node : Tryz.prog.readableRec 46 = true := by kernel_rfl
theorem row_node : 46 < Tryz.prog.types.size := of_decide_eq_true (by kernel_rfl)
theorem read_chgs : Tryz.prog.readableRec 23 = true := by kernel_rfl
theorem row_chgs : 23 < Tryz.prog.types.size := of_decide_eq_true (by kernel_rfl)
theorem read_props : Tryz.prog.readableRec 35 = true := by kernel_rfl
theorem row_props : 35 < Tryz.prog.types.size := of_decide_eq_true (by kernel_rfl)
section
variable {H : Type} {enc : TypeId × Value → H}
def chgM (c : ChgT) : Nat := bulkT c.value + 2
set_option maxRecDepth 100000 in
theorem chgs_of_trod {W : World} {v : Value} {d : DataW H} {ps : List MemPlace} (hv : Value.okWide Tryz.prog W .any 0 23 v) (h : DataW.Trod enc Tryz.prog W 0 (fun _ => true) true 23 v d ps) :
    ∃ l, Tab 6 (ChgR anyB) W v l ∧ (l.map chgM).sum + l.length ≤ Rows.uptoBulk d := by
  obtain ⟨fuel, hf⟩ := trod_one Tryz.underlying23 hv h
  exact tab_of_trod_el (W := W) (α := ChgT) (ChgR anyB) chgM Tryz.underlying23 (n := 6) (by kernel_rfl) (by decide) (fun cs y k hc hlt htr => by
    obtain ⟨xs, k', _, hx, hcl, hlen, hg⟩ := DataW.trod_struct Tryz.underlying54 htr
    obtain ⟨c0, c1, c2, c3, c4, c5, rfl⟩ := six' hc
    obtain ⟨z0, z1, rfl⟩ := two' (l := xs) hlen
    have s1 : Tryz.prog.cellsOf 4 = 1 := by kernel_rfl
    have s2 : Tryz.prog.cellsOf 46 = 5 := by kernel_rfl
    have g0 : DataW.trod enc Tryz.prog W 0 (fun _ => true) true k' 4 (([c0, c1, c2, c3, c4, c5].drop 0).take (Tryz.prog.cellsOf 4)) = [z0, z1][0]? := hg 0 _ rfl
    have g1 : DataW.trod enc Tryz.prog W 0 (fun _ => true) true k' 46 (([c0, c1, c2, c3, c4, c5].drop 1).take (Tryz.prog.cellsOf 46)) = [z0, z1][1]? := hg 1 _ rfl
    rw [s1] at g0
    rw [s2] at g1
    obtain ⟨b, hb, hz⟩ := DataW.trod_bool Tryz.underlying4 (x := z0) g0
    obtain ⟨n, hn, hm⟩ := node_of_cells (y := z1) g1
    injection hb with hb
    subst hb
    refine ⟨⟨b, n⟩, ⟨_, rfl, hn⟩, ?_⟩
    rw [hx]
    have hz0 : Rows.uptoBulk z0.1 = 1 := by rw [hz]; rfl
    simp only [Rows.uptoBulk, Rows.uptoBulkAll, List.map_cons, List.map_nil, hz0, chgM]
    omega) hf
end
end Go.Proofs.YtjkiehmjffgnlaaGreatDoor
