/-
  The closed facts of the rows that speak of the program alone, each by itself (together they pass the kernel's memory). No condition.
-/
import Derived.Test.YtjkiehmjffgnlaaGreatDoorBase
import Derived.JoinedCond
namespace Go.Proofs.YtjkiehmjffgnlaaGreatDoor
open Go.ChangeShapes Go.WideShapes Go.ChangeAt Go.RowKit
theorem and2 {a b : Bool} (ha : a = true) (hb : b = true) : (a && b) = true := by rw [ha, hb]; rfl
set_option maxRecDepth 100000 in
theorem pf_laid : laidOutB Tryz.prog = true := by kernel_rfl
set_option maxRecDepth 100000 in
theorem pf_maps : mapsRowed Tryz.prog = true := by kernel_rfl
set_option maxRecDepth 100000 in
theorem pf_stops : (Tryz.prog.stops == []) = true := by kernel_rfl
set_option maxRecDepth 100000 in
theorem pf_knobs : (Tryz.prog.stopKnobs == []) = true := by kernel_rfl
set_option maxRecDepth 100000 in
theorem pf_keys : (Rows.livePatchesRow.plainKeys == Tryz.prog.plainKeys) = true := by kernel_rfl
set_option maxRecDepth 100000 in
theorem pf_heard : Tryz.prog.stopsHeard = true := by kernel_rfl
set_option maxRecDepth 100000 in
theorem pf_enter : Tryz.prog.mayEnter = true := by kernel_rfl
set_option maxRecDepth 100000 in
theorem pf_lifts : (Rows.livePatchesRow.lifted == Tryz.prog.liftsFinal) = true := by kernel_rfl
set_option maxRecDepth 100000 in
theorem pf_make : (Tryz.prog.make == some Rows.livePatchesRow.make) = true := by kernel_rfl
end Go.Proofs.YtjkiehmjffgnlaaGreatDoor
