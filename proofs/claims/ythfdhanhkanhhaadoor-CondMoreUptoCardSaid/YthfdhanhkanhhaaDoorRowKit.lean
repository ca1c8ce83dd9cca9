/-
  From a law's walk to its row: what the listed variables give; arguments that are texts and lists of texts; the post. No condition.
-/
import Derived.Test.YthfdhanhkanhhaaDoorElem
import Derived.Test.YthfdhanhkanhhaaDoorShelf
import Derived.Test.YthfdhanhkanhhaaDoorShelfB
import Derived.ProofKit
import Derived.OpenShut
import Derived.ShutString
import Derived.SliceStrings
import Derived.Deep.DeepHandedRow
import Derived.Lib.LaidU8T
import Derived.PinnedBridge
namespace Go.Proofs.YthfdhanhkanhhaaDoor
open Go.ChangeShapes Go.WideShapes Go.ChangeAt Go.RowKit
open Go.ChangeMaps (open_string shut_string)

theorem own : ownKnob Tryd.prog.godebug = none := by kernel_rfl
theorem laidOut : laidOutB Tryd.prog = true := by kernel_rfl
theorem u8x : U8Extra Tryd.prog Tryd.lay196_ren := {
  n3 := by kernel_rfl
  n4 := by kernel_rfl
  y3 := by kernel_rfl
  y4 := by kernel_rfl
  c5 := by kernel_rfl
  c119 := by kernel_rfl
  c138 := by kernel_rfl }
theorem accept_eq : (Rows.laid_unicode_utf8_acceptRanges : DataW Unit) = Lib.acceptData := by kernel_rfl
theorem first_eq : Rows.laid_unicode_utf8_first = Lib.firstData := by
  unfold Rows.laid_unicode_utf8_first
  exact Pinned.utf8First_eq
def laidList : List (String × DataW Unit) := [("unicode/utf8.acceptRanges", Rows.laid_unicode_utf8_acceptRanges), ("unicode/utf8.first", Rows.laid_unicode_utf8_first)]
theorem env_of {W : World} (h0 : laidMetH Tryd.prog laidList W) (hsh : W.ShapedOpen Tryd.prog) : Env W := by
  have hf : laidList.filter (fun x => x.2.handleName?.isSome) = [] := by kernel_rfl
  have h : laidMet Tryd.prog laidList W := by
    unfold laidMetH at h0
    rw [hf] at h0
    exact h0
  have r3 := Lib.laidMet.reads h (n := "unicode/utf8.first") (d := Rows.laid_unicode_utf8_first) (List.mem_cons_of_mem _ (List.mem_cons_self ..))
  have r4 := Lib.laidMet.reads h (n := "unicode/utf8.acceptRanges") (d := Rows.laid_unicode_utf8_acceptRanges) (List.mem_cons_self ..)
  rw [first_eq] at r3
  rw [accept_eq] at r4
  exact ⟨utf8Tabs_of_readsT (U8Types.of196 Tryd.lay196) u8x r3 r4, Tryd.laysM146.s1_3 W hsh⟩

section
variable {H : Type} {enc : TypeId × Value → H}
set_option maxRecDepth 100000 in
/-- a list of texts that came in. -/
theorem strs_of_trod {W : World} {v : Value} {d : DataW H} {ps : List MemPlace} (hv : Value.okWide Tryd.prog W .any 0 23 v)
    (h : DataW.Trod enc Tryd.prog W 0 (fun _ => true) true 23 v d ps) : ∃ ls, Strs W v ls ∧ Fits ls := by
  obtain ⟨a0, len, cap, rfl⟩ := okWide_slice Tryd.underlying23 hv
  obtain ⟨fuel, hf⟩ := h
  have hc1 : Tryd.prog.cellsOf 9 = 1 := by kernel_rfl
  rcases open_strings Tryd.underlying23 Tryd.underlying9 hc1 hf with ⟨hcs, hx⟩ | ⟨a, len', cap', ss, hcs, _, hl, hm, hz, hx, hcell, hws⟩
  · have : Value.slice a0 len cap = .slice none 0 0 := by simpa [Value.cells] using hcs
    injection this with e1 e2 e3
    subst e1 e2 e3
    exact ⟨[], ⟨none, 0, rfl, Nat.le_refl _, Nat.zero_le _, fun j l hj => by simp at hj⟩, fun j l hj => by simp at hj⟩
  · have : Value.slice a0 len cap = .slice (some a) len' cap' := by simpa [Value.cells] using hcs
    injection this with e1 e2 e3
    subst e1 e2 e3
    simp only [if_true] at hz
    refine ⟨(ss.take len).map (·.data.toList), ⟨some a, cap, by simp [hz, hl], by simp; omega, hm, fun j l hj => ?_⟩, fun j l hj => ?_⟩
    · rw [List.getElem?_map, List.getElem?_take] at hj
      split at hj
      · rename_i hlt
        obtain ⟨s, hs, rfl⟩ := Option.map_eq_some_iff.1 hj
        have h0 := hcell 0 (by omega)
        have hj' := hcell j (by omega)
        have hlt0 := cell_lt h0
        obtain ⟨b, o, sp⟩ := a
        have hsp : sp = none := by
          rw [show (⟨b, o, sp⟩ : Addr).add 0 = ⟨b, o, sp⟩ from rfl] at h0
          cases sp with
          | none => rfl
          | some k =>
            unfold World.cell? at h0
            revert h0
            simp only
            split <;> simp
        subst hsp
        refine ⟨b, o, rfl, hlt0, ?_⟩
        rw [add_eq] at hj'
        rw [hj', List.getD_eq_getElem?_getD, hs]
        simp
      · cases hj
    · rw [List.getElem?_map] at hj
      obtain ⟨s, hs, rfl⟩ := Option.map_eq_some_iff.1 hj
      have := hws s (List.mem_of_mem_take (List.mem_of_getElem? hs))
      have e : s.data.toList.length = s.size := Array.length_toList
      rw [e]; exact this
theorem trod_behind {W W' : World} {t : TypeId} {v : Value} {d : DataW H} {ps : List MemPlace} (hr : Tryd.prog.readableRec t = true) (hrow : t < Tryd.prog.types.size)
    (h : DataW.Trod enc Tryd.prog W 0 (fun _ => true) true t v d ps) (hb : Below W.heap.size W W') (hlt : ∀ x ∈ ps, x.block < W.heap.size) :
    DataW.Trod enc Tryd.prog W' 0 (fun b => decide (b < W.heap.size)) true t v d ps := Below.trod laidOut hr hrow h hb hlt
end
theorem read_strs : Tryd.prog.readableRec 23 = true := by kernel_rfl
theorem row_strs : 23 < Tryd.prog.types.size := of_decide_eq_true (by kernel_rfl)
theorem read_str : Tryd.prog.readableRec 9 = true := by kernel_rfl
theorem row_str : 9 < Tryd.prog.types.size := of_decide_eq_true (by kernel_rfl)
theorem read_bool : Tryd.prog.readableRec 4 = true := by kernel_rfl
theorem row_bool : 4 < Tryd.prog.types.size := of_decide_eq_true (by kernel_rfl)

def layCells (cs : Array Value) : Obj → Obj
  | .cells _ t frozen => .cells cs t frozen
  | o => o
/-- A world for the witness: the settled one, the two tables holding what their texts lay. -/
noncomputable def laidWorld (os : Os) : World :=
  { World.holding Tryd.prog os ⟨#[], #[], []⟩ with
    heap := ((World.holding Tryd.prog os ⟨#[], #[], []⟩).heap.modify 0 (layCells ((List.range 256).map fun c => Value.int .u8 (Lib.firstT c)).toArray)).modify 1 (layCells ((List.range 16).flatMap fun i => [Value.int .u8 (Lib.accLo i), Value.int .u8 (Lib.accHi i)]).toArray) }
end Go.Proofs.YthfdhanhkanhhaaDoor
