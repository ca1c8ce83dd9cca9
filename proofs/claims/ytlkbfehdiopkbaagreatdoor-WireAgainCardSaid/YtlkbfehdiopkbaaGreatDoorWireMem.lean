/-
  Layer 11: how wire's reader lies in memory; what a call on it leaves; a panic with a status. No condition.
-/
import Derived.Test.YtlkbfehdiopkbaaGreatDoorWireIdx
import Derived.Test.YtlkbfehdiopkbaaGreatDoorMem
import Derived.Deep.LoopGhost
import Derived.Deep.QuietTactic
import Derived.BigQuiet
import Derived.Defers
import Derived.Recover
namespace Go.Proofs.YtlkbfehdiopkbaaGreatDoor
set_option linter.unusedVariables false
set_option linter.unusedSimpArgs false
open Go.RowKit

theorem wfree {w : World} {b : Nat} {xs : Array Value} {t : TypeId} (h : w.heap[b]? = some (.cells xs t (0, 0))) (k : Nat) : w.frozen? ⟨b, k, none⟩ = false := by
  unfold World.frozen?
  simp [h]
theorem wat {w : World} {b : Nat} {xs : Array Value} {t : TypeId} (h : w.heap[b]? = some (.cells xs t (0, 0))) (k : Nat) : w.cell? ⟨b, k, none⟩ = xs[k]? := cell_of_row _ _ _ _ _ _ h
/-- what a panic with a status bears. -/
def stopE (st : Int) : List PanicEntry := [{ v := .iface 65 (.agg #[.int .i64 st]), recovered := false }]
/-- the reader in block b: of the bytes buf those of s are left, from place k on. -/
structure WRk (w : World) (b : Nat) (buf s : List UInt8) (k : Nat) : Prop where
  le : k ≤ buf.length
  left : buf.drop k = s
  cells : w.heap[b]? = some (.cells #[.string ⟨buf.toArray⟩, .int .i64 k] 69 (0, 0))
def WR (w : World) (b : Nat) (buf s : List UInt8) : Prop := ∃ k, WRk w b buf s k
section
variable {w w' : World} {b k : Nat} {buf s : List UInt8}
theorem WRk.lt (h : WRk w b buf s k) : b < w.heap.size := (Array.getElem?_eq_some_iff.1 h.cells).1
theorem WRk.c0 (h : WRk w b buf s k) : w.cell? ⟨b, 0, none⟩ = some (.string ⟨buf.toArray⟩) := wat h.cells 0
theorem WRk.c1 (h : WRk w b buf s k) : w.cell? ⟨b, 1, none⟩ = some (.int .i64 k) := wat h.cells 1
theorem WRk.f1 (h : WRk w b buf s k) : w.frozen? ⟨b, 1, none⟩ = false := wfree h.cells 1
theorem WRk.len (h : WRk w b buf s k) : k + s.length = buf.length := by
  rw [← h.left, List.length_drop]
  have := h.le
  omega
theorem WRk.move (h : WRk w b buf s k) (n : Nat) (hn : n ≤ s.length) (i : Int) (hi : i = (k : Int) + n) : WRk (w.setCell ⟨b, 1, none⟩ (.int .i64 i)) b buf (s.drop n) (k + n) := by
  subst hi
  refine ⟨by have := h.len; omega, ?_, heap_setCell_same _ b 1 _ _ _ h.cells⟩
  rw [← h.left, List.drop_drop]
theorem WRk.draws (h : WRk w b buf s k) (n : Nat) : WRk (w.drewN n) b buf s k := ⟨h.le, h.left, h.cells⟩
theorem WRk.moves (h : WRk w b buf s k) (n : Nat) (hn : n ≤ s.length) (i : Int) (hi : i = (k : Int) + n) (m : Nat) : WRk ((w.drewN m).setCell ⟨b, 1, none⟩ (.int .i64 i)) b buf (s.drop n) (k + n) := (h.draws m).move n hn i hi
theorem WR.lt (h : WR w b buf s) : b < w.heap.size := h.elim fun _ h => h.lt
theorem WR.keep {bl : Option Nat} (h : WR w b buf s) (hg : w.grownBy w' bl) (hne : some b ≠ bl) : WR w' b buf s := by
  obtain ⟨k, h⟩ := h
  exact ⟨k, h.le, h.left, (hg.block b h.lt hne).trans h.cells⟩
theorem WR.below (h : WR w b buf s) (hb : Below w.heap.size w w') : WR w' b buf s := by
  obtain ⟨k, h⟩ := h
  exact ⟨k, h.le, h.left, (hb.block b h.lt).trans h.cells⟩
end
theorem grown_refl (w : World) (b : Option Nat) : w.grownBy w b := World.grownBy.refl _ _
theorem grown_cell (w : World) (b k : Nat) (v : Value) : w.grownBy (w.setCell ⟨b, k, none⟩ v) (some b) :=
  ⟨rfl, rfl, rfl, by simp, fun k _ hne => heap_setCell_other w _ k v (fun h => hne (by rw [h]))⟩
theorem grown_draws {w w' : World} {b : Option Nat} (h : w.grownBy w' b) (n : Nat) : w.grownBy (w'.drewN n) b := ⟨h.os, h.tape, h.output, h.size, h.block⟩
theorem grown_dcell (w : World) (n b k : Nat) (v : Value) : w.grownBy ((w.drewN n).setCell ⟨b, k, none⟩ v) (some b) :=
  ⟨rfl, rfl, rfl, by simp, fun k _ hne => heap_setCell_other (w.drewN n) _ k v (fun h => hne (by rw [h]))⟩
theorem grown_tr {a b c : World} {r : Option Nat} (h : a.grownBy b r) (k : b.grownBy c r) : a.grownBy c r :=
  ⟨k.os.trans h.os, k.tape.trans h.tape, k.output.trans h.output, Nat.le_trans h.size k.size, fun i hi hne => (k.block i (Nat.lt_of_lt_of_le hi h.size) hne).trans (h.block i hi hne)⟩
/-- a call on the reader: what it hands back and what is left, or the panic with a status; of what was there only the reader has changed. -/
def WOut {α : Type} (b : Nat) (buf : List UInt8) (x : Rd1 α) (f : α → Value) (w : World) (e : Ending) (w' : World) : Prop :=
  w.grownBy w' (some b) ∧ match x with
    | .error st => e = .panicked (stopE st)
    | .ok (a, r) => e = .returned (f a) ∧ WR w' b buf r
theorem wout_no {α : Type} {b : Nat} {buf : List UInt8} {x : Rd1 α} {f : α → Value} {w w' : World} {st : Int} (h : x = .error st) (hg : w.grownBy w' (some b)) : WOut b buf x f w (.panicked (stopE st)) w' := by
  subst h
  exact ⟨hg, rfl⟩
theorem wout_ok {α : Type} {b : Nat} {buf r : List UInt8} {x : Rd1 α} {f : α → Value} {w w' : World} {a : α} {v : Value} (h : x = .ok (a, r)) (hv : v = f a) (hg : w.grownBy w' (some b)) (hr : WR w' b buf r) : WOut b buf x f w (.returned v) w' := by
  subst h hv
  exact ⟨hg, rfl, hr⟩
end Go.Proofs.YtlkbfehdiopkbaaGreatDoor
