/-
  The slice types of this seat in the words of the text on memory. No condition.
-/
import Derived.Test.YtcamdnfhnianbaaGreatDoorMem
namespace Go.Proofs.YtcamdnfhnianbaaGreatDoor
open Go.RowKit
theorem elemB : Elem Tryz.prog 79 5 (.int .u8 0) 1 := ⟨Tryz.underlying79, by kernel_rfl, rfl, Nat.le_refl _⟩
theorem elemS : Elem Tryz.prog 108 9 (.string ⟨#[]⟩) 16 := ⟨Tryz.underlying108, by kernel_rfl, rfl, by omega⟩
theorem conv_bytes (w : World) (v : Value) (l : List UInt8) (hr : RdL w v (vbytes l)) : (convert 79 9 v).run Tryz.prog w = .ok (.string ⟨l.toArray⟩) w :=
  run_conv_bytes w _ _ 5 v l Tryz.underlying79 Tryz.underlying5 Tryz.underlying9 hr
theorem one1 (k : IntKind) (n : Int) : ∀ u ∈ (#[Value.int k n] : Array Value).toList, u.oneCell' = true := by
  intro u hu
  have : u = .int k n := by simpa using hu
  rw [this]; rfl
theorem one3 (k : IntKind) (n m p : Int) : ∀ u ∈ (#[Value.int k n, Value.int k m, Value.int k p] : Array Value).toList, u.oneCell' = true := by
  intro u hu
  have : u = .int k n ∨ u = .int k m ∨ u = .int k p := by simpa using hu
  rcases this with h | h | h <;> rw [h] <;> rfl
theorem one1s (s : ByteArray) : ∀ u ∈ (#[Value.string s] : Array Value).toList, u.oneCell' = true := by
  intro u hu
  have : u = .string s := by simpa using hu
  rw [this]; rfl
end Go.Proofs.YtcamdnfhnianbaaGreatDoor
