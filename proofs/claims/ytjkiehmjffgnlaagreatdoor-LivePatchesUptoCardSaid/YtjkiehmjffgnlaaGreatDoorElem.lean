import Derived.Test.YtjkiehmjffgnlaaGreatDoorMem
namespace Go.Proofs.YtjkiehmjffgnlaaGreatDoor
open Go.RowKit
theorem elemS : Elem Tryz.prog 31 9 (.string ⟨#[]⟩) 16 := ⟨Tryz.underlying31, by kernel_rfl, rfl, by omega⟩
theorem conv_bytes (w : World) (v : Value) (l : List UInt8) (hr : RdL w v (vbytes l)) : (convert 116 9 v).run Tryz.prog w = .ok (.string ⟨l.toArray⟩) w :=
  run_conv_bytes w _ _ 5 v l Tryz.underlying116 Tryz.underlying5 Tryz.underlying9 hr
end Go.Proofs.YtjkiehmjffgnlaaGreatDoor
