/-
  The walk of the statements' fixed examples of layer 12. Conditions: what the listed variables hold.
-/
import Derived.Test.YtlkbfehdiopkbaaGreatDoorRepM
namespace Go.Proofs.YtlkbfehdiopkbaaGreatDoor
open Go.RowKit

def r0 : RespT := ⟨200, [⟨[65], [98]⟩], [104, 105], false, false⟩
def f0 : List UInt8 := [72, 84, 84, 80, 47, 49, 46, 49, 32, 50, 48, 48, 32, 79, 75, 13, 10, 65, 58, 32, 98, 13, 10, 67, 111, 110, 116, 101, 110, 116, 45, 76, 101, 110, 103, 116, 104, 58, 32, 50, 13, 10, 13, 10, 104, 105]
theorem r0_good : goodR r0 = true := by decide +kernel
theorem r0_form : formR r0 = f0 := by decide +kernel
theorem r0_write : writeS r0 = some f0 := by rw [writeS_good r0_good, r0_form]
theorem r0_read : readR stS (f0 ++ [120]) false = some (r0, f0.length) := by
  have := read_back stS stS_codes r0 r0_good [120]
  rw [r0_form] at this
  exact this
theorem hdrs_lit1 (w : World) (n v : List UInt8) : Hdrs (w.alloc (.cells #[.string ⟨n.toArray⟩, .string ⟨v.toArray⟩] 38)) (.slice (some ⟨w.heap.size, 0, none⟩) 1 1) [⟨n, v⟩] :=
  ⟨some ⟨w.heap.size, 0, none⟩, 1, rfl, Nat.le_refl _, by unfold maxLen; omega, fun j x hj => by
    cases j with
    | succ j => simp at hj
    | zero =>
      simp at hj
      subst hj
      refine ⟨w.heap.size, 0, rfl, by simp, [str n, str v], rfl, fun k u hk => ?_, rfl⟩
      rw [cell_new, Nat.zero_mul, Nat.zero_add, Nat.zero_add]
      simpa [str] using hk⟩
set_option maxHeartbeats 1000000 in
set_option maxRecDepth 100000 in
set_option linter.unusedSimpArgs false in
theorem fixed12_any (w : World) (hE : Env w) : Calls Tryz.prog 20 #[] w (Ret (.bool true) w) := by
  have hA : Below w.heap.size w (w.alloc (.cells #[.string ⟨#[65]⟩, .string ⟨#[98]⟩] 38)) := (Below.refl _ w).alloc (Nat.le_refl _) _
  have HWr := Lib.hid (write_any r0 _ _ (hdrs_lit1 w [65] [98]) (by decide +kernel) (hE.below hA))
  rw [r0_write] at HWr
  unfold respV r0 at HWr
  have HRd := Lib.hid (fun w hE => read_any (f0 ++ [120]) false w (by decide) hE)
  rw [r0_read] at HRd
  unfold wV f0 at HWr
  unfold f0 at HRd
  have HRs := Lib.hid (reason_any 507)
  rw [show reasonS 507 = [73, 110, 115, 117, 102, 102, 105, 99, 105, 101, 110, 116, 32, 83, 116, 111, 114, 97, 103, 101] by decide] at HRs
  have HE := Lib.hid hE
  go_enter Tryz.func20, Tryz.ntmps20
  go_wp2_with fail
  refine HWr.out.mono ?_
  rintro e w1 ⟨rfl, hb1⟩
  have hA1 := hA.trans (hb1.mono hA.size)
  clear HWr hA hb1
  go_wp2_with fail
  refine (HRd.out w1 (HE.out.below hA1)).mono ?_
  rintro e w2 ⟨hb2, hv, rfl, hh⟩
  obtain ⟨A, cap, rfl, -, -, -⟩ := hh
  have hA2 := hA1.trans (hb2.mono hA1.size)
  clear HRd hb2 hA1
  unfold respV r0
  have hA3 : Below w.heap.size w (w2.alloc (.cells #[.int .i64 200, .slice A 1 cap, .string ⟨#[104, 105]⟩, .bool false, .bool false] 49)) := hA2.alloc hA2.size _
  simp only [List.length_cons, List.length_nil]
  go_wp2_with (go_at_call 25; refine (HRs.out _).mono ?_; rintro e w3 ⟨rfl, rfl⟩)
  go_ret
  exact ⟨rfl, hA3⟩
end Go.Proofs.YtlkbfehdiopkbaaGreatDoor
