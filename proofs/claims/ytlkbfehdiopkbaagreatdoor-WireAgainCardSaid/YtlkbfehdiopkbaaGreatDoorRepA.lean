/-
  The walks of reply.Reason and of the reference's Reason. No condition.
-/
import Derived.Test.YtlkbfehdiopkbaaGreatDoorBase
import Derived.Test.YtlkbfehdiopkbaaGreatDoorRepLaws
namespace Go.Proofs.YtlkbfehdiopkbaaGreatDoor
open Go.RowKit

set_option maxHeartbeats 2000000 in
set_option maxRecDepth 100000 in
set_option linter.unusedSimpArgs false in
theorem reason_any (n : Int) (w : World) : Calls Tryz.prog 25 #[.int .i64 n] w (Same0 (.string ⟨(reasonS n).toArray⟩) w) := by
  by_cases h : n ∈ codes
  · simp only [codes, List.mem_cons, List.not_mem_nil, or_false] at h
    rcases h with rfl | rfl | rfl | rfl | rfl | rfl | rfl | rfl | rfl | rfl | rfl | rfl | rfl | rfl | rfl | rfl | rfl | rfl | rfl | rfl | rfl
    all_goals
      go_enter Tryz.func25, Tryz.ntmps25
      go_wp2
      go_ret
      exact ⟨rfl, rfl⟩
  · have hr : reasonS n = [] := Decidable.byContradiction fun hn => h (reason_codes hn)
    rw [hr]
    simp only [codes, List.mem_cons, List.not_mem_nil, or_false, not_or] at h
    obtain ⟨h1, h2, h3, h4, h5, h6, h7, h8, h9, h10, h11, h12, h13, h14, h15, h16, h17, h18, h19, h20, h21⟩ := h
    go_enter Tryz.func25, Tryz.ntmps25
    go_wp2
    go_ret
    exact ⟨rfl, rfl⟩
set_option maxHeartbeats 2000000 in
set_option maxRecDepth 100000 in
set_option linter.unusedSimpArgs false in
theorem rreason_any (n : Int) (w : World) : Calls Tryz.prog 26 #[.int .i64 n] w (Same0 (.string ⟨(reasonS n).toArray⟩) w) := by
  by_cases h : n ∈ codes
  · simp only [codes, List.mem_cons, List.not_mem_nil, or_false] at h
    rcases h with rfl | rfl | rfl | rfl | rfl | rfl | rfl | rfl | rfl | rfl | rfl | rfl | rfl | rfl | rfl | rfl | rfl | rfl | rfl | rfl | rfl
    all_goals
      go_enter Tryz.func26, Tryz.ntmps26
      go_wp2
      go_ret
      exact ⟨rfl, rfl⟩
  · have hr : reasonS n = [] := Decidable.byContradiction fun hn => h (reason_codes hn)
    rw [hr]
    simp only [codes, List.mem_cons, List.not_mem_nil, or_false, not_or] at h
    obtain ⟨h1, h2, h3, h4, h5, h6, h7, h8, h9, h10, h11, h12, h13, h14, h15, h16, h17, h18, h19, h20, h21⟩ := h
    go_enter Tryz.func26, Tryz.ntmps26
    go_wp2
    go_ret
    exact ⟨rfl, rfl⟩
end Go.Proofs.YtlkbfehdiopkbaaGreatDoor
