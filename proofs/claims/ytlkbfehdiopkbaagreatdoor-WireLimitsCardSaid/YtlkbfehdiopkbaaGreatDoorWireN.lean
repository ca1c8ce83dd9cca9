/-
  The walk of the closure that makes a text of many letters x. Condition: there are at most a million.
-/
import Derived.Test.YtlkbfehdiopkbaaGreatDoorWireL
namespace Go.Proofs.YtlkbfehdiopkbaaGreatDoor
set_option linter.unusedVariables false
set_option linter.unusedSimpArgs false
open Go.RowKit

theorem info_u8 : (Tryz.prog.info? 5).map (fun i => (i.zero, i.size, i.bytes)) = some (some (.int .u8 0), 1, 1) := by kernel_rfl
theorem pad_next {n k : Nat} (h : k < n) : (padS k ++ List.replicate (n - k) 0).set k 120 = padS (k + 1) ++ List.replicate (n - (k + 1)) 0 := by
  have e : n - k = (n - (k + 1)) + 1 := by omega
  rw [List.set_append_right _ _ (by rw [pad_len]; exact Nat.le_refl _), pad_len, Nat.sub_self, e, List.replicate_succ, List.set_cons_zero]
  unfold padS
  rw [List.replicate_succ', List.append_assoc]
  rfl
theorem made_bw (w : World) (n : Nat) : BW (w.alloc (.cells (madeCells #[.int .u8 0] n) 5)) w.heap.size (List.replicate n 0) := by
  have e : madeCells #[.int .u8 0] n = (vbytes (List.replicate n 0)).toArray := by
    apply Array.ext
    · simp [madeCells, vbytes]
    · intro j h1 h2
      simp [madeCells, vbytes]
      rw [Nat.mod_one]
      rfl
  rw [e]
  exact BW.lit w _
set_option maxHeartbeats 1000000 in
set_option maxRecDepth 100000 in
set_option linter.unusedSimpArgs false in
theorem pad_any (n : Nat) (w : World) (hn : n ≤ 1000000) : Calls Tryz.prog 16 #[.int .i64 (n : Int)] w (Ret (.string ⟨(padS n).toArray⟩) w) := by
  obtain ⟨i, hi, hz, hs, hb⟩ : ∃ i, Tryz.prog.info? 5 = some i ∧ i.zero = some (.int .u8 0) ∧ i.size = 1 ∧ i.bytes = 1 := by
    have h := info_u8
    rcases hx : Tryz.prog.info? 5 with _ | i
    · rw [hx] at h; cases h
    · rw [hx] at h
      simp only [Option.map_some, Option.some.injEq, Prod.mk.injEq] at h
      exact ⟨i, rfl, h.1, h.2.1, h.2.2⟩
  have hmk := run_make_row (P := Tryz.prog) 31 5 i (.int .u8 0) Tryz.underlying31 hi hz hs rfl .i64 .i64 n (by rw [hb]; omega) (by omega)
  go_enter Tryz.func16, Tryz.ntmps16
  go_wp2_with fail
  have hw0 := Lib.hid (made_bw w n)
  have hb0 := Lib.hid (show Below w.heap.size w (w.alloc (.cells (madeCells #[.int .u8 0] n) 5)) from (Below.refl _ w).alloc (Nat.le_refl _) _)
  generalize w.alloc (.cells (madeCells #[.int .u8 0] n) 5) = wb at *
  clear hmk hi hz hs hb
  go_loopw [4] (fun iv wr => ∃ k : Nat, k ≤ n ∧ iv = .int .i64 k ∧ BW wr w.heap.size (padS k ++ List.replicate (n - k) 0) ∧ Below w.heap.size w wr) (fun iv _ => n - (intOf iv).toNat)
  case atStart => exact ⟨0, Nat.zero_le _, rfl, hw0.out, hb0.out⟩
  case round =>
    obtain ⟨k, hk, rfl, hbw, hbr⟩ := hrel
    clear hw0 hb0
    rcases Nat.lt_or_ge k n with hlt | hge
    · have hkl : k < (padS k ++ List.replicate (n - k) 0).length := by rw [List.length_append, pad_len, List.length_replicate]; omega
      have hat : (padS k ++ List.replicate (n - k) (0 : UInt8))[k]? = some 0 := by
        rw [List.getElem?_append_right (by rw [pad_len]; exact Nat.le_refl _), pad_len, Nat.sub_self, List.getElem?_replicate, if_pos (by omega)]
      obtain ⟨hc, hf⟩ := hbw.2 k 0 hat
      have HSet := Lib.hid (hbw.set k 120 hkl)
      rw [pad_next hlt] at HSet
      have k1 : (k : Int) < n := by omega
      have k2 : (0 : Int) ≤ k := by omega
      clear hbw hkl hat
      go_wp2
      go_roundw
      case rel => exact ⟨k + 1, by omega, by go_num, HSet.out, hbr.setCell (Nat.le_refl _) _⟩
      case measure => simp [intOf]; omega
    · obtain rfl : k = n := by omega
      rw [Nat.sub_self, List.replicate_zero, List.append_nil] at hbw
      have hcv := conv_bytes wr (.slice (some ⟨w.heap.size, 0, none⟩) (padS k).length k) (padS k) (hbw.rd k (by rw [pad_len]; exact Nat.le_refl _) (by unfold maxLen; omega))
      rw [pad_len] at hcv
      clear hbw hge hk
      go_wp2
      go_ret
      exact ⟨rfl, hbr⟩
end Go.Proofs.YtlkbfehdiopkbaaGreatDoor
