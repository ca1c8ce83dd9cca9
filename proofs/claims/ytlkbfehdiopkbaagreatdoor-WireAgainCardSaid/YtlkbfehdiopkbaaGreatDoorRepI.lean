/-
  The walk of the reference's Same: two responses that read alike. No condition.
-/
import Derived.Test.YtlkbfehdiopkbaaGreatDoorRepH
namespace Go.Proofs.YtlkbfehdiopkbaaGreatDoor
open Go.RowKit

set_option maxHeartbeats 1000000 in
set_option maxRecDepth 100000 in
set_option linter.unusedSimpArgs false in
theorem rsame_any (r : RespT) (hv hu : Value) (w : World) (hh : Hdrs w hv r.hdrs) (hg : Hdrs w hu r.hdrs) :
    Calls Tryz.prog 28 #[respV r hv, respV r hu] w (Ret (.bool true) w) := by
  have HH := Lib.hid hh
  have HG := Lib.hid hg
  obtain ⟨A, cap, rfl, hcap, hcm, -⟩ := hh
  obtain ⟨A2, cap2, rfl, hcap2, hcm2, -⟩ := hg
  unfold maxLen at hcm hcm2
  obtain ⟨st, hdrs, body, hd, cl⟩ := r
  unfold respV
  simp only at *
  obtain ⟨c0, c1, c2, c3, c4⟩ := cell5 w (.int .i64 st) (.slice A hdrs.length cap) (.string ⟨body.toArray⟩) (.bool hd) (.bool cl) 49
  have hA0 : Below w.heap.size w (w.alloc (.cells #[.int .i64 st, .slice A hdrs.length cap, .string ⟨body.toArray⟩, .bool hd, .bool cl] 49)) := (Below.refl _ w).alloc (Nat.le_refl _) _
  have hsz0 : w.heap.size < (w.alloc (.cells #[.int .i64 st, .slice A hdrs.length cap, .string ⟨body.toArray⟩, .bool hd, .bool cl] 49)).heap.size := by simp
  have hsz1 : (w.alloc (.cells #[.int .i64 st, .slice A hdrs.length cap, .string ⟨body.toArray⟩, .bool hd, .bool cl] 49)).heap.size = w.heap.size + 1 := by simp
  obtain ⟨f0, f1, f2, f3, f4⟩ := cell5 (w.alloc (.cells #[.int .i64 st, .slice A hdrs.length cap, .string ⟨body.toArray⟩, .bool hd, .bool cl] 49)) (.int .i64 st) (.slice A2 hdrs.length cap2) (.string ⟨body.toArray⟩) (.bool hd) (.bool cl) 49
  have hb1 : Below (w.heap.size + 1) (w.alloc (.cells #[.int .i64 st, .slice A hdrs.length cap, .string ⟨body.toArray⟩, .bool hd, .bool cl] 49)) ((w.alloc (.cells #[.int .i64 st, .slice A hdrs.length cap, .string ⟨body.toArray⟩, .bool hd, .bool cl] 49)).alloc (.cells #[.int .i64 st, .slice A2 hdrs.length cap2, .string ⟨body.toArray⟩, .bool hd, .bool cl] 49)) := (Below.refl _ _).alloc (by simp) _
  rw [hsz1] at f0 f1 f2 f3 f4
  go_enter Tryz.func28, Tryz.ntmps28
  go_wp2_with fail
  generalize (w.alloc (.cells #[.int .i64 st, .slice A hdrs.length cap, .string ⟨body.toArray⟩, .bool hd, .bool cl] 49)) = wa at *
  generalize (wa.alloc (.cells #[.int .i64 st, .slice A2 hdrs.length cap2, .string ⟨body.toArray⟩, .bool hd, .bool cl] 49)) = wb at *
  have g1 := (hb1.cell (p := ⟨w.heap.size, 1, none⟩) (Nat.lt_succ_self _)).trans c1
  have hAB : Below w.heap.size w wb := hA0.trans (hb1.mono (Nat.le_succ _))
  have hzb : w.heap.size + 1 < wb.heap.size := World.block_lt_of_cell? wb _ f1
  have HHb := Lib.hid (HH.out.below hAB (Nat.le_refl _))
  have HGb := Lib.hid (HG.out.below hAB (Nat.le_refl _))
  clear c0 c1 c2 c3 c4 f0 f2 f3 f4 hA0 hb1 hsz0 hsz1 HH HG
  go_loopw [5] (fun i wr => ∃ k : Nat, k ≤ hdrs.length ∧ i = .int .i64 k ∧ Below wb.heap.size wb wr) (fun i _ => hdrs.length - (intOf i).toNat)
  case atStart => exact ⟨0, Nat.zero_le _, rfl, Below.refl _ _⟩
  case round =>
    obtain ⟨k, hk, rfl, hb⟩ := hrel
    have d1 := (hb.cell (p := ⟨w.heap.size, 1, none⟩) (by show w.heap.size < _; omega)).trans g1
    have d2 := (hb.cell (p := ⟨w.heap.size + 1, 1, none⟩) hzb).trans f1
    clear g1 f1
    rcases Nat.lt_or_ge k hdrs.length with hlt | hge
    · have hx := List.getElem?_eq_getElem hlt
      generalize hdrs[k] = x at hx
      obtain ⟨A', cap', hva, _, _, hac⟩ := (HHb.out.below hb (Nat.le_refl _)).at
      injection hva with e1 e2 e3
      subst e1 e3
      clear e2
      obtain ⟨b, o, rfl, hbl, e0, e1⟩ := hac k x hx
      obtain ⟨A3, cap3, hva3, _, _, hac3⟩ := (HGb.out.below hb (Nat.le_refl _)).at
      injection hva3 with e5 e6 e7
      subst e5 e7
      clear e6
      obtain ⟨b2, o2, rfl, hbl2, e3, e4⟩ := hac3 k x hx
      clear hx hac hac3
      have k1 : (k : Int) < hdrs.length := by omega
      have k2 : (0 : Int) ≤ k := by omega
      go_wp2
      go_quiet (fail)
      go_wp2
      go_roundw
      case rel => exact ⟨k + 1, by omega, by go_num, below_draws hb _⟩
      case measure => simp [intOf]; omega
    · obtain rfl : k = hdrs.length := by omega
      clear hge hk
      go_wp2
      go_ret
      exact ⟨rfl, hAB.trans (hb.mono hAB.size)⟩
end Go.Proofs.YtlkbfehdiopkbaaGreatDoor
