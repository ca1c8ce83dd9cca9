/-
  The walk of ReplyWrites: the law returns true. Conditions: what the listed variables hold; the headers' form is shorter than a hundred million bytes.
-/
import Derived.Test.YtlkbfehdiopkbaaGreatDoorRepN
namespace Go.Proofs.YtlkbfehdiopkbaaGreatDoor
open Go.RowKit

theorem keep5 {wa wx wy : World} {b : Nat} {a0 a1 a2 a3 a4 : Value} (h : wx.cell? ⟨b, 0, none⟩ = some a0 ∧ wx.cell? ⟨b, 1, none⟩ = some a1 ∧ wx.cell? ⟨b, 2, none⟩ = some a2 ∧ wx.cell? ⟨b, 3, none⟩ = some a3 ∧ wx.cell? ⟨b, 4, none⟩ = some a4 ∧ Below wa.heap.size wa wx) (hb : Below wx.heap.size wx wy) :
    wy.cell? ⟨b, 0, none⟩ = some a0 ∧ wy.cell? ⟨b, 1, none⟩ = some a1 ∧ wy.cell? ⟨b, 2, none⟩ = some a2 ∧ wy.cell? ⟨b, 3, none⟩ = some a3 ∧ wy.cell? ⟨b, 4, none⟩ = some a4 ∧ Below wa.heap.size wa wy :=
  ⟨(hb.cell (World.block_lt_of_cell? wx _ h.1)).trans h.1, (hb.cell (World.block_lt_of_cell? wx _ h.2.1)).trans h.2.1, (hb.cell (World.block_lt_of_cell? wx _ h.2.2.1)).trans h.2.2.1,
    (hb.cell (World.block_lt_of_cell? wx _ h.2.2.2.1)).trans h.2.2.2.1, (hb.cell (World.block_lt_of_cell? wx _ h.2.2.2.2.1)).trans h.2.2.2.2.1, h.2.2.2.2.2.trans (hb.mono h.2.2.2.2.2.size)⟩
set_option maxHeartbeats 2000000 in
set_option maxRecDepth 100000 in
set_option linter.unusedSimpArgs false in
theorem law_writes (r : RespT) (hv : Value) (w : World) (hh : Hdrs w hv r.hdrs) (hl : (r.hdrs.flatMap hdrF).length ≤ 100000000) (hE : Env w) :
    Calls Tryz.prog 8 #[respV r hv] w (Ret (.bool true) w) := by
  have HH := Lib.hid hh
  obtain ⟨A, cap, rfl, hcap, hcm, -⟩ := hh
  have HWr := Lib.hid (fun w' (h : Below w.heap.size w w') => write_any r (.slice A r.hdrs.length cap) w' (HH.out.below h (Nat.le_refl _)) (by omega) (hE.below h))
  have HWr2 := Lib.hid (fun w' (h : Below w.heap.size w w') => rwrite_any r (.slice A r.hdrs.length cap) w' (HH.out.below h (Nat.le_refl _)) (by omega))
  have HGd := Lib.hid (fun w' (h : Below w.heap.size w w') => good_any r (.slice A r.hdrs.length cap) w' (HH.out.below h (Nat.le_refl _)) (hsmall_of (Nat.le_trans hl (by omega))) (hE.below h))
  have HGd2 := Lib.hid (fun w' (h : Below w.heap.size w w') => rgood_any r (.slice A r.hdrs.length cap) w' (HH.out.below h (Nat.le_refl _)) (hsmall_of (Nat.le_trans hl (by omega))))
  have HRs := Lib.hid (fun w => reason_any r.status w)
  have HRs2 := Lib.hid (fun w => rreason_any r.status w)
  have HFx := Lib.hid (fun w' (h : Below w.heap.size w w') => fixed12_any w' (hE.below h))
  generalize writeS r = WS at *
  generalize goodR r = G at *
  clear hcap hcm hl
  obtain ⟨st, hdrs, body, hd, cl⟩ := r
  unfold respV at *
  simp only at *
  generalize reasonS st = R at *
  obtain ⟨c0, c1, c2, c3, c4⟩ := cell5 w (.int .i64 st) (.slice A hdrs.length cap) (.string ⟨body.toArray⟩) (.bool hd) (.bool cl) 49
  have hA : Below w.heap.size w (w.alloc (.cells #[.int .i64 st, .slice A hdrs.length cap, .string ⟨body.toArray⟩, .bool hd, .bool cl] 49)) := (Below.refl _ w).alloc (Nat.le_refl _) _
  go_enter Tryz.func8, Tryz.ntmps8
  go_wp2_with fail
  generalize (w.alloc (.cells #[.int .i64 st, .slice A hdrs.length cap, .string ⟨body.toArray⟩, .bool hd, .bool cl] 49)) = wa at *
  refine (HFx.out wa hA).mono ?_
  rintro e w1 ⟨rfl, hb1⟩
  obtain ⟨d0, d1, d2, d3, d4, hw1⟩ := keep5 ⟨c0, c1, c2, c3, c4, Below.refl _ wa⟩ hb1
  clear c0 c1 c2 c3 c4 hb1 HFx
  go_wp2_with fail
  refine (HWr.out w1 (hA.trans (hw1.mono hA.size))).mono ?_
  rintro e w2 ⟨rfl, hb2⟩
  obtain ⟨c0, c1, c2, c3, c4, hw2⟩ := keep5 ⟨d0, d1, d2, d3, d4, hw1⟩ hb2
  clear d0 d1 d2 d3 d4 hb2 HWr hw1
  have Hk := Lib.hid (fun (wx wy : World) h (hb : Below wx.heap.size wx wy) => @keep5 wa wx wy w.heap.size (.int .i64 st) (.slice A hdrs.length cap) (.string ⟨body.toArray⟩) (.bool hd) (.bool cl) h hb)
  have HB := Lib.hid (fun (wx : World) (h : wx.cell? ⟨w.heap.size, 0, none⟩ = some (.int .i64 st) ∧ wx.cell? ⟨w.heap.size, 1, none⟩ = some (.slice A hdrs.length cap) ∧ wx.cell? ⟨w.heap.size, 2, none⟩ = some (.string ⟨body.toArray⟩) ∧ wx.cell? ⟨w.heap.size, 3, none⟩ = some (.bool hd) ∧ wx.cell? ⟨w.heap.size, 4, none⟩ = some (.bool cl) ∧ Below wa.heap.size wa wx) => hA.trans (h.2.2.2.2.2.mono hA.size))
  rcases WS with _ | F
  all_goals
    unfold wV at *
    simp only at *
    go_wp2_with fail
    refine (HWr2.out w2 (hA.trans (hw2.mono hA.size))).mono ?_
    rintro e w3 ⟨rfl, hb3⟩
    obtain ⟨d0, d1, d2, d3, d4, hw3⟩ := keep5 ⟨c0, c1, c2, c3, c4, hw2⟩ hb3
    clear c0 c1 c2 c3 c4 hb3 HWr2 hw2
    go_wp2_with fail
    have hS0 : w3.drew.cell? ⟨w.heap.size, 0, none⟩ = some (.int .i64 st) ∧ w3.drew.cell? ⟨w.heap.size, 1, none⟩ = some (.slice A hdrs.length cap) ∧ w3.drew.cell? ⟨w.heap.size, 2, none⟩ = some (.string ⟨body.toArray⟩) ∧ w3.drew.cell? ⟨w.heap.size, 3, none⟩ = some (.bool hd) ∧ w3.drew.cell? ⟨w.heap.size, 4, none⟩ = some (.bool cl) ∧ Below wa.heap.size wa w3.drew := ⟨d0, d1, d2, d3, d4, below_draws hw3 1⟩
    clear d0 d1 d2 d3 d4 hw3
    go_region_held3 (fun wx => wx.cell? ⟨w.heap.size, 0, none⟩ = some (.int .i64 st) ∧ wx.cell? ⟨w.heap.size, 1, none⟩ = some (.slice A hdrs.length cap) ∧ wx.cell? ⟨w.heap.size, 2, none⟩ = some (.string ⟨body.toArray⟩) ∧ wx.cell? ⟨w.heap.size, 3, none⟩ = some (.bool hd) ∧ wx.cell? ⟨w.heap.size, 4, none⟩ = some (.bool cl) ∧ Below wa.heap.size wa wx)
      (first | exact hS0 | assumption | exact Hk.out _ _ (by assumption) (by assumption))
      (first
        | (go_at_call 23; refine (HGd.out _ (HB.out _ (by first | exact hS0 | assumption))).mono ?_; rintro e w4 ⟨rfl, hb4⟩)
        | (go_at_call 24; refine (HGd2.out _ (HB.out _ (by first | exact hS0 | assumption))).mono ?_; rintro e w5 ⟨rfl, hb5⟩)
        | (go_at_call 25; refine (HRs.out _).mono ?_; rintro e w6 ⟨rfl, rfl⟩)
        | (go_at_call 26; refine (HRs2.out _).mono ?_; rintro e w7 ⟨rfl, rfl⟩))
    go_wp2
    go_ret
    exact ⟨rfl, HB.out _ (by assumption)⟩
end Go.Proofs.YtlkbfehdiopkbaaGreatDoor
