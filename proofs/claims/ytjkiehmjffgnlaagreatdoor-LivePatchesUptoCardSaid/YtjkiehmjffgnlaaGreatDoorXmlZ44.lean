import Derived.Test.YtjkiehmjffgnlaaGreatDoorXmlZ42
import Derived.Test.YtjkiehmjffgnlaaGreatDoorXmlZ26
import Derived.Deep.RegionHeld3
namespace Go.Proofs.YtjkiehmjffgnlaaGreatDoor
set_option linter.unusedVariables false
set_option linter.unusedSimpArgs false
open Go.RowKit

end Go.Proofs.YtjkiehmjffgnlaaGreatDoor
namespace Go.Proofs.YtjkiehmjffgnlaaGreatDoor
set_option linter.unusedVariables false
set_option linter.unusedSimpArgs false
open Go.RowKit

set_option maxHeartbeats 32000000 in
set_option maxRecDepth 100000 in
set_option linter.unusedSimpArgs false in
theorem msame_any (l : List ToldT) (A B : Option Addr) (c d : Nat) (w : World) (h1 : ToldsP anyB w (.slice A l.length c) l) (h2 : ToldsP anyB w (.slice B l.length d) l) : Calls Tryz.prog 30 #[.slice A l.length c, .slice B l.length d] w (Ret (.bool true) w) := by
  obtain ⟨-, hac, ham, hak⟩ := told_at h1.1
  obtain ⟨-, hbc, hbm, hbk⟩ := told_at h2.1
  unfold maxLen at ham hbm
  have HAk := Lib.hid hak
  have HBk := Lib.hid hbk
  obtain ⟨E, hEE⟩ : ∃ E, E = Ret (.bool true) w := ⟨_, rfl⟩
  rw [← hEE]
  have HEE := Lib.hid hEE
  clear hEE h1 h2 hak hbk
  go_enter Tryz.func30, Tryz.ntmps30
  go_wp2_with fail
  go_loopg [5] l.length (fun gk v5 wr => ∃ i : Nat, i + gk = l.length ∧ v5 = .int .i64 i ∧ Hid (Below w.heap.size w wr))
  case atStart => exact ⟨0, by omega, rfl, Lib.hid (Below.refl _ _)⟩
  case round =>
    obtain ⟨i, hig, rfl, HBr⟩ := hrel
    rcases Nat.lt_or_ge i l.length with hlt | hge
    case inr =>
      have hie : i = l.length := by omega
      subst hie
      go_wp2
      rw [HEE.out]
      exact ⟨rfl, HBr.out⟩
    have i1 : (i : Int) < l.length := by omega
    have i2 : (0 : Int) ≤ i := by omega
    obtain ⟨t, hx⟩ : ∃ x, l[i]? = some x := ⟨_, List.getElem?_eq_getElem hlt⟩
    obtain ⟨b1, o1, pA, pc, rfl, hbl1, e0, e1, hp1⟩ := HAk.out i t hx
    obtain ⟨b2, o2, pB, pd, rfl, hbl2, f0, f1, hp2⟩ := HBk.out i t hx
    have d0 := (HBr.out.cell (p := ⟨b1, o1 + i * 2, none⟩) hbl1).trans e0
    have d1 := (HBr.out.cell (p := ⟨b1, o1 + i * 2 + 1, none⟩) hbl1).trans e1
    have g0 := (HBr.out.cell (p := ⟨b2, o2 + i * 2, none⟩) hbl2).trans f0
    have g1 := (HBr.out.cell (p := ⟨b2, o2 + i * 2 + 1, none⟩) hbl2).trans f1
    obtain ⟨-, hpc, hpm, hpk⟩ := part_at hp1.1
    obtain ⟨-, hpd, hpn, hpl⟩ := part_at hp2.1
    unfold maxLen at hpm hpn
    have HPk := Lib.hid hpk
    have HPl := Lib.hid hpl
    have HE1 := Lib.hid e1
    have HF1 := Lib.hid f1
    obtain ⟨href, parts⟩ := t
    simp only at d0 d1 g0 g1 hpc hpd HPk HPl HE1 HF1
    have HBD := Lib.hid (fun k => below_draws HBr.out k)
    obtain ⟨wo, hwo⟩ : ∃ wo, wo = wr := ⟨_, rfl⟩
    subst hwo
    clear e0 e1 f0 f1 hx hp1 hp2 hpk hpl
    go_wp2_with fail
    go_quiet (fail)
    clear d0 d1 g0 g1
    go_wp2_with fail
    go_loopg [6] parts.length (fun gk v6 wr => ∃ k : Nat, k + gk = parts.length ∧ v6 = .int .i64 k ∧ Hid (Below w.heap.size w wr))
    case atStart => exact ⟨0, by omega, rfl, Lib.hid (HBD.out _)⟩
    case round =>
      obtain ⟨k, hkg, rfl, HBr2⟩ := hrel
      clear HBD HBr
      have d1 := (HBr2.out.cell (p := ⟨b1, o1 + i * 2 + 1, none⟩) hbl1).trans HE1.out
      have g1 := (HBr2.out.cell (p := ⟨b2, o2 + i * 2 + 1, none⟩) hbl2).trans HF1.out
      rcases Nat.lt_or_ge k parts.length with hlt2 | hge2
      case inr =>
        have hie : k = parts.length := by omega
        subst hie
        go_wp2
        go_roundg (l.length - (i + 1))
        case measure => omega
        case rel => exact ⟨i + 1, by omega, by go_num, HBr2⟩
      have k1 : (k : Int) < parts.length := by omega
      have k2 : (0 : Int) ≤ k := by omega
      obtain ⟨p, hx2⟩ : ∃ x, parts[k]? = some x := ⟨_, List.getElem?_eq_getElem hlt2⟩
      obtain ⟨b3, o3, kA, kc, rfl, hbl3, e0, e1, hk1⟩ := HPk.out k p hx2
      obtain ⟨b4, o4, kB, kd, rfl, hbl4, f0, f1, hk2⟩ := HPl.out k p hx2
      have s0 := (HBr2.out.cell (p := ⟨b3, o3 + k * 2, none⟩) hbl3).trans e0
      have s1 := (HBr2.out.cell (p := ⟨b3, o3 + k * 2 + 1, none⟩) hbl3).trans e1
      have r0 := (HBr2.out.cell (p := ⟨b4, o4 + k * 2, none⟩) hbl4).trans f0
      have r1 := (HBr2.out.cell (p := ⟨b4, o4 + k * 2 + 1, none⟩) hbl4).trans f1
      obtain ⟨-, hkc, hkm, hkn⟩ := kid_at hk1
      obtain ⟨-, hkd, hkm2, hkn2⟩ := kid_at hk2
      unfold maxLen at hkm hkm2
      have HKn := Lib.hid hkn
      have HKn2 := Lib.hid hkn2
      obtain ⟨st, props⟩ := p
      simp only at s0 s1 r0 r1 hkc hkd HKn HKn2
      obtain ⟨wq, hwq⟩ : ∃ wq, wq = wr := ⟨_, rfl⟩
      subst hwq
      clear e0 e1 f0 f1 hx2 hk1 hk2 hkn hkn2
      go_upto_region 11 with (fail)
      go_cut [7, 8] (fun v7 v8 wc => ∃ q7 q8 : Nat, v7 = .pointer (some ⟨q7, 0, none⟩) ∧ v8 = .pointer (some ⟨q8, 0, none⟩) ∧ Hid (wc.heap[q7]? = some (.cells #[.int .i64 st, .slice kA props.length kc] 43 (0, 0))) ∧ Hid (wc.heap[q8]? = some (.cells #[.int .i64 st, .slice kB props.length kd] 43 (0, 0))) ∧ Hid (Below wq.heap.size wq wc))
      case first =>
        have hS0 : wq.drew.cell? ⟨b1, o1 + i * 2 + 1, none⟩ = some (.slice (some ⟨b3, o3, none⟩) parts.length pc) ∧ wq.drew.cell? ⟨b2, o2 + i * 2 + 1, none⟩ = some (.slice (some ⟨b4, o4, none⟩) parts.length pd) ∧ wq.drew.cell? ⟨b3, o3 + k * 2, none⟩ = some (.int .i64 st) ∧ wq.drew.cell? ⟨b3, o3 + k * 2 + 1, none⟩ = some (.slice kA props.length kc) ∧ wq.drew.cell? ⟨b4, o4 + k * 2, none⟩ = some (.int .i64 st) ∧ wq.drew.cell? ⟨b4, o4 + k * 2 + 1, none⟩ = some (.slice kB props.length kd) := ⟨d1, g1, s0, s1, r0, r1⟩
        have Hk := Lib.hid (fun (wx : World) (ob : Obj) (h : wx.cell? ⟨b1, o1 + i * 2 + 1, none⟩ = some (.slice (some ⟨b3, o3, none⟩) parts.length pc) ∧ wx.cell? ⟨b2, o2 + i * 2 + 1, none⟩ = some (.slice (some ⟨b4, o4, none⟩) parts.length pd) ∧ wx.cell? ⟨b3, o3 + k * 2, none⟩ = some (.int .i64 st) ∧ wx.cell? ⟨b3, o3 + k * 2 + 1, none⟩ = some (.slice kA props.length kc) ∧ wx.cell? ⟨b4, o4 + k * 2, none⟩ = some (.int .i64 st) ∧ wx.cell? ⟨b4, o4 + k * 2 + 1, none⟩ = some (.slice kB props.length kd)) => (⟨cell_alloc h.1 ob, cell_alloc h.2.1 ob, cell_alloc h.2.2.1 ob, cell_alloc h.2.2.2.1 ob, cell_alloc h.2.2.2.2.1 ob, cell_alloc h.2.2.2.2.2 ob⟩ : (wx.alloc ob).cell? ⟨b1, o1 + i * 2 + 1, none⟩ = some (.slice (some ⟨b3, o3, none⟩) parts.length pc) ∧ (wx.alloc ob).cell? ⟨b2, o2 + i * 2 + 1, none⟩ = some (.slice (some ⟨b4, o4, none⟩) parts.length pd) ∧ (wx.alloc ob).cell? ⟨b3, o3 + k * 2, none⟩ = some (.int .i64 st) ∧ (wx.alloc ob).cell? ⟨b3, o3 + k * 2 + 1, none⟩ = some (.slice kA props.length kc) ∧ (wx.alloc ob).cell? ⟨b4, o4 + k * 2, none⟩ = some (.int .i64 st) ∧ (wx.alloc ob).cell? ⟨b4, o4 + k * 2 + 1, none⟩ = some (.slice kB props.length kd)))
        have Hk2 := Lib.hid (fun (wx : World) (ob : Obj) (h : wx.drew.cell? ⟨b1, o1 + i * 2 + 1, none⟩ = some (.slice (some ⟨b3, o3, none⟩) parts.length pc) ∧ wx.drew.cell? ⟨b2, o2 + i * 2 + 1, none⟩ = some (.slice (some ⟨b4, o4, none⟩) parts.length pd) ∧ wx.drew.cell? ⟨b3, o3 + k * 2, none⟩ = some (.int .i64 st) ∧ wx.drew.cell? ⟨b3, o3 + k * 2 + 1, none⟩ = some (.slice kA props.length kc) ∧ wx.drew.cell? ⟨b4, o4 + k * 2, none⟩ = some (.int .i64 st) ∧ wx.drew.cell? ⟨b4, o4 + k * 2 + 1, none⟩ = some (.slice kB props.length kd)) => (⟨cell_alloc (w := wx) h.1 ob, cell_alloc (w := wx) h.2.1 ob, cell_alloc (w := wx) h.2.2.1 ob, cell_alloc (w := wx) h.2.2.2.1 ob, cell_alloc (w := wx) h.2.2.2.2.1 ob, cell_alloc (w := wx) h.2.2.2.2.2 ob⟩ : (wx.alloc ob).drew.cell? ⟨b1, o1 + i * 2 + 1, none⟩ = some (.slice (some ⟨b3, o3, none⟩) parts.length pc) ∧ (wx.alloc ob).drew.cell? ⟨b2, o2 + i * 2 + 1, none⟩ = some (.slice (some ⟨b4, o4, none⟩) parts.length pd) ∧ (wx.alloc ob).drew.cell? ⟨b3, o3 + k * 2, none⟩ = some (.int .i64 st) ∧ (wx.alloc ob).drew.cell? ⟨b3, o3 + k * 2 + 1, none⟩ = some (.slice kA props.length kc) ∧ (wx.alloc ob).drew.cell? ⟨b4, o4 + k * 2, none⟩ = some (.int .i64 st) ∧ (wx.alloc ob).drew.cell? ⟨b4, o4 + k * 2 + 1, none⟩ = some (.slice kB props.length kd)))
        have T1 := Lib.hid (two_alloc wq (.cells #[.int .i64 st, .slice kA props.length kc] 43 (0, 0)) (.cells #[.int .i64 st, .slice kB props.length kd] 43 (0, 0)))
        have T2 := Lib.hid (two_alloc wq (.cells #[.int .i64 st, .slice kB props.length kd] 43 (0, 0)) (.cells #[.int .i64 st, .slice kA props.length kc] 43 (0, 0)))
        clear d1 g1 s0 s1 r0 r1 HAk HBk HKn HKn2 HPk HPl HBr2
        go_region_held3 (fun wx => wx.cell? ⟨b1, o1 + i * 2 + 1, none⟩ = some (.slice (some ⟨b3, o3, none⟩) parts.length pc) ∧ wx.cell? ⟨b2, o2 + i * 2 + 1, none⟩ = some (.slice (some ⟨b4, o4, none⟩) parts.length pd) ∧ wx.cell? ⟨b3, o3 + k * 2, none⟩ = some (.int .i64 st) ∧ wx.cell? ⟨b3, o3 + k * 2 + 1, none⟩ = some (.slice kA props.length kc) ∧ wx.cell? ⟨b4, o4 + k * 2, none⟩ = some (.int .i64 st) ∧ wx.cell? ⟨b4, o4 + k * 2 + 1, none⟩ = some (.slice kB props.length kd))
          (repeat (first | exact hS0 | assumption | refine Hk.out _ _ ?_ | refine Hk2.out _ _ ?_))
          (fail)
        all_goals
          go_wp2
          go_meet
          first
            | exact ⟨_, _, rfl, rfl, Lib.hid T1.out.2.1, Lib.hid T1.out.2.2, Lib.hid (below_draws T1.out.1 1)⟩
            | exact ⟨_, _, rfl, rfl, Lib.hid T2.out.2.2, Lib.hid T2.out.2.1, Lib.hid (below_draws T2.out.1 1)⟩
      case rest =>
      obtain ⟨q7, q8, rfl, rfl, HQ7, HQ8, HBc⟩ := hcut
      clear d1 g1 s0 s1 r0 r1
      have HBw := Lib.hid (HBr2.out.trans (HBc.out.mono HBr2.out.size))
      obtain ⟨wz, hwz⟩ : ∃ wz, wz = wc := ⟨_, rfl⟩
      subst hwz
      have x0 := xat HQ7.out 0
      have x1 := xat HQ7.out 1
      have y0 := xat HQ8.out 0
      have y1 := xat HQ8.out 1
      simp only [List.getElem?_toArray, List.getElem?_cons_zero, List.getElem?_cons_succ] at x0 x1 y0 y1
      go_wp2_with fail
      clear x0 x1 y0 y1
      go_loopg [9] props.length (fun gk v9 wr => ∃ j : Nat, j + gk = props.length ∧ v9 = .int .i64 j ∧ Hid (Below wz.heap.size wz wr))
      case atStart => exact ⟨0, by omega, rfl, Lib.hid (Below.refl _ _)⟩
      case round =>
        obtain ⟨j, hjg, rfl, HBr3⟩ := hrel
        have hq7 := (HBr3.out.block _ (xlt HQ7.out)).trans HQ7.out
        have hq8 := (HBr3.out.block _ (xlt HQ8.out)).trans HQ8.out
        have x1 := xat hq7 1
        have y1 := xat hq8 1
        simp only [List.getElem?_toArray, List.getElem?_cons_zero, List.getElem?_cons_succ] at x1 y1
        clear hq7 hq8
        have HBw3 := Lib.hid (HBw.out.trans (HBr3.out.mono HBw.out.size))
        rcases Nat.lt_or_ge j props.length with hlt3 | hge3
        case inr =>
          have hie : j = props.length := by omega
          subst hie
          go_wp2
          go_roundg (parts.length - (k + 1))
          case measure => omega
          case rel => exact ⟨k + 1, by omega, by go_num, HBw3⟩
        have j1 : (j : Int) < props.length := by omega
        have j2 : (0 : Int) ≤ j := by omega
        obtain ⟨x, hx3⟩ : ∃ x, props[j]? = some x := ⟨_, List.getElem?_eq_getElem hlt3⟩
        obtain ⟨b5, o5, aA5, ac5, kA5, kc5, rfl, hbl5, u0, u1, u2, u3, u4, ha5, hk5⟩ := HKn.out j x hx3
        obtain ⟨b6, o6, aA6, ac6, kA6, kc6, rfl, hbl6, v0, v1, v2, v3, v4, ha6, hk6⟩ := HKn2.out j x hx3
        have m0 := (HBw3.out.cell (p := ⟨b5, o5 + j * 5, none⟩) hbl5).trans u0
        have m1 := (HBw3.out.cell (p := ⟨b5, o5 + j * 5 + 1, none⟩) hbl5).trans u1
        have m2 := (HBw3.out.cell (p := ⟨b5, o5 + j * 5 + 2, none⟩) hbl5).trans u2
        have m3 := (HBw3.out.cell (p := ⟨b5, o5 + j * 5 + 3, none⟩) hbl5).trans u3
        have m4 := (HBw3.out.cell (p := ⟨b5, o5 + j * 5 + 4, none⟩) hbl5).trans u4
        have n0 := (HBw3.out.cell (p := ⟨b6, o6 + j * 5, none⟩) hbl6).trans v0
        have n1 := (HBw3.out.cell (p := ⟨b6, o6 + j * 5 + 1, none⟩) hbl6).trans v1
        have n2 := (HBw3.out.cell (p := ⟨b6, o6 + j * 5 + 2, none⟩) hbl6).trans v2
        have n3 := (HBw3.out.cell (p := ⟨b6, o6 + j * 5 + 3, none⟩) hbl6).trans v3
        have n4 := (HBw3.out.cell (p := ⟨b6, o6 + j * 5 + 4, none⟩) hbl6).trans v4
        have HSm := Lib.hid (xsame_any (node_of ha5 hk5) _ (node_of ha6 hk6) _ (below_draws HBw3.out 1))
        have HBD3 := Lib.hid (below_draws HBr3.out 1)
        clear u0 u1 u2 u3 u4 v0 v1 v2 v3 v4 ha5 hk5 ha6 hk6 hx3
        go_upto_region 17 with (fail)
        first | go_region_with (go_at_call 29; refine HSm.out.mono ?_; rintro e w5 ⟨rfl, hb5⟩) | fail
        all_goals
          go_wp2
          go_roundg (props.length - (j + 1))
          case measure => omega
          case rel => exact ⟨j + 1, by omega, by go_num, Lib.hid (HBD3.out.trans (hb5.mono HBD3.out.size))⟩
end Go.Proofs.YtjkiehmjffgnlaaGreatDoor
