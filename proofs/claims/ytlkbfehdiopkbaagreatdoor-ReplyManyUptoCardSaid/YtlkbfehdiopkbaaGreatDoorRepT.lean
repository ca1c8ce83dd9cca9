/-
  The walk of ReplyMany: the law returns true. Conditions: what the listed variables hold; the forms of the good responses are shorter than a hundred million bytes together.
-/
import Derived.Test.YtlkbfehdiopkbaaGreatDoorRepS
namespace Go.Proofs.YtlkbfehdiopkbaaGreatDoor
open Go.RowKit

set_option maxHeartbeats 4000000 in
set_option maxRecDepth 100000 in
set_option linter.unusedSimpArgs false in
theorem law_many (lv : Value) (l : List RespT) (w : World) (hl : Tab 5 RespR' w lv l) (hsz : l.length ≤ 40 → fsum l ≤ 50000000) (hE : Env w) :
    Calls Tryz.prog 11 #[lv] w (Ret (.bool true) w) := by
  have HL := Lib.hid hl
  obtain ⟨A, cap, rfl, hcap, hcm, -⟩ := hl
  unfold maxLen at hcm
  have HFx := Lib.hid (fun w' (h : Below w.heap.size w w') => fixed12_any w' (hE.below h))
  by_cases h40 : l.length ≤ 40
  case neg =>
    have h41 : (40 : Int) < l.length := by omega
    go_enter Tryz.func11, Tryz.ntmps11
    go_wp2_with fail
    refine (HFx.out _ (Below.refl _ w)).mono ?_
    rintro e w1 ⟨rfl, hb1⟩
    go_wp2_with fail
    refine (HFx.out _ hb1).mono ?_
    rintro e w2 ⟨rfl, hb2⟩
    go_wp2
    go_ret
    exact ⟨rfl, hb1.trans (hb2.mono hb1.size)⟩
  have hsm := hsz h40
  clear hsz
  have h41 : (l.length : Int) ≤ 40 := by omega
  have h42 : decide ((40 : Int) < l.length) = false := decide_eq_false (by omega)
  have HWr := Lib.hid (fun w' (h : Below w.heap.size w w') (r : RespT) (hv : Value) (hh : Hdrs w hv r.hdrs) (hle : (r.hdrs.flatMap hdrF).length ≤ 1000000000) => write_any r hv w' (hh.below h (Nat.le_refl _)) hle (hE.below h))
  have HRd := Lib.hid (fun w' (h : Below w.heap.size w w') (s : List UInt8) (hs : s.length ≤ 100000000) (head : Bool) => read_fresh s head w' hs (hE.below h))
  obtain ⟨ALL, hALL⟩ : ∃ ALL, l.filter goodR = ALL := ⟨_, rfl⟩
  go_enter Tryz.func11, Tryz.ntmps11
  go_wp2_with fail
  refine (HFx.out _ (Below.refl _ w)).mono ?_
  rintro e w1 ⟨rfl, hb1⟩
  clear HFx
  go_wp2_with fail
  go_loopw [3, 4, 5] (fun sv gv i wr => ∃ (k : Nat) (acc : List UInt8) (goods : List RespT) (rows : List (List Value)), k ≤ l.length ∧ i = .int .i64 k ∧ sv = .string ⟨acc.toArray⟩ ∧ Hid (goods ++ (l.drop k).filter goodR = ALL) ∧ Hid (acc = goods.flatMap formR) ∧ OwnT 49 5 w.heap.size rows gv wr ∧ GR w goods 0 rows ∧ Below w.heap.size w wr ∧ acc.length + fsum (l.drop k) ≤ 50000000 ∧ goods.length ≤ k ∧ (∀ g ∈ goods, goodR g = true)) (fun _ _ i _ => l.length - (intOf i).toNat)
  case atStart => exact ⟨0, [], [], [], Nat.zero_le _, rfl, rfl, hALL, rfl, OwnT.nil _ _ _ _, GR.nil w, hb1, by simpa using hsm, Nat.zero_le _, fun g hg => by cases hg⟩
  case round =>
    obtain ⟨k, acc, goods, rows, hk, rfl, rfl, HK, HA, ho, hg, hbw, hle, hgk, hgd⟩ := hrel
    clear hb1 hALL
    have HG := Lib.hid hg
    have HGd := Lib.hid hgd
    obtain ⟨A2, cap2, hv2⟩ := ownT_shape ho
    rw [hg.1] at hv2
    subst hv2
    have HO := Lib.hid ho
    clear ho hg hgd
    rcases hd : l.drop k with _ | ⟨r, q⟩
    · have hk2 : k = l.length := by have := drop_nil hd; omega
      rw [hd] at HK
      obtain rfl : goods ++ [] = ALL := HK.out
      clear hd HK
      subst hk2
      simp only [List.append_nil] at *
      have hle2 : acc.length ≤ 50000000 := by omega
      clear hle
      have HA0 := Lib.hid (show acc = (goods.drop 0).flatMap formR from HA.out)
      clear HWr HL HA
      go_wp2_with fail
      go_loopw [3, 8] (fun sv i wx => ∃ (j : Nat) (acc : List UInt8) (rows : List (List Value)), j ≤ goods.length ∧ i = .int .i64 j ∧ sv = .string ⟨acc.toArray⟩ ∧ Hid (acc = (goods.drop j).flatMap formR) ∧ OwnT 49 5 w.heap.size rows (.slice A2 goods.length cap2) wx ∧ GR w goods j rows ∧ Below w.heap.size w wx ∧ acc.length ≤ 50000000) (fun _ i _ => goods.length - (intOf i).toNat)
      case atStart => exact ⟨0, acc, rows, Nat.zero_le _, rfl, rfl, HA0, HO.out, HG.out, hbw, hle2⟩
      case round =>
        obtain ⟨j, acc, rows, hj, rfl, rfl, HA, ho, hg, hbx, hle⟩ := hrel
        clear hbw hle2 HO HG HA0
        have HO := Lib.hid ho
        have HG := Lib.hid hg
        clear ho hg
        rcases hd : goods.drop j with _ | ⟨r, q⟩
        · have hj2 : j = goods.length := by have := drop_nil hd; omega
          rw [hd] at HA
          obtain rfl : acc = [] := HA.out
          clear hd HA
          subst hj2
          go_wp2
          go_ret
          exact ⟨rfl, hbx⟩
        · obtain ⟨hlt, hx, hq⟩ := drop_consA hd
          have Hq := Lib.hid hq
          rw [hd, List.flatMap_cons] at HA
          obtain ⟨hv, hrow, hh⟩ := HG.out.2 j r hx (Nat.le_refl _)
          have Hh := Lib.hid hh
          obtain ⟨A3, cap3, rfl, -, -, -⟩ := hh
          have hgood := HGd.out r (List.mem_of_getElem? hx)
          obtain ⟨gb, cap', hv', hgb, hgl⟩ := HO.out.form (by rw [HG.out.1]; omega)
          injection hv' with e1 e2 e3
          subst e1 e3
          clear e2
          have hF1 := formR_pos r
          have HBk := Lib.hid (read_back stS stS_codes r hgood (q.flatMap formR))
          have hlen : (formR r).length ≤ acc.length := by rw [HA.out, List.length_append]; omega
          have hdrop : acc.drop (formR r).length = q.flatMap formR := by rw [HA.out, List.drop_left]
          have HR := Lib.hid (HRd.out wr hbx acc (by omega) r.head)
          rw [show readR stS acc r.head = some ({ r with body := if r.head then [] else r.body }, (formR r).length) by rw [HA.out]; exact HBk.out] at HR
          have Hrow := Lib.hid hrow
          have Hdrop := Lib.hid hdrop
          clear hd hq hx hrow hdrop HBk HA hgood
          obtain ⟨st, hdrs, body, hd, cl⟩ := r
          generalize formR ⟨st, hdrs, body, hd, cl⟩ = F at *
          simp only at HR Hrow Hh
          have HO' := HO.out
          rw [← HG.out.1] at HO'
          have d0 := HO'.cell j _ Hrow.out 0 _ rfl
          have d1 := HO'.cell j _ Hrow.out 1 _ rfl
          have d2 := HO'.cell j _ Hrow.out 2 _ rfl
          have d3 := HO'.cell j _ Hrow.out 3 _ rfl
          have d4 := HO'.cell j _ Hrow.out 4 _ rfl
          have f2 := HO'.free (j * 5 + 2)
          simp only [Nat.add_zero] at d0
          have hji : (j : Int) < goods.length := by omega
          have j0 : (0 : Int) ≤ (j : Int) := by omega
          have k1 : decide ((F.length : Int) < 1) = false := decide_eq_false (by omega)
          have k2 : decide (acc.length < F.length) = false := decide_eq_false (by omega)
          have k3 : (F.length : Int) ≤ acc.length := by omega
          clear HO' HGd hsm hcap hcm
          cases hd
          · simp only [Bool.false_eq_true, if_false] at HR
            go_wp2_with fail
            refine HR.out.mono ?_
            rintro e w2 ⟨hb2, hv2, rfl, hh2, hfr⟩
            obtain ⟨A9, cap9, hvA, hx1, hx2, hx3⟩ := hh2
            simp only at hvA
            subst hvA
            have HI := Lib.hid (InB.mk' (st := st) (body := body) (hd := false) (cl := cl) (hbx.trans (hb2.mono hbx.size)) ⟨A9, cap9, rfl, hx1, hx2, hx3⟩)
            have HO2 := Lib.hid (HO.out.below hb2)
            have hgl2 : gb < w2.heap.size := Nat.lt_of_lt_of_le hgl hb2.size
            clear hx1 hx2 hx3 d0 d1 d2 d3 d4 f2 hb2 HR HO hgl
            have hbw : Below w2.heap.size w2 (w2.alloc (.cells #[.int .i64 st, .slice A9 hdrs.length cap9, .string ⟨body.toArray⟩, .bool false, .bool cl] 49)) := (Below.refl _ w2).alloc (Nat.le_refl _) _
            have HO3 := Lib.hid (HO2.out.below hbw)
            have d0 := HO3.out.cell j _ Hrow.out 0 _ rfl
            have d1 := HO3.out.cell j _ Hrow.out 1 _ rfl
            have d2 := HO3.out.cell j _ Hrow.out 2 _ rfl
            have d3 := HO3.out.cell j _ Hrow.out 3 _ rfl
            have d4 := HO3.out.cell j _ Hrow.out 4 _ rfl
            simp only [Nat.add_zero] at d0
            unfold respV
            go_wp2_with fail
            have hHa := HI.out.hh
            have hba := HI.out.bel
            obtain ⟨-, e0, e1, e2, e3, e4, -, -⟩ := HI.out
            generalize (w2.alloc (.cells #[.int .i64 st, .slice A9 hdrs.length cap9, .string ⟨body.toArray⟩, .bool false, .bool cl] 49)) = wa at *
            have hS0 : wa.drew.cell? ⟨w2.heap.size, 0, none⟩ = some (.int .i64 st) ∧ wa.drew.cell? ⟨w2.heap.size, 1, none⟩ = some (.slice A9 hdrs.length cap9) ∧ wa.drew.cell? ⟨w2.heap.size, 2, none⟩ = some (.string ⟨body.toArray⟩) ∧ wa.drew.cell? ⟨w2.heap.size, 3, none⟩ = some (.bool false) ∧ wa.drew.cell? ⟨w2.heap.size, 4, none⟩ = some (.bool cl) ∧ wa.drew.cell? ⟨gb, j * 5, none⟩ = some (.int .i64 st) ∧ wa.drew.cell? ⟨gb, j * 5 + 1, none⟩ = some (.slice A3 hdrs.length cap3) ∧ wa.drew.cell? ⟨gb, j * 5 + 2, none⟩ = some (.string ⟨body.toArray⟩) ∧ wa.drew.cell? ⟨gb, j * 5 + 3, none⟩ = some (.bool false) ∧ wa.drew.cell? ⟨gb, j * 5 + 4, none⟩ = some (.bool cl) ∧ Below wa.heap.size wa wa.drew := ⟨e0, e1, e2, e3, e4, d0, d1, d2, d3, d4, (Below.refl _ wa).drew⟩
            have HSm := Lib.hid (fun (wx : World) (hb : Below wa.heap.size wa wx) => rsame_any ⟨st, hdrs, body, false, cl⟩ (.slice A9 hdrs.length cap9) (.slice A3 hdrs.length cap3) wx (hHa.below hb (Nat.le_refl _)) (Hh.out.below (hba.trans (hb.mono hba.size)) (Nat.le_refl _)))
            unfold respV at HSm
            simp only at HSm
            have Hk := Lib.hid (fun (wx wy : World) h (hb : Below wx.heap.size wx wy) => @keep10 wa wx wy w2.heap.size gb j (.int .i64 st) (.slice A9 hdrs.length cap9) (.string ⟨body.toArray⟩) (.bool false) (.bool cl) (.int .i64 st) (.slice A3 hdrs.length cap3) (.string ⟨body.toArray⟩) (.bool false) (.bool cl) h hb)
            have HB := Lib.hid (fun (wx : World) (h : wx.cell? ⟨w2.heap.size, 0, none⟩ = some (.int .i64 st) ∧ wx.cell? ⟨w2.heap.size, 1, none⟩ = some (.slice A9 hdrs.length cap9) ∧ wx.cell? ⟨w2.heap.size, 2, none⟩ = some (.string ⟨body.toArray⟩) ∧ wx.cell? ⟨w2.heap.size, 3, none⟩ = some (.bool false) ∧ wx.cell? ⟨w2.heap.size, 4, none⟩ = some (.bool cl) ∧ wx.cell? ⟨gb, j * 5, none⟩ = some (.int .i64 st) ∧ wx.cell? ⟨gb, j * 5 + 1, none⟩ = some (.slice A3 hdrs.length cap3) ∧ wx.cell? ⟨gb, j * 5 + 2, none⟩ = some (.string ⟨body.toArray⟩) ∧ wx.cell? ⟨gb, j * 5 + 3, none⟩ = some (.bool false) ∧ wx.cell? ⟨gb, j * 5 + 4, none⟩ = some (.bool cl) ∧ Below wa.heap.size wa wx) => h.2.2.2.2.2.2.2.2.2.2)
            clear e0 e1 e2 e3 e4 d0 d1 d2 d3 d4 hHa HI
            go_region_held3 (fun wx => wx.cell? ⟨w2.heap.size, 0, none⟩ = some (.int .i64 st) ∧ wx.cell? ⟨w2.heap.size, 1, none⟩ = some (.slice A9 hdrs.length cap9) ∧ wx.cell? ⟨w2.heap.size, 2, none⟩ = some (.string ⟨body.toArray⟩) ∧ wx.cell? ⟨w2.heap.size, 3, none⟩ = some (.bool false) ∧ wx.cell? ⟨w2.heap.size, 4, none⟩ = some (.bool cl) ∧ wx.cell? ⟨gb, j * 5, none⟩ = some (.int .i64 st) ∧ wx.cell? ⟨gb, j * 5 + 1, none⟩ = some (.slice A3 hdrs.length cap3) ∧ wx.cell? ⟨gb, j * 5 + 2, none⟩ = some (.string ⟨body.toArray⟩) ∧ wx.cell? ⟨gb, j * 5 + 3, none⟩ = some (.bool false) ∧ wx.cell? ⟨gb, j * 5 + 4, none⟩ = some (.bool cl) ∧ Below wa.heap.size wa wx)
              (first | exact hS0 | assumption | exact Hk.out _ _ (by assumption) (by assumption))
              (first | (go_at_call 28; refine (HSm.out _ (HB.out _ (by first | exact hS0 | assumption))).mono ?_; rintro e w6 ⟨rfl, hb6⟩))
            have hb6' := HB.out _ (by assumption)
            clear hS0 hb6 HSm Hk HB
            have HGn := Lib.hid HG.out.next
            go_wp2
            go_roundw
            case rel => exact ⟨j + 1, acc.drop F.length, rows, by omega, by go_num, rfl, by rw [Hq.out]; exact Hdrop.out, HO3.out.below hb6', HGn.out, hba.trans (hb6'.mono hba.size), by rw [List.length_drop]; omega⟩
            case measure => simp [intOf]; omega
          · simp only [if_true] at HR
            go_wp2_with fail
            refine HR.out.mono ?_
            rintro e w2 ⟨hb2, hv2, rfl, hh2, hfr⟩
            obtain ⟨A9, cap9, hvA, hx1, hx2, hx3⟩ := hh2
            simp only at hvA
            subst hvA
            have hgl2 : gb < w2.heap.size := Nat.lt_of_lt_of_le hgl hb2.size
            have hbw0 : Below w.heap.size w w2 := hbx.trans (hb2.mono hbx.size)
            have HO2 := Lib.hid (HO.out.below hb2)
            have hne : ∀ b, (Value.slice A9 hdrs.length cap9).ownBlock = some b → some b ≠ some gb := fun b hb e => by
              have := hfr b hb
              injection e with e
              omega
            have hh3 : Hdrs (w2.setCell ⟨gb, j * 5 + 2, none⟩ (.string ⟨#[]⟩)) (.slice A9 hdrs.length cap9) hdrs := Tab.grown ⟨A9, cap9, rfl, hx1, hx2, hx3⟩ (grown_set1 w2 gb (j * 5 + 2) (.string ⟨#[]⟩)) hne (fun _ _ _ h => h)
            have HI := Lib.hid (InB.mk' (st := st) (body := []) (hd := true) (cl := cl) (hbw0.setCell hgb (.string ⟨#[]⟩)) hh3)
            have HOs := HO2.out
            rw [← HG.out.1] at HOs
            have HOs2 := HOs.stored j 2 _ Hrow.out (by omega) (.string ⟨#[]⟩)
            have HG2 := Lib.hid (HG.out.stored (i := j) (rcells ⟨st, hdrs, [], true, cl⟩ (.slice A3 hdrs.length cap3)))
            have hrw2 : (rows.set j ((rcells ⟨st, hdrs, body, true, cl⟩ (.slice A3 hdrs.length cap3)).set 2 (.string ⟨#[]⟩)))[j]? = some (rcells ⟨st, hdrs, [], true, cl⟩ (.slice A3 hdrs.length cap3)) := by
              rw [List.getElem?_set_self (by rw [HG.out.1]; omega)]
              rfl
            rw [HG.out.1] at HOs2
            have HO3 := Lib.hid (HOs2.alloc (.cells #[.int .i64 st, .slice A9 hdrs.length cap9, .string ⟨#[]⟩, .bool true, .bool cl] 49))
            clear hx1 hx2 hx3 d0 d1 d2 d3 d4 HR HO hgl hne hfr HOs HOs2 f2
            have d0 := HO3.out.cell j _ hrw2 0 _ rfl
            have d1 := HO3.out.cell j _ hrw2 1 _ rfl
            have d2 := HO3.out.cell j _ hrw2 2 _ rfl
            have d3 := HO3.out.cell j _ hrw2 3 _ rfl
            have d4 := HO3.out.cell j _ hrw2 4 _ rfl
            simp only [Nat.add_zero] at d0
            have HO4 := Lib.hid (HO2.out.alloc (.cells #[.int .i64 st, .slice A9 hdrs.length cap9, .string ⟨#[]⟩, .bool true, .bool cl] 49))
            have g2 := HO4.out.cell j _ Hrow.out 2 _ rfl
            have g3 := HO4.out.cell j _ Hrow.out 3 _ rfl
            have HO4' := HO4.out
            rw [← HG.out.1] at HO4'
            have f2 := HO4'.free (j * 5 + 2)
            clear HO4' HO4 hrw2
            unfold respV
            go_wp2_with fail
            have hszs : (w2.setCell ⟨gb, j * 5 + 2, none⟩ (.string ⟨#[]⟩)).heap.size = w2.heap.size := by simp
            clear g2 g3 f2
            have hHa := HI.out.hh
            have hba := HI.out.bel
            obtain ⟨-, e0, e1, e2, e3, e4, -, -⟩ := HI.out
            rw [hszs] at e0 e1 e2 e3 e4
            generalize ((w2.setCell ⟨gb, j * 5 + 2, none⟩ (.string ⟨#[]⟩)).alloc (.cells #[.int .i64 st, .slice A9 hdrs.length cap9, .string ⟨#[]⟩, .bool true, .bool cl] 49)) = wa at *
            have hS0 : wa.drew.cell? ⟨w2.heap.size, 0, none⟩ = some (.int .i64 st) ∧ wa.drew.cell? ⟨w2.heap.size, 1, none⟩ = some (.slice A9 hdrs.length cap9) ∧ wa.drew.cell? ⟨w2.heap.size, 2, none⟩ = some (.string ⟨#[]⟩) ∧ wa.drew.cell? ⟨w2.heap.size, 3, none⟩ = some (.bool true) ∧ wa.drew.cell? ⟨w2.heap.size, 4, none⟩ = some (.bool cl) ∧ wa.drew.cell? ⟨gb, j * 5, none⟩ = some (.int .i64 st) ∧ wa.drew.cell? ⟨gb, j * 5 + 1, none⟩ = some (.slice A3 hdrs.length cap3) ∧ wa.drew.cell? ⟨gb, j * 5 + 2, none⟩ = some (.string ⟨#[]⟩) ∧ wa.drew.cell? ⟨gb, j * 5 + 3, none⟩ = some (.bool true) ∧ wa.drew.cell? ⟨gb, j * 5 + 4, none⟩ = some (.bool cl) ∧ Below wa.heap.size wa wa.drew := ⟨e0, e1, e2, e3, e4, d0, d1, d2, d3, d4, (Below.refl _ wa).drew⟩
            have HSm := Lib.hid (fun (wx : World) (hb : Below wa.heap.size wa wx) => rsame_any ⟨st, hdrs, [], true, cl⟩ (.slice A9 hdrs.length cap9) (.slice A3 hdrs.length cap3) wx (hHa.below hb (Nat.le_refl _)) (Hh.out.below (hba.trans (hb.mono hba.size)) (Nat.le_refl _)))
            unfold respV at HSm
            simp only at HSm
            have Hk := Lib.hid (fun (wx wy : World) h (hb : Below wx.heap.size wx wy) => @keep10 wa wx wy w2.heap.size gb j (.int .i64 st) (.slice A9 hdrs.length cap9) (.string ⟨#[]⟩) (.bool true) (.bool cl) (.int .i64 st) (.slice A3 hdrs.length cap3) (.string ⟨#[]⟩) (.bool true) (.bool cl) h hb)
            have HB := Lib.hid (fun (wx : World) (h : wx.cell? ⟨w2.heap.size, 0, none⟩ = some (.int .i64 st) ∧ wx.cell? ⟨w2.heap.size, 1, none⟩ = some (.slice A9 hdrs.length cap9) ∧ wx.cell? ⟨w2.heap.size, 2, none⟩ = some (.string ⟨#[]⟩) ∧ wx.cell? ⟨w2.heap.size, 3, none⟩ = some (.bool true) ∧ wx.cell? ⟨w2.heap.size, 4, none⟩ = some (.bool cl) ∧ wx.cell? ⟨gb, j * 5, none⟩ = some (.int .i64 st) ∧ wx.cell? ⟨gb, j * 5 + 1, none⟩ = some (.slice A3 hdrs.length cap3) ∧ wx.cell? ⟨gb, j * 5 + 2, none⟩ = some (.string ⟨#[]⟩) ∧ wx.cell? ⟨gb, j * 5 + 3, none⟩ = some (.bool true) ∧ wx.cell? ⟨gb, j * 5 + 4, none⟩ = some (.bool cl) ∧ Below wa.heap.size wa wx) => h.2.2.2.2.2.2.2.2.2.2)
            clear e0 e1 e2 e3 e4 d0 d1 d2 d3 d4 hHa HI
            go_region_held3 (fun wx => wx.cell? ⟨w2.heap.size, 0, none⟩ = some (.int .i64 st) ∧ wx.cell? ⟨w2.heap.size, 1, none⟩ = some (.slice A9 hdrs.length cap9) ∧ wx.cell? ⟨w2.heap.size, 2, none⟩ = some (.string ⟨#[]⟩) ∧ wx.cell? ⟨w2.heap.size, 3, none⟩ = some (.bool true) ∧ wx.cell? ⟨w2.heap.size, 4, none⟩ = some (.bool cl) ∧ wx.cell? ⟨gb, j * 5, none⟩ = some (.int .i64 st) ∧ wx.cell? ⟨gb, j * 5 + 1, none⟩ = some (.slice A3 hdrs.length cap3) ∧ wx.cell? ⟨gb, j * 5 + 2, none⟩ = some (.string ⟨#[]⟩) ∧ wx.cell? ⟨gb, j * 5 + 3, none⟩ = some (.bool true) ∧ wx.cell? ⟨gb, j * 5 + 4, none⟩ = some (.bool cl) ∧ Below wa.heap.size wa wx)
              (first | exact hS0 | assumption | exact Hk.out _ _ (by assumption) (by assumption))
              (first | (go_at_call 28; refine (HSm.out _ (HB.out _ (by first | exact hS0 | assumption))).mono ?_; rintro e w6 ⟨rfl, hb6⟩))
            have hb6' := HB.out _ (by assumption)
            clear hS0 hb6 HSm Hk HB
            have HGn := Lib.hid HG2.out
            go_wp2
            go_roundw
            case rel => exact ⟨j + 1, acc.drop F.length, _, by omega, by go_num, rfl, by rw [Hq.out]; exact Hdrop.out, HO3.out.below hb6', HGn.out, hba.trans (hb6'.mono hba.size), by rw [List.length_drop]; omega⟩
            case measure => simp [intOf]; omega
    · obtain ⟨hlt, hx, hq⟩ := drop_consA hd
      have Hq := Lib.hid hq
      rw [hd] at HK hle
      rw [fsum_cons] at hle
      obtain ⟨b, o, hv, hA, hh, c0, c1, c2, c3, c4⟩ := resp_at HL.out hbw k r hx
      subst hA
      have Hh := Lib.hid hh
      obtain ⟨A3, cap3, rfl, -, -, -⟩ := hh
      have HW := Lib.hid (HWr.out _ hbw r _ Hh.out (by omega))
      clear hd hq hx
      obtain ⟨st, hdrs, body, hd, cl⟩ := r
      simp only at c0 c1 c2 c3 c4 hle
      have hki : (k : Int) < l.length := by omega
      have k0 : (0 : Int) ≤ (k : Int) := by omega
      rw [List.filter_cons] at HK
      cases hG : goodR ⟨st, hdrs, body, hd, cl⟩
      · rw [writeS_no hG] at HW
        rw [hG] at HK
        unfold respV wV at HW
        simp only [Bool.false_eq_true, if_false] at HW HK
        clear hG
        go_wp2_with fail
        refine HW.out.mono ?_
        rintro e w2 ⟨rfl, hb2⟩
        clear c0 c1 c2 c3 c4
        go_wp2
        go_roundw
        case rel => exact ⟨k + 1, acc, goods, rows, by omega, by go_num, rfl, by rw [Hq.out]; exact HK.out, HA.out, HO.out.below hb2, HG.out, hbw.trans (hb2.mono hbw.size), by rw [Hq.out]; omega, by omega, HGd.out⟩
        case measure => simp [intOf]; omega
      · rw [writeS_good hG] at HW
        rw [hG] at HK
        have hFl := form_len hG
        have HA2 := Lib.hid (show acc ++ formR ⟨st, hdrs, body, hd, cl⟩ = (goods ++ [(⟨st, hdrs, body, hd, cl⟩ : RespT)]).flatMap formR by rw [List.flatMap_append, ← HA.out]; simp)
        have HGd2 := Lib.hid (show ∀ g ∈ goods ++ [(⟨st, hdrs, body, hd, cl⟩ : RespT)], goodR g = true from fun g hg => by
          rcases List.mem_append.1 hg with hg | hg
          · exact HGd.out g hg
          · rw [List.mem_singleton.1 hg]; exact hG)
        have HG2 := Lib.hid (HG.out.app ⟨st, hdrs, body, hd, cl⟩ (.slice A3 hdrs.length cap3) Hh.out)
        unfold rcells at HG2
        generalize formR ⟨st, hdrs, body, hd, cl⟩ = F at *
        unfold respV wV at HW
        simp only [if_true] at HW HK hFl
        clear hG HGd HG HA
        go_wp2_with fail
        refine HW.out.mono ?_
        rintro e w2 ⟨rfl, hb2⟩
        have ck : ∀ {a : Addr} {v : Value}, wr.cell? a = some v → w2.cell? a = some v := fun {a v} h => (hb2.cell (World.block_lt_of_cell? wr a h)).trans h
        have d0 := ck c0
        have d1 := ck c1
        have d2 := ck c2
        have d3 := ck c3
        have d4 := ck c4
        have hbw2 := hbw.trans (hb2.mono hbw.size)
        have HO2 := Lib.hid (HO.out.below hb2)
        have hWB : w.heap.size ≤ w2.heap.size := hbw2.size
        have HBD := Lib.hid (show (rows.length + 1) * 56 ≤ 140737488355328 by have := HG2.out.1; simp only [List.length_append, List.length_cons, List.length_nil] at this; omega)
        have Hone := Lib.hid (rcells_one ⟨st, hdrs, body, hd, cl⟩ A3 hdrs.length cap3)
        clear ck c0 c1 c2 c3 c4 hb2 HO
        go_wp2_with (at_builtin; go_must (refine wpList_appRec elemR rfl (.tmp 39) (.tmp 44) rfl w.heap.size rows #[.int .i64 st, .slice A3 hdrs.length cap3, .string ⟨body.toArray⟩, .bool hd, .bool cl] _ rfl HO2.out w2.heap.size (by simp) rfl rfl Hone.out HBD.out hWB ?_); intro v' w' hown' hb' hg' hblk')
        clear d0 d1 d2 d3 d4
        go_roundw
        case rel => exact ⟨k + 1, acc ++ F, goods ++ [(⟨st, hdrs, body, hd, cl⟩ : RespT)], _, by omega, by go_num, rfl, by rw [Hq.out, List.append_assoc]; exact HK.out, HA2, hown', HG2.out, hbw2.trans hb', by rw [Hq.out, List.length_append]; omega, by rw [List.length_append]; simp; omega, HGd2.out⟩
        case measure => simp [intOf]; omega
end Go.Proofs.YtlkbfehdiopkbaaGreatDoor
