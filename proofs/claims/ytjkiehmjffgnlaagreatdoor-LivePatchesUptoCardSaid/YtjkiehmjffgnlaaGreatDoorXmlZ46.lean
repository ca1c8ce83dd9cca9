import Derived.Test.YtjkiehmjffgnlaaGreatDoorXmlZ45
import Derived.StillTailTactics
namespace Go.Proofs.YtjkiehmjffgnlaaGreatDoor.UriN
open Go.RowKit

end Go.Proofs.YtjkiehmjffgnlaaGreatDoor.UriN
namespace Go.Proofs.YtjkiehmjffgnlaaGreatDoor.UriN
open Go.RowKit

theorem hexU_cut (k : Nat) (h : k < 16) : List.drop k (List.take (k + 1) ([48, 49, 50, 51, 52, 53, 54, 55, 56, 57, 65, 66, 67, 68, 69, 70] : List UInt8)) = [hexU k] := by
  match k, h with
  | 0, _ | 1, _ | 2, _ | 3, _ | 4, _ | 5, _ | 6, _ | 7, _ | 8, _ | 9, _ | 10, _ | 11, _ | 12, _ | 13, _ | 14, _ | 15, _ => rfl
  | k + 16, h => omega
theorem hexU_cut' (k : Nat) (h : k < 16) : List.drop k (48 :: List.take k ([49, 50, 51, 52, 53, 54, 55, 56, 57, 65, 66, 67, 68, 69, 70] : List UInt8)) = [hexU k] := hexU_cut k h
theorem and15 (n : Nat) (h : n < 256) : bits BinOp.and IntKind.u8 (n : Int) 15 = ((n % 16 : Nat) : Int) := by
  have key : ∀ a : Fin 256, bits BinOp.and IntKind.u8 ((a.val : Nat) : Int) 15 = ((a.val % 16 : Nat) : Int) := by decide +kernel
  exact key ⟨n, h⟩
theorem wrap_u8 (x : Int) (h0 : 0 ≤ x) (h1 : x < 256) : IntKind.u8.wrap x = x := by
  unfold IntKind.wrap IntKind.bits IntKind.signed
  simp
  omega

set_option maxHeartbeats 1000000 in
set_option maxRecDepth 100000 in
set_option linter.unusedSimpArgs false in
theorem text_any (v : Value) (p : List (List UInt8)) (w : World) (hp : Strs w v p) (hf : Fits p) (hE : Env w) :
    Calls Tryz.prog 51 #[v] w (Ret (.string ⟨(textS p).toArray⟩) w) := by
  have Hp := Lib.hid hp
  have HF := Lib.hid hf
  obtain ⟨pa, ca, rfl, ha1, ha2, -⟩ := hp
  unfold maxLen at ha2
  have hEE := Lib.hid hE
  cases hg : goodS p with
  | false =>
    have HG := Lib.hid hg
    have HT := Lib.hid (show textS p = [] by unfold textS; rw [hg]; rfl)
    clear hg hf
    go_enter Tryz.func51, Tryz.ntmps51
    go_wp2_with (go_at_call 70; refine (good_any _ _ _ Hp.out HF.out hE).mono ?_; rw [HG.out]; rintro e w1 ⟨rfl, hb1⟩)
    go_ret
    exact ⟨rets HT.out.symm, hb1⟩
  | true =>
    have HG := Lib.hid hg
    by_cases h0 : p = []
    · subst h0
      have HT := Lib.hid (show textS [] = [47] by decide)
      clear hg hf
      go_enter Tryz.func51, Tryz.ntmps51
      go_wp2_with (go_at_call 70; refine (good_any _ _ _ Hp.out HF.out hE).mono ?_; rw [HG.out]; rintro e w1 ⟨rfl, hb1⟩)
      go_ret
      exact ⟨rets HT.out.symm, hb1⟩
    · have HT := Lib.hid (show textS p = formS p by unfold textS; rw [hg, if_pos rfl, if_neg h0])
      have hl0 : 0 < p.length := List.length_pos_iff.2 h0
      have hl1 : ((p.length : Int) == 0) = false := by rw [beq_eq_false_iff_ne]; omega
      have hl12 : p.length ≤ 12 := by unfold goodS at hg; simp at hg; exact hg.2
      have h64 : ∀ (j : Nat) l, p[j]? = some l → l.length ≤ 64 := fun j l hj => by
        unfold goodS at hg
        rw [Bool.and_eq_true, List.all_eq_true] at hg
        have := hg.1 l (List.mem_of_getElem? hj)
        unfold segS at this
        simp at this
        omega
      have H64 := Lib.hid h64
      clear hg hf h0 h64
      obtain ⟨F, hF⟩ : ∃ F, formS p = F := ⟨_, rfl⟩
      rw [hF] at HT
      go_enter Tryz.func51, Tryz.ntmps51
      go_wp2_with (go_at_call 70; refine (good_any _ _ _ Hp.out HF.out hE).mono ?_; rw [HG.out]; rintro e w1 ⟨rfl, hb1⟩)
      have hB0 := Bld.fresh w1
      have hb0 : Below w1.heap.size w1 (w1.alloc (.cells #[.pointer none, .slice none 0 0] 118)) := (Below.refl _ _).alloc (Nat.le_refl _) _
      have hsz := hb1.size
      go_loopw [5, 6, 15, 22] (fun _ _ i _ wr => ∃ k acc, k ≤ p.length ∧ acc.length ≤ 200 * k ∧ i = .int .i64 (k : Nat) ∧ Bld w1.heap.size w1.heap.size acc wr ∧ Below w1.heap.size w1 wr ∧ Hid (acc ++ formS (p.drop k) = F)) (fun _ _ i _ _ => p.length - (intOf i).toNat)
      case atStart => exact ⟨0, [], Nat.zero_le _, Nat.zero_le _, rfl, hB0, hb0, hF⟩
      case round =>
        obtain ⟨k, acc, hk, hak, rfl, hBl, hbw, H⟩ := hrel
        clear hB0 hb0 hF
        have hbt : Below w.heap.size w wr := hb1.trans (hbw.mono hsz)
        obtain ⟨pa', ca', hva, _, _, hac⟩ := Hp.out.below hbt (Nat.le_refl _)
        injection hva with e1 e2 e3
        subst e1 e3
        clear e2
        have HB := Lib.hid hBl
        clear hBl
        rcases hd : p.drop k with _ | ⟨x, r⟩
        · have hk2 : k = p.length := by have := drop_nil hd; omega
          rw [hd] at H
          subst hk2
          clear hd hac
          go_wp2_with (go_at_call 69; refine (builderString_any _ _ _ _ HB.out).mono ?_; rintro e w2 ⟨rfl, hb2⟩)
          go_ret
          refine ⟨rets ?_, hbt.trans (hb2.mono hsz)⟩
          rw [HT.out, ← H.out]; exact (List.append_nil acc).symm
        · obtain ⟨hlt, hx, hr⟩ := drop_consA hd
          obtain ⟨ba, oa, rfl, _, hca⟩ := hac _ _ hx
          have hx64 := H64.out _ _ hx
          rw [hd] at H
          have Hr := Lib.hid hr
          have HI := Lib.hid (show (acc ++ [47]) ++ (encS x ++ formS r) = F by rw [← H.out]; simp [formS])
          have hbd : acc.length + 1 ≤ 140737488355328 := by omega
          have HBD := Lib.hid hbd
          clear hd hr hx hac hbd
          go_wp2_with (go_at_call 71; refine (writeByteU_any _ _ _ 47 _ HB.out HBD.out).mono ?_; rintro e w2 ⟨rfl, hB2, hb2⟩)
          obtain ⟨wo, rfl⟩ : ∃ wo : World, wo = wr := ⟨_, rfl⟩
          go_loopw [6, 22] (fun _ i wi => ∃ m ac, m ≤ x.length ∧ ac.length ≤ 200 * k + 1 + 3 * m ∧ i = .int .i64 (m : Nat) ∧ Bld w1.heap.size w1.heap.size ac wi ∧ Below w1.heap.size w1 wi ∧ Hid (ac ++ (encS (x.drop m) ++ formS r) = F)) (fun _ i _ => x.length - (intOf i).toNat)
          case atStart => exact ⟨0, acc ++ [47], Nat.zero_le _, by simp; omega, rfl, hB2, hbw.trans hb2, HI.out⟩
          case round =>
            obtain ⟨m, ac, hm, ham, rfl, hBm, hbm, HM⟩ := hrel
            have HBm := Lib.hid hBm
            clear hBm hB2
            rcases hdm : x.drop m with _ | ⟨c, q⟩
            · have hm2 : m = x.length := by have := drop_nil hdm; omega
              rw [hdm] at HM
              subst hm2
              clear hdm
              go_wp2
              go_roundw
              case rel => exact ⟨k + 1, ac, by omega, by omega, by go_num, HBm.out, hbm, by rw [Hr.out, ← HM.out]; rfl⟩
              case measure => simp [intOf]; omega
            · obtain ⟨hltm, hcb, hq⟩ := drop_cons hdm
              have hcx := c.toNat_lt
              rw [hdm] at HM
              have Hq := Lib.hid hq
              have hbd : ac.length + 3 ≤ 140737488355328 := by omega
              have HBD2 := Lib.hid hbd
              clear hdm hq hbd
              cases hbare : bareB c.toNat with
              | true =>
                have Hb := Lib.hid hbare
                clear hbare
                go_wp2_with (first
                  | (go_at_call 72; refine (bare_any _ _ (by omega) (by omega)).mono ?_; rw [Hb.out]; rintro e w' ⟨rfl, rfl⟩)
                  | (go_at_call 71; refine (writeByteU_any _ _ _ c _ HBm.out (by have := HBD2.out; omega)).mono ?_; rintro e w3 ⟨rfl, hB3, hb3⟩))
                go_roundw
                case rel => exact ⟨m + 1, ac ++ [c], by omega, by simp; omega, by go_num, hB3, hbm.trans hb3, Lib.hid (by rw [Hq.out, ← HM.out]; simp [encS, encB, Hb.out])⟩
                case measure => simp [intOf]; omega
              | false =>
                have Hb := Lib.hid hbare
                clear hbare
                go_wp2_with (go_at_call 72; refine (bare_any _ _ (by omega) (by omega)).mono ?_; rw [Hb.out]; rintro e w' ⟨rfl, rfl⟩)
                obtain ⟨n, hn, hn16⟩ : ∃ n, c.toNat / 16 = n ∧ n < 16 := ⟨_, rfl, by omega⟩
                obtain ⟨d, hd, hd16⟩ : ∃ d, c.toNat % 16 = d ∧ d < 16 := ⟨_, rfl, by omega⟩
                have HE := Lib.hid (show encB c = [37, hexU n, hexU d] by unfold encB; rw [Hb.out, hn, hd]; rfl)
                have f1 : (c.toNat : Int) / 16 = (n : Int) := by omega
                have f2 : bits BinOp.and IntKind.u8 (c.toNat : Int) 15 = (d : Int) := by rw [and15 c.toNat (by omega)]; omega
                have g1 : IntKind.u8.wrap ((n : Int) + 1) = (n : Int) + 1 := wrap_u8 _ (by omega) (by omega)
                have g2 : IntKind.u8.wrap ((d : Int) + 1) = (d : Int) + 1 := wrap_u8 _ (by omega) (by omega)
                have p1 : (0 : Int) ≤ (n : Int) + 1 := by omega
                have p2 : (0 : Int) ≤ (d : Int) + 1 := by omega
                have p3 : (n : Int) ≤ (n : Int) + 1 := by omega
                have p4 : (d : Int) ≤ (d : Int) + 1 := by omega
                have p5 : (n : Int) + 1 ≤ 16 := by omega
                have p6 : (d : Int) + 1 ≤ 16 := by omega
                have q1 : ((n : Int) + 1).toNat = n + 1 := by omega
                have q2 : ((d : Int) + 1).toNat = d + 1 := by omega
                have x1 := hexU_cut' n hn16
                have x2 := hexU_cut' d hd16
                clear hn hd
                go_still_tail 22, (by kernel_rfl)
                change wpList _ _ _ _ _ wr.drew
                have hBd : Bld w1.heap.size w1.heap.size ac wr.drew := HBm.out
                have HBd := Lib.hid hBd
                clear hBd
                go_wp2_with (go_at_call 73; refine (writeString_any _ _ _ [37, hexU n, hexU d] _ HBd.out HBD2.out).mono ?_; rintro e w3 ⟨rfl, hB3, hb3⟩)
                go_roundw
                case rel => exact ⟨m + 1, ac ++ [37, hexU n, hexU d], by omega, by simp; omega, by go_num, hB3, (below_draws hbm 1).trans hb3, Lib.hid (by rw [Hq.out, ← HM.out]; simp [encS, HE.out])⟩
                case measure => simp [intOf]; omega
end Go.Proofs.YtjkiehmjffgnlaaGreatDoor.UriN
