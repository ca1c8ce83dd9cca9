/-
  The walks of the reference's Holds and Submitted. Conditions: a tag is at most a million bytes; the conditions are fewer than a billion.
-/
import Derived.Test.YthfdhanhkanhhaaDoorCondE
import Derived.Test.YthfdhanhkanhhaaDoorCondD
namespace Go.Proofs.YthfdhanhkanhhaaDoor
open Go.RowKit

set_option maxHeartbeats 1000000 in
set_option maxRecDepth 100000 in
set_option linter.unusedSimpArgs false in
theorem rholds_any (gv sv fv : Value) (gs : List GroupT) (self : List (List UInt8)) (fs : List FactT) (w : World) (hg : Groups w gv gs) (hs : Strs w sv self) (hf : FactL w fv fs) (ht : Tags gs) :
    Calls Tryd.prog 20 #[gv, sv, fv] w (Ret (.bool (holdsS gs self fs)) w) := by
  have HG := Lib.hid hg
  have HT := Lib.hid ht
  obtain ⟨A, cap, rfl, hcap, hcm, -⟩ := hg
  unfold maxLen at hcm
  obtain ⟨ANS, hA⟩ : ∃ A, holdsS gs self fs = A := ⟨_, rfl⟩
  rw [hA]
  have HQ := Lib.hid (fun (wr : World) (hb : Below w.heap.size w wr) (tg : Bool) (tag : List UInt8) (cs : List CondT) (cv : Value) (hc : Conds wr cv cs) (ht : tag.length ≤ 1048576) =>
    rgroup_any tg tag cv sv fv cs self fs wr hc (hs.below hb (Nat.le_refl _)) (hf.below hb (Nat.le_refl _)) ht)
  clear hs hf ht
  go_enter Tryd.func20, Tryd.ntmps20
  go_wp2
  go_loopw [7] (fun i wr => ∃ k : Nat, k ≤ gs.length ∧ i = .int .i64 k ∧ Hid (holdsS (gs.drop k) self fs = ANS) ∧ Below w.heap.size w wr) (fun i _ => gs.length - (intOf i).toNat)
  case atStart => exact ⟨0, Nat.zero_le _, rfl, hA, Below.refl _ _⟩
  case round =>
    obtain ⟨k, hk, rfl, H, hbw⟩ := hrel
    clear hA
    obtain ⟨A', cap', hva, _, _, hac⟩ := (HG.out.below hbw (Nat.le_refl _)).at
    injection hva with e1 e2 e3
    subst e1 e3
    clear e2
    rcases hd : gs.drop k with _ | ⟨x, r⟩
    · have hk2 : k = gs.length := by have := drop_nil hd; omega
      rw [hd] at H
      subst hk2
      clear hd hac
      obtain rfl : false = ANS := H.out
      go_wp2
      go_ret
      exact ⟨rfl, hbw⟩
    · obtain ⟨hlt, hx, hr⟩ := drop_consA hd
      obtain ⟨b, o, cv, rfl, hb, e0, e1, e2, hcv⟩ := hac k x hx
      rw [hd, holdsS_cons] at H
      have Hr := Lib.hid hr
      have hT := HT.out k x hx
      clear hd hr hx hac
      unfold str at e1
      obtain ⟨tg, tag, cs⟩ := x
      simp only at e0 e1 e2 hcv hT
      have Hc := Lib.hid (HQ.out wr hbw tg tag cs cv hcv hT)
      change Hid ((holdsG cs (factsS tg tag self fs) || holdsS r self fs) = ANS) at H
      generalize holdsG cs (factsS tg tag self fs) = x at H Hc
      clear hT hcv
      go_wp2_with fail
      refine Hc.out.mono ?_
      rintro e w1 ⟨rfl, hb1⟩
      have hb2 := hbw.trans (hb1.mono hbw.size)
      cases x
      · have H2 := Lib.hid (show holdsS r self fs = ANS from H.out)
        go_wp2
        go_roundw
        case rel => exact ⟨k + 1, by omega, by go_num, by rw [Hr.out]; exact H2.out, hb2⟩
        case measure => simp [intOf]; omega
      · obtain rfl : true = ANS := H.out
        go_wp2
        go_ret
        exact ⟨rfl, hb2⟩
set_option maxHeartbeats 3000000 in
set_option maxRecDepth 100000 in
set_option linter.unusedSimpArgs false in
theorem rsubmitted_any (gv sv fv : Value) (gs : List GroupT) (self : List (List UInt8)) (fs : List FactT) (w : World) (hg : Groups w gv gs) (hs : Strs w sv self) (hf : FactL w fv fs) (ht : Tags gs) (hN : condsN gs ≤ 1000000000) :
    Calls Tryd.prog 22 #[gv, sv, fv] w fun e w' => ∃ v, e = .returned v ∧ Strs w' v (submitS [] gs self fs) ∧ Below w.heap.size w w' := by
  have HG := Lib.hid hg
  have HT := Lib.hid ht
  obtain ⟨A, cap, rfl, hcap, hcm, -⟩ := hg
  unfold maxLen at hcm
  obtain ⟨ANS, hA⟩ : ∃ A, submitS [] gs self fs = A := ⟨_, rfl⟩
  rw [hA]
  have HQ := Lib.hid (fun (wr : World) (hb : Below w.heap.size w wr) (tg : Bool) (tag : List UInt8) (cs : List CondT) (cv : Value) (hc : Conds wr cv cs) (ht : tag.length ≤ 1048576) =>
    rgroup_any tg tag cv sv fv cs self fs wr hc (hs.below hb (Nat.le_refl _)) (hf.below hb (Nat.le_refl _)) ht)
  clear hs hf ht
  go_enter Tryd.func22, Tryd.ntmps22
  go_wp2
  go_loopw [7, 8] (fun v i wr => ∃ k out, k ≤ gs.length ∧ i = .int .i64 (k : Nat) ∧ Own 9 w.heap.size (vstrs out) v wr ∧ Below w.heap.size w wr ∧ Hid (submitS out (gs.drop k) self fs = ANS) ∧ out.length + condsN (gs.drop k) ≤ 1000000000) (fun _ i _ => gs.length - (intOf i).toNat)
  case atStart => exact ⟨0, [], Nat.zero_le _, rfl, Own.nil _ _ _, Below.refl _ _, hA, by simpa using hN⟩
  case round =>
    obtain ⟨k, out, hk, rfl, ho, hbw, H, hle⟩ := hrel
    clear hA hN
    obtain ⟨A', cap', hva, _, _, hac⟩ := HG.out.at
    injection hva with e1 e2 e3
    subst e1 e3
    clear e2
    obtain ⟨oA, oc, hv⟩ := ho.shape
    rw [vstrs_len] at hv
    subst hv
    have HO := Lib.hid ho
    clear ho
    rcases hd : gs.drop k with _ | ⟨x, r⟩
    · have hk2 : k = gs.length := by have := drop_nil hd; omega
      rw [hd] at H
      subst hk2
      clear hd hac
      obtain rfl : out = ANS := H.out
      go_wp2
      go_ret
      exact ⟨_, rfl, strs_of_rd HO.out.rd, hbw⟩
    · obtain ⟨hlt, hx, hr⟩ := drop_consA hd
      obtain ⟨b, o, cv, rfl, hb, e0, e1, e2, hcv⟩ := hac k x hx
      rw [hd, submitS_cons] at H
      rw [hd, condsN_cons] at hle
      have Hr := Lib.hid hr
      have hT := HT.out k x hx
      clear hd hr hx hac
      unfold str at e1
      obtain ⟨tg, tag, cs⟩ := x
      simp only at e0 e1 e2 hcv hT hle
      obtain ⟨cA, cc, rfl, -, hcm2, -⟩ := id hcv
      unfold maxLen at hcm2
      have HCW := Lib.hid hcv
      have HQ2 := Lib.hid (fun (wr : World) (hb : Below w.heap.size w wr) => HQ.out wr hb tg tag cs _ (hcv.below hb (Nat.le_refl _)) hT)
      change Hid (submitS (if holdsG cs (factsS tg tag self fs) then addS out cs else out) r self fs = ANS) at H
      generalize holdsG cs (factsS tg tag self fs) = x at *
      have E0 := Lib.hid e0
      have E1 := Lib.hid e1
      have E2 := Lib.hid e2
      clear hcv hT HQ e0 e1 e2
      have H2 := Lib.hid (show (if x then submitS (addS out (cs.drop 0)) r self fs else submitS out r self fs) = ANS by
        have := H.out
        cases x <;> simpa using this)
      clear H
      have hcl : cs.length ≤ 9223372036854775807 := by omega
      go_wp2_with fail
      go_loopw [7, 9] (fun v i wi => ∃ m out2, m ≤ cs.length ∧ i = .int .i64 (m : Nat) ∧ Own 9 w.heap.size (vstrs out2) v wi ∧ Below w.heap.size w wi ∧ Hid ((if x then submitS (addS out2 (cs.drop m)) r self fs else submitS out2 r self fs) = ANS) ∧ out2.length + (cs.length - m) + condsN r ≤ 1000000000) (fun _ i _ => cs.length - (intOf i).toNat)
      case atStart => exact ⟨0, out, Nat.zero_le _, rfl, HO.out, hbw, H2, by omega⟩
      case round =>
        obtain ⟨m, out2, hm, rfl, ho, hbi, HM, hle2⟩ := hrel
        clear H2 HO
        have e0 := (hbi.cell (p := ⟨b, o + k * 3, none⟩) hb).trans E0.out
        have e1 := (hbi.cell (p := ⟨b, o + k * 3 + 1, none⟩) hb).trans E1.out
        have e2 := (hbi.cell (p := ⟨b, o + k * 3 + 2, none⟩) hb).trans E2.out
        have HQ3 := Lib.hid (HQ2.out _ hbi)
        obtain ⟨cA', cap3, hva3, _, hcm3, hac3⟩ := (HCW.out.below hbi (Nat.le_refl _)).at
        injection hva3 with e3 e4 e5
        subst e3 e5
        clear e4
        obtain ⟨oA2, oc2, hv2⟩ := ho.shape
        rw [vstrs_len] at hv2
        subst hv2
        have HO := Lib.hid ho
        clear ho
        rcases hd : cs.drop m with _ | ⟨c, q⟩
        · have hk2 : m = cs.length := by have := drop_nil hd; omega
          rw [hd] at HM
          subst hk2
          clear hd hac3
          have HM2 := Lib.hid (show submitS out2 r self fs = ANS by have := HM.out; cases x <;> simpa [addS] using this)
          clear HM
          go_wp2
          refine ⟨⟨k + 1, out2, by omega, by go_num, HO.out, hbi, by rw [Hr.out]; exact HM2.out, by rw [Hr.out]; omega⟩, ?_⟩
          simp [intOf]; omega
        · obtain ⟨hlt3, hx3, hr3⟩ := drop_consA hd
          rw [hd] at HM
          have Hr3 := Lib.hid hr3
          clear hd hr3
          have hac4 := Lib.hid (hac3 m c hx3)
          clear hac3 hx3
          cases x
          · have HM2 := Lib.hid (show submitS out2 r self fs = ANS from HM.out)
            clear HM
            go_wp2_with (refine HQ3.out.mono ?_; rintro e w1 ⟨rfl, hb1⟩)
            have hb2 := hbi.trans (hb1.mono hbi.size)
            refine ⟨⟨k + 1, out2, by omega, by go_num, HO.out.below hb1, hb2, by rw [Hr.out]; exact HM2.out, by rw [Hr.out]; omega⟩, ?_⟩
            simp [intOf]; omega
          · go_wp2_with fail
            refine HQ3.out.mono ?_
            rintro e w1 ⟨rfl, hb1⟩
            have hb2 := hbi.trans (hb1.mono hbi.size)
            have HO1 := Lib.hid (HO.out.below hb1)
            obtain ⟨b3, o3, rfl, hb3, d0, d1, d2⟩ := hac4.out
            replace d0 := (hb1.cell (p := ⟨b3, o3 + m * 3, none⟩) hb3).trans d0
            replace d1 := (hb1.cell (p := ⟨b3, o3 + m * 3 + 1, none⟩) hb3).trans d1
            replace d2 := (hb1.cell (p := ⟨b3, o3 + m * 3 + 2, none⟩) hb3).trans d2
            replace e2 := (hb2.cell (p := ⟨b, o + k * 3 + 2, none⟩) hb).trans E2.out
            have HM1 := Lib.hid (show submitS (addS out2 (c :: q)) r self fs = ANS from HM.out)
            rw [addS_cons] at HM1
            clear HM e0 e1 HQ3 hac4 HO hb1
            unfold str at d1 d2
            obtain ⟨neg, tok, etag⟩ := c
            simp only at d0 d1 d2 HM1
            have hbj : Below w.heap.size w (w1.alloc (.cells #[.bool neg, .string ⟨tok.toArray⟩, .string ⟨etag.toArray⟩] 48)) := hb2.alloc hb2.size _
            have HO2 := Lib.hid (HO1.out.alloc (.cells #[.bool neg, .string ⟨tok.toArray⟩, .string ⟨etag.toArray⟩] 48))
            have HCt := Lib.hid (rhas_any _ out2 tok _ (strs_of_rd HO2.out.rd))
            have hT : decide (tok = []) = tok.isEmpty := by cases tok <;> rfl
            rw [hT] at HM1
            clear hT HO1
            generalize hct : decide (tok ∈ out2) = ct at HM1 HCt
            clear hct
            cases ht : tok.isEmpty <;> cases neg <;> cases ct
            case false.false.false =>
              rw [ht] at HM1
              have HM2 := Lib.hid (show submitS (addS (out2 ++ [tok]) q) r self fs = ANS from HM1.out)
              have HBD := Lib.hid (show ((vstrs out2).length + 1) * 16 ≤ 140737488355328 by rw [vstrs_len]; omega)
              have hWB : w.heap.size ≤ (w1.alloc (.cells #[.bool false, .string ⟨tok.toArray⟩, .string ⟨etag.toArray⟩] 48)).heap.size := by have := hb2.size; simp; omega
              clear HM1
              go_wp2_with (first
                | (refine HCt.out.mono ?_; rintro e w5 ⟨rfl, rfl⟩)
                | (at_builtin; go_must (refine wpList_appLitAt elemS rfl (.tmp 59) (.tmp 62) rfl w.heap.size (vstrs out2) #[.string ⟨tok.toArray⟩] _ rfl HO2.out 1 (w1.heap.size + 1) (by simp) rfl rfl (one1s _) HBD.out hWB ?_); intro v' w' hown' hb' hg'))
              have hfin := hbj.trans hb'
              refine ⟨⟨m + 1, out2 ++ [tok], by omega, by go_num, by rw [vstrs_app]; exact hown', hfin, by rw [Hr3.out]; exact HM2.out, by simp; omega⟩, ?_⟩
              simp [intOf]; omega
            all_goals
              rw [ht] at HM1
              have HM2 := Lib.hid (show submitS (addS out2 q) r self fs = ANS from HM1.out)
              clear HM1
              go_wp2_with (refine HCt.out.mono ?_; rintro e w5 ⟨rfl, rfl⟩)
              first
                | (go_roundw
                   case rel => exact ⟨m + 1, out2, by omega, by go_num, HO2.out, hbj, by rw [Hr3.out]; exact HM2.out, by omega⟩
                   case measure => simp [intOf]; omega)
                | (refine ⟨⟨m + 1, out2, by omega, by go_num, HO2.out, hbj, by rw [Hr3.out]; exact HM2.out, by omega⟩, ?_⟩; simp [intOf]; omega)
end Go.Proofs.YthfdhanhkanhhaaDoor
