/-
  The walks of the reference's has, facts and Group. Condition: a tag is at most a million bytes.
-/
import Derived.Test.YthfdhanhkanhhaaDoorCondB
namespace Go.Proofs.YthfdhanhkanhhaaDoor
open Go.RowKit

set_option maxHeartbeats 400000 in
set_option maxRecDepth 100000 in
set_option linter.unusedSimpArgs false in
theorem rhas_any (v : Value) (l : List (List UInt8)) (x : List UInt8) (w : World) (hv : Strs w v l) :
    Calls Tryd.prog 44 #[v, .string ⟨x.toArray⟩] w (Same0 (.bool (decide (x ∈ l))) w) := by
  obtain ⟨A, cap, rfl, hcap, hcm, hc⟩ := hv
  have HC := Lib.hid hc
  clear hc
  unfold maxLen at hcm
  obtain ⟨ANS, hA⟩ : ∃ A, decide (x ∈ l) = A := ⟨_, rfl⟩
  rw [hA]
  go_enter Tryd.func44, Tryd.ntmps44
  go_wp2
  go_loop [5] (fun i => ∃ k : Nat, k ≤ l.length ∧ i = .int .i64 k ∧ Hid (decide (x ∈ l.drop k) = ANS)) (fun i => l.length - (intOf i).toNat)
  case atStart => exact ⟨0, Nat.zero_le _, rfl, hA⟩
  case round =>
    obtain ⟨k, hk, rfl, H⟩ := hrel
    clear hA
    rcases hd : l.drop k with _ | ⟨y, r⟩
    · have hk2 : k = l.length := by have := drop_nil hd; omega
      rw [hd] at H
      subst hk2
      clear hd
      obtain rfl : false = ANS := by simpa using H.out
      go_wp2
      go_ret
      exact ⟨rfl, rfl⟩
    · obtain ⟨hlt, hx, hr⟩ := drop_consA hd
      obtain ⟨b, o, rfl, hb, hcell⟩ := HC.out k y hx
      rw [hd] at H
      have Hr := Lib.hid hr
      clear hd hr hx
      by_cases he : x = y
      · subst he
        have H2 : true = ANS := by simpa using H.out
        subst H2
        go_wp2
        go_ret
        exact ⟨rfl, rfl⟩
      · have H2 := Lib.hid (show decide (x ∈ r) = ANS by have := H.out; simpa [he] using this)
        have hne : (y == x) = false := by simpa using fun h => he h.symm
        clear H he
        go_wp2
        go_round
        case rel => exact ⟨k + 1, by omega, by go_num, by rw [Hr.out]; exact H2.out⟩
        case measure => simp [intOf]; omega
set_option maxHeartbeats 2000000 in
set_option maxRecDepth 100000 in
set_option linter.unusedSimpArgs false in
theorem rfacts_any (tg : Bool) (tag : List UInt8) (cv sv fv : Value) (self : List (List UInt8)) (fs : List FactT) (w : World) (hs : Strs w sv self) (hf : FactL w fv fs) (ht : tag.length ≤ 1048576) :
    Calls Tryd.prog 62 #[.agg #[.bool tg, .string ⟨tag.toArray⟩, cv], sv, fv] w (FactPost (factsS tg tag self fs) w) := by
  have HS := Lib.hid hs
  have HF := Lib.hid hf
  obtain ⟨A, cap, rfl, hcap, hcm, -⟩ := hf
  unfold maxLen at hcm
  clear hs
  obtain ⟨F, hF⟩ : ∃ F, factsS tg tag self fs = F := ⟨_, rfl⟩
  rw [hF]
  have hA : Below w.heap.size w ((w.alloc (.cells #[.bool tg, .string ⟨tag.toArray⟩, cv] 46)).alloc (.cells #[.slice none 0 0, .string ⟨#[]⟩, .slice none 0 0] 43)) := ((Below.refl _ w).alloc (Nat.le_refl _) _).alloc (by simp) _
  have hR : ((w.alloc (.cells #[.bool tg, .string ⟨tag.toArray⟩, cv] 46)).alloc (.cells #[.slice none 0 0, .string ⟨#[]⟩, .slice none 0 0] 43)).heap[w.heap.size + 1]? = some (.cells #[.slice none 0 0, .string ⟨#[]⟩, .slice none 0 0] 43 (0, 0)) := by
    have := heap_alloc_new (w.alloc (.cells #[.bool tg, .string ⟨tag.toArray⟩, cv] 46)) (.cells #[.slice none 0 0, .string ⟨#[]⟩, .slice none 0 0] 43)
    rwa [show (w.alloc (.cells #[.bool tg, .string ⟨tag.toArray⟩, cv] 46)).heap.size = w.heap.size + 1 by simp] at this
  go_enter Tryd.func62, Tryd.ntmps62
  cases tg
  case' true =>
    have P1 := Lib.hid (fun w' => rparse_any tag w' ht)
    unfold Parsed at P1
    unfold factsS at hF
    rw [if_pos rfl] at hF
    generalize parseS tag = R at P1 hF
    obtain ⟨p, d, n⟩ := R
    go_wp2_with fail
    refine (P1.out _).mono ?_
    rintro e w2 ⟨v2, rfl, hv2, hb2⟩
    have hA2 : Below w.heap.size w w2 := hA.trans (hb2.mono hA.size)
    have hR2 := (hb2.block (w.heap.size + 1) (by simp)).trans hR
    have hne : n = 0 ∨ n ≠ 0 := by omega
    replace hF : (if n = 0 then findS fs p else noFact) = F := hF
    replace hv2 : Strs w2 v2 p := hv2
    clear HS hA hR P1 hb2
    rcases hne with rfl | hne
    case' inr =>
      have hF' : noFact = F := by rw [if_neg hne] at hF; exact hF
      subst hF'
      have hn2 : (n == 0) = false := by simpa using hne
      obtain ⟨c0, f0, c1, f1, c2, f2⟩ := set3_cells (.slice none 0 0) (.string ⟨#[]⟩) hR2
      have hR3 := set3 (x' := .slice none 0 0) (y' := .string ⟨#[]⟩) (z' := .slice none 0 0) hR2
      clear hne hF
      go_wp2
      refine bodyPost_ret (results_c1 rfl _ _ _ _ _ _ rfl hR3 Tryd.underlying43 rfl (by kernel_rfl)) rfl ?_
      exact ⟨_, _, rfl, strs_nil _, strs_nil _, set3_below hA2 (Nat.le_succ _) _ _ _⟩
    case' inl =>
      rw [if_pos rfl] at hF
      generalize v2 = sx at *
      generalize p = px at *
      generalize w2 = wx at *
      go_wp2
  case' false =>
    replace hF : findS fs self = F := hF
    go_wp2
    have hA2 := Lib.hid hA
    have hR2 := Lib.hid hR
    have hv2 := HS.out.below hA (Nat.le_refl _)
    clear HS hA hR
    generalize sv = sx at *
    generalize self = px at *
    generalize hwx : ((w.alloc (.cells #[.bool false, .string ⟨tag.toArray⟩, cv] 46)).alloc (.cells #[.slice none 0 0, .string ⟨#[]⟩, .slice none 0 0] 43)) = wx at *
  all_goals
    have hA2 := Hid.out hA2
    have hR2 := Hid.out hR2
    have Hv := Lib.hid hv2
    clear hv2
    have hsz : w.heap.size + 1 < wx.heap.size := (Array.getElem?_eq_some_iff.1 hR2).1
    go_loopw [10] (fun i wr => ∃ k : Nat, k ≤ fs.length ∧ i = .int .i64 k ∧ Hid (findS (fs.drop k) px = F) ∧ Below wx.heap.size wx wr) (fun i _ => fs.length - (intOf i).toNat)
    case atStart => exact ⟨0, Nat.zero_le _, rfl, hF, Below.refl _ _⟩
    case round =>
      obtain ⟨k, hk, rfl, H, hbw⟩ := hrel
      clear hF
      obtain ⟨A', cap', hva, _, _, hac⟩ := HF.out.at
      injection hva with e1 e2 e3
      subst e1 e3
      clear e2
      have Sr := Lib.hid (Hv.out.below hbw (Nat.le_refl _))
      have hRr := (hbw.block (w.heap.size + 1) hsz).trans hR2
      have hAr : Below w.heap.size w wr := hA2.trans (hbw.mono hA2.size)
      clear hR2 hA2
      rcases hd : fs.drop k with _ | ⟨x, r⟩
      · have hk2 : k = fs.length := by have := drop_nil hd; omega
        rw [hd] at H
        subst hk2
        clear hd hac
        obtain rfl : noFact = F := H.out
        obtain ⟨c0, f0, c1, f1, c2, f2⟩ := set3_cells (.slice none 0 0) (.string ⟨#[]⟩) hRr
        have hR3 := set3 (x' := .slice none 0 0) (y' := .string ⟨#[]⟩) (z' := .slice none 0 0) hRr
        clear hRr
        go_wp2
        refine bodyPost_ret (results_c1 rfl _ _ _ _ _ _ rfl hR3 Tryd.underlying43 rfl (by kernel_rfl)) rfl ?_
        exact ⟨_, _, rfl, strs_nil _, strs_nil _, set3_below hAr (Nat.le_succ _) _ _ _⟩
      · obtain ⟨hlt, hx, hr⟩ := drop_consA hd
        obtain ⟨b, o, pv, tv, rfl, hb, e0, e1, e2, hpw, htw⟩ := hac k x hx
        replace e0 := (hAr.cell (p := ⟨b, o + k * 3, none⟩) hb).trans e0
        replace e1 := (hAr.cell (p := ⟨b, o + k * 3 + 1, none⟩) hb).trans e1
        replace e2 := (hAr.cell (p := ⟨b, o + k * 3 + 2, none⟩) hb).trans e2
        have hpv := hpw.below hAr (Nat.le_refl _)
        have htv := htw.below hAr (Nat.le_refl _)
        rw [hd, findS_cons] at H
        have Hr := Lib.hid hr
        clear hd hr hx hac
        unfold str at e1
        obtain ⟨path, etag, toks⟩ := x
        simp only at e1 hpv htv hpw htw
        obtain ⟨pA, pc, rfl⟩ := strs_ne hpv
        obtain ⟨tA, tc, rfl⟩ := strs_ne htv
        have HRa := Lib.hid hRr
        have HQ := Lib.hid (same_any (.slice pA path.length pc) sx path px wr hpv Sr.out)
        have HPw := Lib.hid hpw
        have HTw := Lib.hid htw
        clear hpv htv Sr hRr hpw htw
        by_cases he : path = px
        · have hF' : (⟨path, etag, toks⟩ : FactT) = F := by have := H.out; rw [if_pos he] at this; exact this
          subst hF'
          subst he
          rw [decide_eq_true rfl] at HQ
          clear H
          go_wp2_with fail
          refine HQ.out.mono ?_
          rintro e w4 ⟨rfl, hb4⟩
          have hbr : b < wr.heap.size := Nat.lt_of_lt_of_le hb hAr.size
          have d0 := (hb4.cell (p := ⟨b, o + k * 3, none⟩) hbr).trans e0
          have d1 := (hb4.cell (p := ⟨b, o + k * 3 + 1, none⟩) hbr).trans e1
          have d2 := (hb4.cell (p := ⟨b, o + k * 3 + 2, none⟩) hbr).trans e2
          have hR4 := (hb4.block _ (Array.getElem?_eq_some_iff.1 HRa.out).1).trans HRa.out
          have hA4 : Below w.heap.size w w4 := hAr.trans (hb4.mono hAr.size)
          obtain ⟨c0, f0, c1, f1, c2, f2⟩ := set3_cells (.slice pA path.length pc) (.string ⟨etag.toArray⟩) hR4
          have HR5 := Lib.hid (set3 (x' := .slice pA path.length pc) (y' := .string ⟨etag.toArray⟩) (z' := .slice tA toks.length tc) hR4)
          clear hR4 HRa hb4 e0 e1 e2
          go_wp2
          refine bodyPost_ret (results_c1 rfl _ _ _ _ _ _ rfl HR5.out Tryd.underlying43 rfl (by kernel_rfl)) rfl ?_
          have hA5 := set3_below hA4 (Nat.le_succ _) (.slice pA path.length pc) (.string ⟨etag.toArray⟩) (.slice tA toks.length tc)
          exact ⟨_, _, rfl, HPw.out.below hA5 (Nat.le_refl _), HTw.out.below hA5 (Nat.le_refl _), hA5⟩
        · have H2 := Lib.hid (show findS r px = F by have := H.out; rw [if_neg he] at this; exact this)
          rw [decide_eq_false he] at HQ
          clear H he
          go_wp2_with fail
          refine HQ.out.mono ?_
          rintro e w4 ⟨rfl, hb4⟩
          have hb5 := hbw.trans (hb4.mono hbw.size)
          clear HRa hb4
          go_wp2
          go_roundw
          case rel => exact ⟨k + 1, by omega, by go_num, by rw [Hr.out]; exact H2.out, hb5⟩
          case measure => simp [intOf]; omega
set_option maxHeartbeats 2000000 in
set_option maxRecDepth 100000 in
set_option linter.unusedSimpArgs false in
theorem rgroup_any (tg : Bool) (tag : List UInt8) (cv sv fv : Value) (cs : List CondT) (self : List (List UInt8)) (fs : List FactT) (w : World) (hc : Conds w cv cs) (hs : Strs w sv self) (hf : FactL w fv fs) (ht : tag.length ≤ 1048576) :
    Calls Tryd.prog 42 #[.agg #[.bool tg, .string ⟨tag.toArray⟩, cv], sv, fv] w (Ret (.bool (holdsG cs (factsS tg tag self fs))) w) := by
  have HC := Lib.hid hc
  obtain ⟨A, cap, rfl, hcap, hcm, -⟩ := hc
  unfold maxLen at hcm
  have hA0 : Below w.heap.size w (w.alloc (.cells #[.bool tg, .string ⟨tag.toArray⟩, .slice A cs.length cap] 46)) := (Below.refl _ w).alloc (Nat.le_refl _) _
  have hF := Lib.hid (rfacts_any tg tag (.slice A cs.length cap) sv fv self fs _ (hs.below hA0 (Nat.le_refl _)) (hf.below hA0 (Nat.le_refl _)) ht)
  have k0 := Lib.hid (cell_new w #[.bool tg, .string ⟨tag.toArray⟩, .slice A cs.length cap] 46)
  clear hs hf ht
  generalize factsS tg tag self fs = f at *
  obtain ⟨ANS, hA⟩ : ∃ A, holdsG cs f = A := ⟨_, rfl⟩
  rw [hA]
  have Hsz := Lib.hid (show w.heap.size < (w.alloc (.cells #[.bool tg, .string ⟨tag.toArray⟩, .slice A cs.length cap] 46)).heap.size by simp)
  go_enter Tryd.func42, Tryd.ntmps42
  go_wp2_with fail
  refine hF.out.mono ?_
  rintro e w1 ⟨pv, tv, rfl, hpv, htv, hb1⟩
  obtain ⟨pA, pc, rfl⟩ := strs_ne hpv
  obtain ⟨tA, tc, rfl⟩ := strs_ne htv
  have c0 := (hb1.cell (p := ⟨w.heap.size, 2, none⟩) Hsz.out).trans (k0.out 2)
  simp at c0
  have hw1 : w.heap.size < w1.heap.size := Nat.lt_of_lt_of_le Hsz.out hb1.size
  have hA1 : Below w.heap.size w w1 := hA0.trans (hb1.mono hA0.size)
  clear hF k0 hA0 hb1 Hsz hpv
  go_wp2
  have hA2 : Below w.heap.size w (w1.alloc (.cells #[.slice pA f.path.length pc, .string ⟨f.etag.toArray⟩, .slice tA f.toks.length tc] 43)) := hA1.alloc hA1.size _
  have c0a := cell_alloc c0 (.cells #[.slice pA f.path.length pc, .string ⟨f.etag.toArray⟩, .slice tA f.toks.length tc] 43)
  have k1 := cell_new w1 #[.slice pA f.path.length pc, .string ⟨f.etag.toArray⟩, .slice tA f.toks.length tc] 43
  have HTb := Lib.hid (htv.alloc (.cells #[.slice pA f.path.length pc, .string ⟨f.etag.toArray⟩, .slice tA f.toks.length tc] 43))
  have c1 := k1 1
  have c2 := k1 2
  clear k1 c0 htv hA1
  have HCb := Lib.hid (HC.out.below hA2 (Nat.le_refl _))
  generalize hwb : (w1.alloc (.cells #[.slice pA f.path.length pc, .string ⟨f.etag.toArray⟩, .slice tA f.toks.length tc] 43)) = wb at *
  clear hwb
  generalize hbf : w1.heap.size = bf at *
  have hs0 := World.block_lt_of_cell? wb _ c0a
  have hs1 := World.block_lt_of_cell? wb _ c1
  simp only at hs0 hs1
  go_loopw [8] (fun i wr => ∃ k : Nat, k ≤ cs.length ∧ i = .int .i64 k ∧ Hid (holdsG (cs.drop k) f = ANS) ∧ Below wb.heap.size wb wr) (fun i _ => cs.length - (intOf i).toNat)
  case atStart => exact ⟨0, Nat.zero_le _, rfl, hA, Below.refl _ _⟩
  case round =>
    obtain ⟨k, hk, rfl, H, hbw⟩ := hrel
    clear hA
    obtain ⟨A', cap', hva, _, _, hac⟩ := (HCb.out.below hbw (Nat.le_refl _)).at
    injection hva with e1 e2 e3
    subst e1 e3
    clear e2
    have Tr := Lib.hid (HTb.out.below hbw (Nat.le_refl _))
    have d0 := (hbw.cell (p := ⟨w.heap.size, 2, none⟩) hs0).trans c0a
    have d1 := (hbw.cell (p := ⟨bf, 1, none⟩) hs1).trans c1
    have d2 := (hbw.cell (p := ⟨bf, 2, none⟩) hs1).trans c2
    simp at d1 d2
    clear c0a c1 c2
    rcases hd : cs.drop k with _ | ⟨x, r⟩
    · have hk2 : k = cs.length := by have := drop_nil hd; omega
      rw [hd] at H
      subst hk2
      clear hd hac
      obtain rfl : true = ANS := H.out
      go_wp2
      go_ret
      exact ⟨rfl, hA2.trans (hbw.mono hA2.size)⟩
    · obtain ⟨hlt, hx, hr⟩ := drop_consA hd
      obtain ⟨b, o, rfl, hb, e0, e1, e2⟩ := hac k x hx
      rw [hd, holdsG_cons] at H
      have Hr := Lib.hid hr
      clear hd hr hx hac
      unfold str at e1 e2
      obtain ⟨neg, tok, etag⟩ := x
      simp only at e0 e1 e2
      have f1 := cell_alloc d1 (.cells #[.bool neg, .string ⟨tok.toArray⟩, .string ⟨etag.toArray⟩] 48)
      have f2 := cell_alloc d2 (.cells #[.bool neg, .string ⟨tok.toArray⟩, .string ⟨etag.toArray⟩] 48)
      have Ta := Lib.hid (Tr.out.alloc (.cells #[.bool neg, .string ⟨tok.toArray⟩, .string ⟨etag.toArray⟩] 48))
      have hba : Below wb.heap.size wb (wr.alloc (.cells #[.bool neg, .string ⟨tok.toArray⟩, .string ⟨etag.toArray⟩] 48)) := hbw.alloc hbw.size _
      have HO : ∀ q1 q2 q3 q4, tok.isEmpty = q1 → f.etag.isEmpty = q2 → (f.etag == etag) = q3 → decide (tok ∈ f.toks) = q4 → okC f ⟨neg, tok, etag⟩ = ((if q1 = true then !q2 && q3 else q4) != neg) := by
        rintro _ _ _ _ rfl rfl rfl rfl
        have b1 : tok.isEmpty = decide (tok = []) := by cases tok <;> rfl
        have b2 : f.etag.isEmpty = decide (f.etag = []) := by cases f.etag <;> rfl
        have b3 : (f.etag == etag) = decide (etag = f.etag) := by rw [Bool.eq_iff_iff]; simp; exact eq_comm
        rw [b1, b2, b3]
        unfold okC isC
        by_cases h1 : tok = [] <;> simp [h1]
      generalize okC f ⟨neg, tok, etag⟩ = ok at HO H
      generalize hct : decide (tok ∈ f.toks) = ct at HO
      have HCt := Lib.hid hct
      clear hct
      cases q1 : tok.isEmpty
      · cases neg <;> cases ct <;> have ho := HO _ _ _ _ q1 rfl rfl rfl <;> simp at ho <;> subst ho <;> clear HO
        all_goals first
          | (obtain rfl : false = ANS := H.out
             go_wp2_with (refine (rhas_any _ _ _ _ Ta.out).mono ?_; rw [HCt.out]; rintro e w1 ⟨rfl, rfl⟩)
             go_ret; exact ⟨rfl, hA2.trans (hba.mono hA2.size)⟩)
          | (have H' := Lib.hid (show holdsG r f = ANS from H.out)
             go_wp2_with (refine (rhas_any _ _ _ _ Ta.out).mono ?_; rw [HCt.out]; rintro e w1 ⟨rfl, rfl⟩)
             go_roundw
             case rel => exact ⟨k + 1, by omega, by go_num, by rw [Hr.out]; exact H'.out, hba⟩
             case measure => simp [intOf]; omega)
      · cases neg <;> cases q2 : f.etag.isEmpty <;> cases q3 : (f.etag == etag) <;> have ho := HO _ _ _ _ q1 q2 q3 rfl <;> simp at ho <;> subst ho <;> clear HO
        all_goals first
          | (obtain rfl : false = ANS := H.out
             go_wp2_with (refine (rhas_any _ _ _ _ Ta.out).mono ?_; rw [HCt.out]; rintro e w1 ⟨rfl, rfl⟩)
             go_ret; exact ⟨rfl, hA2.trans (hba.mono hA2.size)⟩)
          | (have H' := Lib.hid (show holdsG r f = ANS from H.out)
             go_wp2_with (refine (rhas_any _ _ _ _ Ta.out).mono ?_; rw [HCt.out]; rintro e w1 ⟨rfl, rfl⟩)
             go_roundw
             case rel => exact ⟨k + 1, by omega, by go_num, by rw [Hr.out]; exact H'.out, hba⟩
             case measure => simp [intOf]; omega)
end Go.Proofs.YthfdhanhkanhhaaDoor
