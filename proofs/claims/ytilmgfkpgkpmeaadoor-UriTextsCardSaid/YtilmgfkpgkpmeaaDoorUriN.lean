/-
  The walks of the laws UriParses, UriTexts, UriOrder: they return true. Condition: the package variables hold what the row lists; for UriParses the target is at most a million bytes.
-/
import Derived.Test.YtilmgfkpgkpmeaaDoorUriM
import Derived.Test.YtilmgfkpgkpmeaaDoorUriLaws
namespace Go.Proofs.YtilmgfkpgkpmeaaDoor
open Go.RowKit

set_option maxHeartbeats 1000000 in
set_option maxRecDepth 100000 in
theorem law_order (va vb vc : Value) (a b c : List (List UInt8)) (w : World) (ha : Strs w va a) (hb : Strs w vb b) (hc : Strs w vc c) (hE : Env w) :
    Calls Tryd.prog 7 #[va, vb, vc] w (Ret (.bool true) w) := by
  have Ha := Lib.hid ha
  have Hb := Lib.hid hb
  have Hc := Lib.hid hc
  have Haa := Lib.hid (within_refl a)
  have Htr := Lib.hid (fun (h1 : withinS a b = true) (h2 : withinS b c = true) => within_trans h1 h2)
  have Han := Lib.hid (fun (h1 : withinS a b = true) (h2 : withinS b a = true) => within_anti h1 h2)
  clear ha hb hc
  generalize hab : withinS a b = xab at Htr Han
  generalize hbc : withinS b c = xbc at Htr
  generalize hac : withinS a c = xac at Htr
  generalize hba : withinS b a = xba at Han
  have Hab := Lib.hid hab
  have Hbc := Lib.hid hbc
  have Hac := Lib.hid hac
  have Hba := Lib.hid hba
  clear hab hbc hac hba
  go_enter Tryd.func7, Tryd.ntmps7
  go_wp2_with fail
  refine (fixed_any w hE).mono ?_
  rintro e w1 ⟨rfl, hb1⟩
  have Ha1 := Lib.hid (Ha.out.below hb1 (Nat.le_refl _))
  have Hb1 := Lib.hid (Hb.out.below hb1 (Nat.le_refl _))
  have Hc1 := Lib.hid (Hc.out.below hb1 (Nat.le_refl _))
  go_wp2_with fail
  refine (within_any _ _ _ _ _ Ha1.out Ha1.out).mono ?_
  rw [Haa.out]
  rintro e w2 ⟨rfl, rfl⟩
  cases xab with
  | false =>
    go_wp2_with (go_at_call 17; refine (within_any _ _ _ _ _ Ha1.out Hb1.out).mono ?_; rw [Hab.out]; rintro e w' ⟨rfl, rfl⟩)
    go_ret
    exact ⟨rfl, hb1⟩
  | true =>
    go_wp2_with fail
    refine (within_any _ _ _ _ _ Ha1.out Hb1.out).mono ?_
    rw [Hab.out]
    rintro e w2 ⟨rfl, rfl⟩
    go_wp2_with fail
    refine (within_any _ _ _ _ _ Hb1.out Hc1.out).mono ?_
    rw [Hbc.out]
    rintro e w2 ⟨rfl, rfl⟩
    have fin : ∀ (K : Prop), K → K := fun _ h => h
    cases xbc with
    | false =>
      go_wp2_with fail
      refine (within_any _ _ _ _ _ Ha1.out Hb1.out).mono ?_
      rw [Hab.out]
      rintro e w2 ⟨rfl, rfl⟩
      go_wp2_with fail
      refine (within_any _ _ _ _ _ Hb1.out Ha1.out).mono ?_
      rw [Hba.out]
      rintro e w2 ⟨rfl, rfl⟩
      cases xba with
      | false =>
        go_wp2
        go_ret
        exact ⟨rfl, hb1⟩
      | true =>
        go_wp2_with fail
        refine (same_any _ _ _ _ _ Ha1.out Hb1.out).mono ?_
        rw [decide_eq_true (show a = b by first | exact Han.out rfl rfl | exact Han.out trivial trivial)]
        rintro e w3 ⟨rfl, hb3⟩
        go_wp2
        go_ret
        exact ⟨rfl, hb1.trans (hb3.mono hb1.size)⟩
    | true =>
      obtain rfl : xac = true := by first | exact Htr.out rfl rfl | exact Htr.out trivial trivial | simpa using Htr.out
      go_wp2_with fail
      refine (within_any _ _ _ _ _ Ha1.out Hc1.out).mono ?_
      rw [Hac.out]
      rintro e w2 ⟨rfl, rfl⟩
      go_wp2_with fail
      refine (within_any _ _ _ _ _ Ha1.out Hb1.out).mono ?_
      rw [Hab.out]
      rintro e w2 ⟨rfl, rfl⟩
      go_wp2_with fail
      refine (within_any _ _ _ _ _ Hb1.out Ha1.out).mono ?_
      rw [Hba.out]
      rintro e w2 ⟨rfl, rfl⟩
      cases xba with
      | false =>
        go_wp2
        go_ret
        exact ⟨rfl, hb1⟩
      | true =>
        go_wp2_with fail
        refine (same_any _ _ _ _ _ Ha1.out Hb1.out).mono ?_
        rw [decide_eq_true (show a = b by first | exact Han.out rfl rfl | exact Han.out trivial trivial)]
        rintro e w3 ⟨rfl, hb3⟩
        go_wp2
        go_ret
        exact ⟨rfl, hb1.trans (hb3.mono hb1.size)⟩

set_option maxHeartbeats 1000000 in
set_option maxRecDepth 100000 in
theorem law_texts (va vb : Value) (a b : List (List UInt8)) (w : World) (ha : Strs w va a) (hb : Strs w vb b) (hf : Fits a) (hE : Env w) :
    Calls Tryd.prog 4 #[va, vb] w (Ret (.bool true) w) := by
  have Ha := Lib.hid ha
  have Hb := Lib.hid hb
  have HF := Lib.hid hf
  clear ha hb hf
  generalize hg : goodS a = g
  generalize ht : textS a = t
  generalize hw : withinS a b = x
  have HG := Lib.hid hg
  have HT := Lib.hid ht
  have HW := Lib.hid hw
  clear hg ht hw
  go_enter Tryd.func4, Tryd.ntmps4
  go_wp2_with fail
  refine (fixed_any w hE).mono ?_
  rintro e w1 ⟨rfl, hb1⟩
  have Ha1 := Lib.hid (Ha.out.below hb1 (Nat.le_refl _))
  have Hb1 := Lib.hid (Hb.out.below hb1 (Nat.le_refl _))
  have hE1 := hE.below hb1
  go_wp2_with fail
  refine (good_any _ _ _ Ha1.out HF.out hE1).mono ?_
  rw [HG.out]
  rintro e w2 ⟨rfl, hb2⟩
  have Ha2 := Lib.hid (Ha1.out.below hb2 (Nat.le_refl _))
  have Hb2 := Lib.hid (Hb1.out.below hb2 (Nat.le_refl _))
  have hE2 := hE1.below hb2
  have hbb2 := hb1.trans (hb2.mono hb1.size)
  clear hE hE1 hb1 hb2
  go_wp2_with fail
  refine (rgood_any _ _ _ Ha2.out HF.out).mono ?_
  rw [HG.out]
  rintro e w2' ⟨rfl, rfl⟩
  go_wp2_with fail
  refine (text_any _ _ _ Ha2.out HF.out hE2).mono ?_
  rw [HT.out]
  rintro e w3 ⟨rfl, hb3⟩
  have Ha3 := Lib.hid (Ha2.out.below hb3 (Nat.le_refl _))
  have Hb3 := Lib.hid (Hb2.out.below hb3 (Nat.le_refl _))
  have hbb3 := hbb2.trans (hb3.mono hbb2.size)
  clear hE2 hb3 hbb2
  go_wp2_with fail
  refine (rtext_any _ _ _ Ha3.out HF.out).mono ?_
  rw [HT.out]
  rintro e w4 ⟨rfl, hb4⟩
  have Ha4 := Lib.hid (Ha3.out.below hb4 (Nat.le_refl _))
  have Hb4 := Lib.hid (Hb3.out.below hb4 (Nat.le_refl _))
  have hbb4 := hbb3.trans (hb4.mono hbb3.size)
  clear hb4 hbb3
  go_wp2_with fail
  refine (within_any _ _ _ _ _ Ha4.out Hb4.out).mono ?_
  rw [HW.out]
  rintro e w5 ⟨rfl, rfl⟩
  go_wp2_with fail
  refine (rwithin_any _ _ _ _ _ Ha4.out Hb4.out).mono ?_
  rw [HW.out]
  rintro e w6 ⟨rfl, hb6⟩
  go_wp2
  go_ret
  exact ⟨retb (by simp), hbb4.trans (hb6.mono hbb4.size)⟩

set_option maxHeartbeats 1000000 in
set_option maxRecDepth 100000 in
theorem law_parses (t : List UInt8) (w : World) (hs : t.length ≤ 1048576) (hE : Env w) :
    Calls Tryd.prog 3 #[.string ⟨t.toArray⟩] w (Ret (.bool true) w) := by
  go_enter Tryd.func3, Tryd.ntmps3
  go_wp2_with fail
  refine (fixed_any w hE).mono ?_
  rintro e w1 ⟨rfl, hb1⟩
  have hE1 := hE.below hb1
  have P1 := Lib.hid (parse_any t w1 hs hE1)
  have P2 := Lib.hid (fun w2 => rparse_any t w2 hs)
  unfold Parsed at P1 P2
  generalize parseS t = R at P1 P2
  obtain ⟨p, d, n⟩ := R
  go_wp2_with fail
  refine P1.out.mono ?_
  rintro e w2 ⟨v2, rfl, hv2, hb2⟩
  have hbb2 := hb1.trans (hb2.mono hb1.size)
  clear hE1 hb1 hE
  go_wp2_with fail
  refine (P2.out w2).mono ?_
  rintro e w3 ⟨v3, rfl, hv3, hb3⟩
  have hv23 := hv2.below hb3 (Nat.le_refl _)
  have hbb3 := hbb2.trans (hb3.mono hbb2.size)
  clear hb3 hbb2 hv2 hb2
  go_wp2_with fail
  refine (same_any _ _ _ _ _ hv23 hv3).mono ?_
  rw [decide_eq_true rfl]
  rintro e w4 ⟨rfl, hb4⟩
  go_wp2
  go_ret
  exact ⟨retb (by simp), hbb3.trans (hb4.mono hbb3.size)⟩
end Go.Proofs.YtilmgfkpgkpmeaaDoor
