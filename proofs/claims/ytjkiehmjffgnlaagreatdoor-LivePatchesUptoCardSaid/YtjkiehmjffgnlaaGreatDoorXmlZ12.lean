import Derived.Test.YtjkiehmjffgnlaaGreatDoorXmlZ10
import Derived.Test.YtjkiehmjffgnlaaGreatDoorXmlZ1
import Derived.Maps.OwnOps
import Derived.Maps.Views
import Derived.StringKeys
import Derived.Laws.Tables
import Derived.Laws.Rows
namespace Go.Proofs.YtjkiehmjffgnlaaGreatDoor
set_option linter.unusedVariables false
set_option linter.unusedSimpArgs false
open Go.RowKit

theorem xeatB (b : Nat) (s word : List UInt8) (w : World) (h : PX w b s) : Calls Tryz.prog 90 #[.pointer (some ⟨b, 0, none⟩), .string ⟨word.toArray⟩] w
    (fun e w' => e = .returned (.bool (word.isPrefixOf s)) ∧ w.grownBy w' (some b) ∧ PX w' b (if word.isPrefixOf s then s.drop word.length else s)) := by
  refine (xeat_any b s word w h).mono ?_
  rintro e w' ⟨hg, hx⟩
  unfold eatX at hx
  cases hp : word.isPrefixOf s
  · rw [hp] at hx
    exact ⟨hx.1, hg, hx.2⟩
  · rw [hp] at hx
    exact ⟨hx.1, hg, hx.2⟩
/-- what value makes of what stands between the quotes. -/
def valK (v r : List UInt8) : X1 (List UInt8) := match valS [] v with
  | none => none
  | some t => some (t, r)
theorem valueX_K (s : List UInt8) : valueX s = if [39].isPrefixOf s then thenX (cutS [39] (s.drop 1)) valK else thenX (eatX [34] s) fun _ r => thenX (cutS [34] r) valK := by
  rw [valueX_S]
  unfold eatX
  cases hp : [39].isPrefixOf s
  · simp only [if_false, Bool.false_eq_true]
    cases hq : [34].isPrefixOf s
    · rfl
    · rfl
  · rfl
set_option maxHeartbeats 16000000 in
set_option maxRecDepth 100000 in
set_option linter.unusedSimpArgs false in
theorem xvalue_any (b : Nat) (s : List UInt8) (w : World) (h : PX w b s) (hs : s.length ≤ 1000000) (hE : XE w b) : Calls Tryz.prog 111 #[.pointer (some ⟨b, 0, none⟩)] w (XOut b (valueX s) strV w) := by
  have hbw : b < w.heap.size := h.lt
  have HE1 := Lib.hid (xeatB b s [39] w h)
  have HMu := Lib.hid (fun w s word (h : PX w b s) => xmust_any b s word w h)
  have HUp := Lib.hid (fun w1 s word (h : PX w1 b s) (hs : s.length ≤ 1000000) (hg : w.grownBy w1 (some b)) => xupto_any b s word w1 h (by omega) (hE.step hg))
  have HE := Lib.hid hE
  have hX := valueX_K s
  obtain ⟨ANS, hA⟩ : ∃ A, valueX s = A := ⟨_, rfl⟩
  rw [hA] at hX ⊢
  have HX := Lib.hid hX
  clear h hA hX hE
  go_enter Tryz.func111, Tryz.ntmps111
  go_upto_if 8 with (refine HE1.out.mono ?_; rintro e w1 ⟨rfl, hg1, hp1⟩)
  have HG1 := Lib.hid hg1
  have HP1 := Lib.hid hp1
  clear hg1 hp1 HE1
  go_cut [3] (fun qv wc => ∃ q r : List UInt8, qv = .string ⟨q.toArray⟩ ∧ w.grownBy wc (some b) ∧ PX wc b r ∧ r.length ≤ 1000000 ∧ Hid (ANS = thenX (cutS q r) valK))
  case first =>
    cases hq : [39].isPrefixOf s
    · rw [hq] at HX HP1
      clear hq
      go_wp2_with fail
      refine (HMu.out w1 s [34] HP1.out).mono ?_
      rintro e w2 ⟨hg2, hx2⟩
      have HG2 := Lib.hid (grown_trans HG1.out hg2)
      rcases h2 : eatX [34] s with _ | ⟨u, r⟩
      · rw [h2] at hx2
        subst hx2
        exact ⟨rfl, xout_no (by rw [HX.out]; show thenX (eatX [34] s) _ = _; rw [h2]; rfl) HG2.out⟩
      · rw [h2] at hx2
        obtain ⟨v, rfl, rfl, hp2⟩ := hx2
        have hl2 := eat_lenX h2
        have HK := Lib.hid (show ANS = thenX (cutS [34] r) valK by rw [HX.out]; show thenX (eatX [34] s) _ = _; rw [h2]; rfl)
        have HP2 := Lib.hid hp2
        clear h2 hp2 hg2 HX HP1 HG1
        go_wp2
        go_meet
        exact ⟨[34], r, rfl, HG2.out, HP2.out, by omega, HK⟩
    · rw [hq] at HX HP1
      clear hq
      go_wp2
      go_meet
      exact ⟨[39], s.drop 1, rfl, HG1.out, HP1.out, by rw [List.length_drop]; omega, HX⟩
  case rest =>
  obtain ⟨q, r, rfl, hg, hp, hr, HK⟩ := hcut
  have HG := Lib.hid hg
  have HP := Lib.hid hp
  clear hg hp HX HG1 HP1 HMu
  go_wp2_with fail
  refine (HUp.out _ r q HP.out hr HG.out).mono ?_
  rintro e w2 ⟨hg2, hx2⟩
  have HG2 := Lib.hid (grown_trans HG.out hg2)
  clear hg2 HG HP HUp
  rcases h2 : cutS q r with _ | ⟨v, r2⟩
  · rw [h2] at hx2
    subst hx2
    exact ⟨rfl, xout_no (by rw [HK.out, h2]; rfl) HG2.out⟩
  rw [h2] at hx2
  obtain ⟨_, rfl, rfl, hp2⟩ := hx2
  have hlv : v.length ≤ 1000000 := by
    have := congrArg List.length (cut_some h2)
    simp only [List.length_append] at this
    omega
  have HK2 := Lib.hid (show ANS = valK v r2 by rw [HK.out, h2]; rfl)
  have HP2 := Lib.hid hp2
  clear h2 hp2 HK
  go_wp2_with fail
  obtain ⟨w0, hw0, hpx, hbl, hbe⟩ := value_start w2 v
  rw [← hw0]
  have hlt2 : b < w2.heap.size := HP2.out.lt
  have HBE := Lib.hid hbe
  have HG3 := Lib.hid (grown_low HG2.out hbe (HG2.out.size))
  have HP3 := Lib.hid (HP2.out.below hbe)
  have HPX := Lib.hid hpx
  have HBL := Lib.hid hbl
  clear hw0 hpx hbl hbe
  have hsz := HG2.out.size
  generalize w2.heap.size = c at *
  have HIx := Lib.hid (fun (l : List UInt8) (w : World) (hl : l.length ≤ 1000000) => indexAny_any l [38, 60] w ascii2 (by decide) (by decide) (by omega))
  have HEx := Lib.hid (fun (wr : World) (hg : w.grownBy wr (some b)) => (fun w' hg' => HE.out w' (grown_in hg hg' hsz) : XE wr c))
  clear hlt2
  go_loopg [6] v.length (fun g _ wr => ∃ s' out : List UInt8, s'.length ≤ g ∧ s'.length ≤ 1000000 ∧ out.length + 4 * s'.length ≤ 4000000 ∧ PX wr c s' ∧ Bld (c + 1) (c + 1) out wr ∧ PX wr b r2 ∧ w.grownBy wr (some b) ∧ Hid (ANS = match valS out s' with
    | none => none
    | some t => some (t, r2)))
  case atStart => exact ⟨v, [], Nat.le_refl _, hlv, by simp; omega, HPX.out, HBL.out, HP3.out, HG3.out, HK2⟩
  case round =>
    obtain ⟨s', out, hl, hl2, hlo, hpx, hbl, hpb, hg, HK⟩ := hrel
    have hcr := hpx.lt
    have HPX2 := Lib.hid hpx
    have HBL2 := Lib.hid hbl
    have HP4 := Lib.hid hpb
    have HG4 := Lib.hid hg
    have x0 := hpx.c0
    clear HK2 HPX HBL HP3 HG3 HBE HP2 hpx hbl hpb hg
    by_cases he : s' = []
    · subst he
      have HK3 := Lib.hid (show ANS = some (out, r2) from HK.out)
      clear HK
      go_wp2_with fail
      refine (builderString_any _ _ _ _ HBL2.out).mono ?_
      rintro e w3 ⟨rfl, hb3⟩
      have HG5 := Lib.hid (grown_low HG4.out hb3 (by omega))
      have HP5 := Lib.hid (HP4.out.low hb3 (by omega))
      clear hb3
      go_wp2
      go_ret
      exact xout_ok HK3.out HG5.out rfl HP5.out
    · have hne : s'.isEmpty = false := by cases s' with | nil => exact absurd rfl he | cons => rfl
      clear he
      go_wp2_with fail
      refine (HIx.out _ _ hl2).mono ?_
      rintro e w3 ⟨rfl, hb3⟩
      have HPX3 := Lib.hid (HPX2.out.below hb3)
      have HBL3 := Lib.hid (HBL2.out.under hb3)
      have HP5 := Lib.hid (HP4.out.below hb3)
      have HG5 := Lib.hid (grown_low HG4.out hb3 HG4.out.size)
      have y0 := HPX3.out.c0
      have hc3 := HPX3.out.lt
      have hst := indexAny_stop s'
      clear x0 hb3 HPX2 HBL2 HP4 HG4 HIx
      obtain ⟨n, hn⟩ : ∃ n : Nat, n = (s'.takeWhile fun c => !stopC c).length := ⟨_, rfl⟩
      have hnl : n ≤ s'.length := by rw [hn]; exact (List.takeWhile_prefix _).length_le
      rw [← hn] at hst
      obtain ⟨ht, hd⟩ := takeW_len (fun c => !stopC c) s'
      rw [← hn] at ht hd
      have HN := Lib.hid hn
      have HT := Lib.hid ht
      have HD := Lib.hid hd
      have HST := Lib.hid hst
      clear hn ht hd hst
      go_upto_if 23 with (fail)
      go_cut [6] (fun iv wc => w3 = wc ∧ iv = .int .i64 n)
      case first =>
        rcases HST.out with ⟨h1, h2, -⟩ | ⟨h1, h2, -⟩
        · have hnn : n = s'.length := by
            have := List.takeWhile_append_dropWhile (p := fun c => !stopC c) (l := s')
            rw [h1, List.append_nil] at this
            rw [HN.out, this]
          rw [h2]
          clear h1 h2 HST HD HT HN
          subst hnn
          go_wp2
          go_meet
          exact ⟨rfl, rfl⟩
        · rw [h2]
          have h0 : ¬ ((n : Int) < 0) := by omega
          clear h1 h2 HST HD HT HN
          go_wp2
          go_meet
          exact ⟨rfl, rfl⟩
      case rest =>
      obtain ⟨rfl, rfl⟩ := hcut
      go_upto_region 11 with (fail)
      have hni : (n : Int) ≤ (s'.length : Int) := by omega
      have hn0 : (0 : Int) ≤ (n : Int) := by omega
      obtain ⟨M, hM⟩ : ∃ M, M = (linesX (s'.take n)).map flatC := ⟨_, rfl⟩
      have hml : M.length ≤ n := by
        have := linesX_len (s'.take n)
        rw [List.length_take] at this
        rw [hM, List.length_map]
        omega
      have HM := Lib.hid hM
      clear hM
      go_cut [34] (fun _ wc => PX wc c s' ∧ Bld (c + 1) (c + 1) (out ++ M) wc ∧ PX wc b r2 ∧ w.grownBy wc (some b))
      case first =>
        have HLn := Lib.hid (fun (wx : World) (h : Below w3.heap.size w3 wx) => xlines_any (s'.take n) wx (by rw [List.length_take]; omega) (HE.out wx (grown_low HG5.out h HG5.out.size)))
        have HRp := Lib.hid (fun (wx : World) (bq : Nat) (h : BoxV wx bq) (hq : w3.heap.size ≤ bq) => xreplBox bq w3.heap.size (linesX (s'.take n)) wx h hq (by have := linesX_len (s'.take n); rw [List.length_take] at this; omega))
        have HT0 : Below w3.heap.size w3 w3.drew := below_draws (Below.refl _ _) 1
        have HT1 : Below w3.heap.size w3 (w3.alloc boxCells).drew := below_draws ((Below.refl _ _).alloc (Nat.le_refl _) _) 1
        have HTa := Lib.hid (fun (wx : World) (h : Below w3.heap.size w3 wx) => (h.alloc h.size boxCells : Below w3.heap.size w3 (wx.alloc boxCells)))
        have HTb := Lib.hid (fun (wx wy : World) (h : Below w3.heap.size w3 wx) (hb : Below wx.heap.size wx wy) => (h.trans (hb.mono h.size) : Below w3.heap.size w3 wy))
        have HTc := Lib.hid (fun (wx wy : World) (h : Below w3.heap.size w3 wx) (hb : Below w3.heap.size wx wy) => (h.trans hb : Below w3.heap.size w3 wy))
        have HTs := Lib.hid (fun (wx : World) (bq : Nat) (h : Below w3.heap.size w3 wx) (hq : wx.heap.size ≤ bq) => Nat.le_trans h.size hq)
        have HS := Lib.hid (fun (wx : World) (h : Below w3.heap.size w3 wx) => (⟨(h.cell (p := ⟨c, 0, none⟩) hc3).trans y0, h.mono hc3⟩ : wx.cell? ⟨c, 0, none⟩ = some (.string ⟨s'.toArray⟩) ∧ Below (c + 1) w3 wx))
        have HSf := Lib.hid (fun (wx wy : World) (h : Below w3.heap.size w3 wx) (hb : Below (c + 1) wx wy) => (⟨(hb.cell (p := ⟨c, 0, none⟩) (Nat.lt_succ_self c)).trans ((h.cell (p := ⟨c, 0, none⟩) hc3).trans y0), (h.mono hc3).trans hb⟩ : wy.cell? ⟨c, 0, none⟩ = some (.string ⟨s'.toArray⟩) ∧ Below (c + 1) w3 wy))
        have HWr := Lib.hid (fun (wx : World) (h : Below w3.heap.size w3 wx) => writeString_any (c + 1) (c + 1) out M wx (HBL3.out.under h) (by omega))
        rw [HM.out] at HWr
        unfold boxCells at HT1 HTa
        go_region_held3 (fun w' => w'.cell? ⟨c, 0, none⟩ = some (.string ⟨s'.toArray⟩) ∧ Below (c + 1) w3 w')
          (first | exact HS.out _ HT0 | exact HS.out _ HT1 | exact HS.out _ (by assumption) | exact HS.out _ (HTa.out _ (by assumption)) | assumption)
          (first
            | (go_at_call 66; refine (xnewBox _ _ (by first | exact boxAt1 _ | exact boxAt0 _ | exact boxAt2 _ _ (by assumption))).mono ?_; rintro e w4 ⟨bq, rfl, hq, hb4, hbx⟩; have hT4 := HTb.out _ _ (by first | assumption | exact HTa.out _ (by assumption)) hb4; have hHq := HTs.out _ _ (by first | assumption | exact HTa.out _ (by assumption)) hq)
            | (go_at_call 113; refine (HLn.out _ (by assumption)).mono ?_; rintro e w5 ⟨rfl, hb5⟩; have hT5 := HTb.out _ _ (by assumption) hb5)
            | (go_at_call 94; refine (HRp.out _ _ (by first | assumption | exact BoxV.under (by assumption) (by assumption)) (by assumption)).mono ?_; rintro e w6 ⟨rfl, hb6⟩; have hT6 := HTc.out _ _ (by assumption) hb6)
            | (go_at_call 73; refine (HWr.out _ (by assumption)).mono ?_; rintro e w7 ⟨rfl, hbl7, hb7⟩; have hS7 := HSf.out _ _ (by assumption) hb7))
        all_goals
          go_wp2
          go_meet
          exact ⟨HPX3.out.low hS7.2 (by omega), by rw [HM.out]; exact hbl7, HP5.out.low hS7.2 (by omega), grown_low HG5.out hS7.2 (by omega)⟩
      case rest =>
      obtain ⟨hpx, hbl, hpb, hg⟩ := hcut
      have HBL6 := Lib.hid (hbl.step (xgrown_cell wc c 0 (.string ⟨(s'.drop n).toArray⟩)) (Nat.lt_succ_self c))
      have HPX6 := Lib.hid (hpx.set (s'.drop n))
      have HP6 := Lib.hid (hpb.keep (xgrown_cell wc c 0 (.string ⟨(s'.drop n).toArray⟩)) (by intro e; injection e with e; omega))
      have HG6 := Lib.hid (grown_in hg (xgrown_cell wc c 0 (.string ⟨(s'.drop n).toArray⟩)) hsz)
      have z0 := hpx.c0
      have zf := hpx.f0
      have hVE := valS_eq out s'
      rw [if_neg (by intro e; rw [e] at hne; cases hne)] at hVE
      rw [← HT.out, ← HM.out, ← HD.out] at hVE
      have HVE := Lib.hid hVE
      have hDl : (s'.drop n).length = s'.length - n := List.length_drop ..
      have hsl : 0 < s'.length := by cases s' with | nil => cases hne | cons => exact Nat.succ_pos _
      clear hpx hbl hpb hg hVE HST HBL3 HPX3 HP5 HG5 y0 hc3
      go_upto_region 13 with (fail)
      generalize hD : s'.drop n = D at *
      generalize wc.setCell ⟨c, 0, none⟩ (.string ⟨D.toArray⟩) = wd at *
      clear z0 zf hD
      have y0 := HPX6.out.c0
      rcases D with _ | ⟨x, q⟩
      · have hns : n = s'.length := by simp at hDl; omega
        have HK3 := Lib.hid (show ANS = match valS (out ++ M) [] with
          | none => none
          | some t => some (t, r2) by rw [HK.out, HVE.out, valS_eq, if_pos rfl, HM.out, hns, List.take_length])
        clear HVE HK HM HT HD hns hDl
        go_wp2
        go_roundg 0
        case measure => omega
        case rel => exact ⟨[], out ++ M, Nat.zero_le _, Nat.zero_le _, by simp only [List.length_append, List.length_nil]; omega, HPX6.out, HBL6.out, HP6.out, HG6.out, HK3⟩
      · have hne2 : (x :: q).isEmpty = false := rfl
        have HMu := Lib.hid (fun (w : World) (h : PX w c (x :: q)) => xmust_any c (x :: q) [38] w h)
        have HRf := Lib.hid (fun (wx : World) (s : List UInt8) (h : PX wx c s) (hs : s.length ≤ 1000000) (hg : w.grownBy wx (some b)) => xref_any c s wx h hs (HEx.out wx hg))
        have HXQ := Lib.hid (show eatX [38] (x :: q) = if x = 38 then some ((), q) else none from by
          unfold eatX
          by_cases hx : x = 38
          · subst hx; rfl
          · rw [if_neg hx]
            have : ([38] : List UInt8).isPrefixOf (x :: q) = false := by
              rw [List.isPrefixOf, show ((38 : UInt8) == x) = false from beq_eq_false_iff_ne.2 (fun e => hx e.symm)]; rfl
            rw [this]; rfl)
        rw [List.length_cons] at hDl
        have HVE2 := Lib.hid (show valS out s' = if x = 38 then
          match refX q with
          | none => none
          | some (t, r) => valS (out ++ M ++ t) r
        else none by rw [HVE.out]; rw [HM.out]; rfl)
        clear HVE
        generalize hDx : x :: q = D at *
        clear hDx
        go_wp2_with fail
        refine (HMu.out wd HPX6.out).mono ?_
        rintro e w8 ⟨hg8, hx8⟩
        rw [HXQ.out] at hx8
        have HG8 := Lib.hid (grown_in HG6.out hg8 hsz)
        have HBL8 := Lib.hid (HBL6.out.step hg8 (Nat.lt_succ_self c))
        have HP8 := Lib.hid (HP6.out.keep hg8 (by intro e; injection e with e; omega))
        clear hg8 HG6 HBL6 HP6 HPX6 HMu HXQ
        by_cases hx : x = 38
        · rw [if_pos hx] at hx8 HVE2
          obtain ⟨_, rfl, rfl, hp8⟩ := hx8
          have HPX8 := Lib.hid hp8
          clear hp8 hx
          go_wp2_with fail
          refine (HRf.out w8 q HPX8.out (by omega) HG8.out).mono ?_
          rintro e w9 ⟨hg9, hx9⟩
          have HG9 := Lib.hid (grown_in HG8.out hg9 hsz)
          have HBL9 := Lib.hid (HBL8.out.step hg9 (Nat.lt_succ_self c))
          have HP9 := Lib.hid (HP8.out.keep hg9 (by intro e; injection e with e; omega))
          clear hg9 HG8 HBL8 HP8 HPX8 HRf
          rcases hr9 : refX q with _ | ⟨t, r⟩
          · rw [hr9] at hx9 HVE2
            subst hx9
            exact ⟨rfl, xout_no (by rw [HK.out, HVE2.out]) HG9.out⟩
          · rw [hr9] at hx9 HVE2
            obtain ⟨_, rfl, rfl, hp9⟩ := hx9
            have hl9 := (refX_ok hr9).1
            have ht4 := refX_len hr9
            have HPX9 := Lib.hid hp9
            have HK9 := Lib.hid (show ANS = match valS (out ++ M ++ t) r with
              | none => none
              | some t => some (t, r2) by rw [HK.out, HVE2.out])
            have hlen9 : (out ++ M).length + t.length ≤ 140737488355328 := by rw [List.length_append]; omega
            clear hp9 hr9 HK HVE2
            go_wp2_with fail
            refine (writeString_any (c + 1) (c + 1) (out ++ M) t w9 HBL9.out hlen9).mono ?_
            rintro e w10 ⟨rfl, hbl10, hb10⟩
            have HBL10 := Lib.hid hbl10
            have HPX10 := Lib.hid (HPX9.out.low hb10 (Nat.lt_succ_self c))
            have HP10 := Lib.hid (HP9.out.low hb10 (by omega))
            have HG10 := Lib.hid (grown_low HG9.out hb10 (by omega))
            clear hbl10 hb10 HBL9 HPX9 HP9 HG9
            go_wp2
            go_roundg r.length
            case measure => omega
            case rel => exact ⟨r, out ++ M ++ t, Nat.le_refl _, by omega, by simp only [List.length_append]; omega, HPX10.out, HBL10.out, HP10.out, HG10.out, HK9⟩
        · rw [if_neg hx] at hx8 HVE2
          subst hx8
          exact ⟨rfl, xout_no (by rw [HK.out, HVE2.out]) HG8.out⟩
end Go.Proofs.YtjkiehmjffgnlaaGreatDoor
namespace Go.Proofs.YtjkiehmjffgnlaaGreatDoor
set_option linter.unusedVariables false
set_option linter.unusedSimpArgs false
open Go.RowKit Go.Maps

theorem cntKey : Keyed Tryz.prog 9 := string_keyed Tryz.underlying9
theorem cntZero (w : World) : (zeroValue 3).run Tryz.prog w = .ok (.int .i64 0) w := by kernel_rfl
def Cnt (w : World) (b n : Nat) (f : List UInt8 → Int) : Prop := ∃ D : DataW Unit, w.ownsMap Tryz.prog 9 (plainElem Tryz.prog 3) b n D ∧ IsMap D ∧ ∀ key, D.atKey (.string key) (.lit (.int .i64 0)) = .lit (.int .i64 (f key))
theorem Cnt.made (w : World) : Cnt (w.alloc (.map #[] 0)) w.heap.size 0 (fun _ => 0) := ⟨_, World.ownsMap_made _ _ _ _, isMap_empty, fun _ => rfl⟩
theorem Cnt.lt {w : World} {b n : Nat} {f : List UInt8 → Int} (h : Cnt w b n f) : b < w.heap.size := by obtain ⟨D, h, -⟩ := h; exact h.lt
theorem Cnt.kept {w w' : World} {b n : Nat} {f : List UInt8 → Int} {row : Option Nat} (h : Cnt w b n f) (hg : w.grownBy w' row) (hne : some b ≠ row) : Cnt w' b n f := by
  obtain ⟨D, h1, h2, h3⟩ := h
  exact ⟨D, h1.kept hg hne, h2, h3⟩
theorem Cnt.below {w w' : World} {b n : Nat} {f : List UInt8 → Int} (h : Cnt w b n f) (hb : Below w.heap.size w w') : Cnt w' b n f := h.kept (row := none) (Below.toGrown hb none) (by simp)
theorem Cnt.alloc {w : World} {b n : Nat} {f : List UInt8 → Int} (h : Cnt w b n f) (o : Obj) : Cnt (w.alloc o) b n f := h.kept (World.grownBy_alloc w o none) (by simp)
theorem key_str {l : List UInt8} (h : l.length ≤ maxLen) : keyOf Tryz.prog 9 (.string ⟨l.toArray⟩) = some (.string l) := by
  have := Go.WideMaps.keyOf_string_mk (s := ⟨l.toArray⟩) Tryz.underlying9 h
  simpa using this
theorem wpList_cnt_look (w : World) {ops : Array Oper} {rest : List Oper} {o : Oper} {a : Act} {Q : Exit → Act → World → Prop}
    (hg : o.guard = none) (m x : Operand) (hop : o.op = Op.lookup 179 m x false) (b n : Nat) (f : List UInt8 → Int)
    (hm : a.eval m = .map (some b)) (hown : Cnt w b n f) (key : List UInt8) (c : Int) (hc : f key = c) (hx : a.eval x = .string ⟨key.toArray⟩) (hkey : key.length ≤ maxLen)
    (hK : wpList Tryz.prog ops Q rest (a.put o.dst (.int .i64 c)) w) : wpList Tryz.prog ops Q (o :: rest) a w := by
  obtain ⟨D, h1, h2, h3⟩ := hown
  refine wpList_lookup_own_int w hg m x 179 hop 9 3 .i64 cntKey Tryz.underlying179 Tryz.underlying3 (cntZero w) b n D hm h1 _ _ hx (key_str hkey) fun c' hat hwc => ?_
  rw [h3] at hat
  injection hat with hat
  injection hat with _ hat
  rw [← hat, hc]
  exact hK
theorem wpList_cnt_store (w : World) {ops : Array Oper} {rest : List Oper} {o : Oper} {a : Act} {Q : Exit → Act → World → Prop}
    (hg : o.guard = none) (m x v : Operand) (hop : o.op = Op.mapUpdate 179 m x v) (b n : Nat) (f : List UInt8 → Int)
    (hm : a.eval m = .map (some b)) (hown : Cnt w b n f) (hn : n < maxLen) (key : List UInt8) (c : Int) (hx : a.eval x = .string ⟨key.toArray⟩) (hv : a.eval v = .int .i64 c) (hkey : key.length ≤ maxLen) (hc0 : 0 ≤ c) (hc1 : c ≤ 9223372036854775807)
    (hK : ∀ w', Cnt w' b (n + 1) (fun k => if k = key then c else f k) → w.grownBy w' (some b) → wpList Tryz.prog ops Q rest (a.put o.dst undef) w') : wpList Tryz.prog ops Q (o :: rest) a w := by
  obtain ⟨D, h1, h2, h3⟩ := hown
  have hwf : (Lit.int .i64 c).wf = true := by
    simp only [Lit.wf, IntKind.min, IntKind.max, IntKind.signed, IntKind.bits]
    simp
    omega
  refine wpList_mapUpdate_own w hg m x v 179 hop 9 3 cntKey Tryz.underlying179 (plainElem Tryz.prog 3) b n D hm h1 hn _ _ _ hx hv (key_str hkey) _ [] (plainElem_int Tryz.underlying3 hwf) fun w' h4 h5 => hK w' ⟨_, h4, h2.put _ _, fun k => ?_⟩ h5
  by_cases e : k = key
  · subst e
    simp only [if_pos rfl]
    exact atKey_put_same h2 (by simp [WideAt.IsKeyLit]) _ _
  · simp only [if_neg e]
    rw [atKey_put_other (by intro h; injection h with h; exact e h)]
    exact h3 k
end Go.Proofs.YtjkiehmjffgnlaaGreatDoor
namespace Go.Proofs.YtjkiehmjffgnlaaGreatDoor
set_option linter.unusedVariables false
set_option linter.unusedSimpArgs false
open Go.RowKit

def acells (a : AttrT) : List Value := [.string ⟨a.name.toArray⟩, .string ⟨a.value.toArray⟩]
theorem elemA : ElemN Tryz.prog 44 87 2 (.agg #[.string ⟨#[]⟩, .string ⟨#[]⟩]) 32 := ⟨Tryz.underlying44, by kernel_rfl, rfl, by omega, by omega⟩
def cntF (seen : List (List UInt8)) (key : List UInt8) : Int := if key ∈ seen then 1 else 0
theorem cntF_cons (seen : List (List UInt8)) (key : List UInt8) : (fun k => if k = key then 1 else cntF seen k) = cntF (key :: seen) := by
  funext k
  unfold cntF
  by_cases h : k = key
  · rw [if_pos h, if_pos (by rw [h]; exact List.mem_cons_self ..)]
  · rw [if_neg h]
    by_cases h2 : k ∈ seen
    · rw [if_pos h2, if_pos (List.mem_cons_of_mem _ h2)]
    · rw [if_neg h2, if_neg (by rw [List.mem_cons, not_or]; exact ⟨h, h2⟩)]
structure AtS (B b m n : Nat) (w : World) (av sv : Value) (seen : List (List UInt8)) (out : List AttrT) (sc : Scope) : Prop where
  own : OwnT 87 2 B (out.map acells) av w
  scope : ScP (fun k => k ≠ b ∧ some k ≠ av.ownBlock) w sv sc
  cnt : Cnt w m n (cntF seen)
  map : B ≤ m
  low : b < B
  size : B ≤ w.heap.size
section
variable {B b m n : Nat} {w w' : World} {av sv : Value} {seen : List (List UInt8)} {out : List AttrT} {sc : Scope}
theorem AtS.step (h : AtS B b m n w av sv seen out sc) (hg : w.grownBy w' (some b)) : AtS B b m n w' av sv seen out sc :=
  ⟨h.own.grown hg (fun k hk e => by injection e with e; have := (h.own.lt k hk).1; have := h.low; omega), h.scope.move (Moves.grown hg fun k hk _ => ⟨hk, fun e => by injection e with e; exact hk.1 e⟩),
    h.cnt.kept hg (fun e => by injection e with e; have := h.map; have := h.low; omega), h.map, h.low, Nat.le_trans h.size hg.size⟩
theorem ScP.lt {P : Nat → Prop} {w : World} {sc : Scope} {v : Value} (h : ScP P w v sc) (hne : sc ≠ []) : ∃ k, v = .pointer (some ⟨k, 0, none⟩) ∧ k < w.heap.size := by
  rcases sc with _ | ⟨⟨p, s⟩, r⟩
  · exact absurd rfl hne
  · obtain ⟨k, up, hv, -, hc, -⟩ := h
    exact ⟨k, hv, xlt hc⟩
theorem ScP.with {P Q : Nat → Prop} {w : World} : ∀ {sc : Scope} {v : Value}, ScP P w v sc → (∀ k (p s : List UInt8) (up : Value), P k → w.heap[k]? = some (.cells #[.string ⟨p.toArray⟩, .string ⟨s.toArray⟩, up] 181 (0, 0)) → Q k) → ScP Q w v sc
  | [], _, h, _ => h
  | (p, s) :: r, v, h, hq => by
    obtain ⟨k, up, hv, hp, hc, hr⟩ := h
    exact ⟨k, up, hv, hq k p s up hp hc, hc, hr.with hq⟩
theorem AtS.count (h : AtS B b m n w av sv seen out sc) {key : List UInt8} (hg : w.grownBy w' (some m)) (hc : Cnt w' m (n + 1) (fun k => if k = key then 1 else cntF seen k)) : AtS B b m (n + 1) w' av sv (key :: seen) out sc := by
  obtain ⟨D, hD, -⟩ := h.cnt
  have hm : ∃ es cl, w.heap[m]? = some (.map es cl) := by
    obtain ⟨es, cl, hb, -⟩ := hD
    exact ⟨es, cl, hb⟩
  obtain ⟨es, cl, hm⟩ := hm
  refine ⟨h.own.grown hg (fun k hk e => ?_), ?_, by rw [← cntF_cons]; exact hc, h.map, h.low, Nat.le_trans h.size hg.size⟩
  · injection e with e
    subst e
    rcases h.own.1.2 with ⟨hv, -⟩ | ⟨g, cap, cur, hv, -, hh, -⟩
    · rw [hv] at hk; cases hk
    · rw [hv] at hk
      injection hk with hk
      subst hk
      rw [hm] at hh
      cases hh
  · refine (h.scope.with (Q := fun k => (k ≠ b ∧ some k ≠ av.ownBlock) ∧ k ≠ m) fun k p s up hk hcell => ⟨hk, fun e => by rw [e, hm] at hcell; cases hcell⟩).move (Moves.grown hg fun k hk _ => ⟨hk.1, fun e => by injection e with e; exact hk.2 e⟩)
theorem AtS.push (h : AtS B b m n w av sv seen out sc) (p v : List UInt8) : AtS B b m n (w.alloc (.cells #[.string ⟨p.toArray⟩, .string ⟨v.toArray⟩, sv] 181 (0, 0))) av (.pointer (some ⟨w.heap.size, 0, none⟩)) seen out ((p, v) :: sc) := by
  have hb : Below w.heap.size w (w.alloc (.cells #[.string ⟨p.toArray⟩, .string ⟨v.toArray⟩, sv] 181 (0, 0))) := (Below.refl _ _).alloc (Nat.le_refl _) _
  refine ⟨h.own.alloc _, ⟨w.heap.size, sv, rfl, ⟨by have := h.low; have := h.size; omega, fun e => ?_⟩, heap_alloc_new w _, h.scope.move (Moves.below hb fun _ hk _ => hk)⟩, h.cnt.below hb, h.map, h.low, Nat.le_trans h.size hb.size⟩
  have := (h.own.lt _ e.symm).2
  omega
theorem AtS.app (h : AtS B b m n w av sv seen out sc) {a : AttrT} {av' : Value} (ho : OwnT 87 2 B (out.map acells ++ [acells a]) av' w') (hg : w.grownBy w' av.ownBlock) (hn : av'.ownBlock = av.ownBlock ∨ ∃ k, av'.ownBlock = some k ∧ w.heap.size ≤ k) : AtS B b m n w' av' sv seen (out ++ [a]) sc := by
  obtain ⟨D, hD, -⟩ := h.cnt
  obtain ⟨es, cl, hm, -⟩ := hD
  have key : ∀ k, some k ≠ av.ownBlock → k < w.heap.size → some k ≠ av'.ownBlock := fun k hk hlt => by
    rcases hn with hn | ⟨j, hj, hjk⟩
    · rw [hn]; exact hk
    · rw [hj]; intro e; injection e with e; omega
  refine ⟨by rw [List.map_append]; exact ho, h.scope.move ⟨hg.size, fun k hk hlt => ⟨⟨hk.1, key k hk.2 hlt⟩, hg.block k hlt hk.2⟩⟩, h.cnt.kept hg (fun e => ?_), h.map, h.low, Nat.le_trans h.size hg.size⟩
  · rcases h.own.1.2 with ⟨hv, -⟩ | ⟨g, cap, cur, hv, -, hh, -⟩
    · rw [hv] at e; cases e
    · rw [hv] at e
      injection e with e
      subst e
      rw [hm] at hh
      cases hh
end
theorem attrs_tab {B : Nat} {w : World} {av : Value} {out : List AttrT} (h : OwnT 87 2 B (out.map acells) av w) : AttrsP (B ≤ ·) w av out := by
  refine ⟨h.tab (by simp) fun j x r hx hr => ?_, fun _ k hk => (h.lt k hk).1⟩
  rw [List.getElem?_map, hx] at hr
  injection hr with hr
  subst hr
  rfl
def AtV (B b : Nat) (w : World) (v : Value) (x : List AttrT × Scope) : Prop := ∃ av sv, v = .tuple #[av, sv] ∧ AttrsP (B ≤ ·) w av x.1 ∧ ScP (· ≠ b) w sv x.2
theorem AtS.out {B b m n : Nat} {w : World} {av sv : Value} {seen : List (List UInt8)} {out : List AttrT} {sc : Scope} (h : AtS B b m n w av sv seen out sc) : AtV B b w (.tuple #[av, sv]) (out, sc) :=
  ⟨av, sv, rfl, attrs_tab h.own, h.scope.with fun k _ _ _ hk _ => hk.1⟩
end Go.Proofs.YtjkiehmjffgnlaaGreatDoor
namespace Go.Proofs.YtjkiehmjffgnlaaGreatDoor
set_option linter.unusedVariables false
set_option linter.unusedSimpArgs false
open Go.RowKit

theorem acells_one (a : AttrT) : ∀ u ∈ acells a, u.oneCell' = true := by
  intro u hu
  simp only [acells, List.mem_cons, List.not_mem_nil, or_false] at hu
  rcases hu with rfl | rfl <;> rfl
theorem qname_parts {s r : List UInt8} {pl : List UInt8 × List UInt8} (h : qnameX s = some (pl, r)) : pl.1.length ≤ s.length ∧ pl.2.length ≤ s.length := by
  unfold qnameX at h
  obtain ⟨a, q, h1, h⟩ := thenX_some h
  have l1 : a.length + q.length = s.length := by rw [(nameX_some h1).1, List.length_append]
  split at h
  · injection h with h
    injection h with h _
    subst h
    exact ⟨Nat.zero_le _, by show a.length ≤ _; omega⟩
  · rename_i u q2 he
    obtain ⟨a2, q3, h2, h⟩ := thenX_some h
    have l2 := eat_lenX he
    have l3 : a2.length + q3.length = q2.length := by rw [(nameX_some h2).1, List.length_append]
    injection h with h
    injection h with h _
    subst h
    exact ⟨by show a.length ≤ _; omega, by show a2.length ≤ _; omega⟩
theorem ScP.ptr {P : Nat → Prop} {w : World} {sc : Scope} {v : Value} (h : ScP P w v sc) : ∃ o, v = .pointer o := by
  rcases sc with _ | ⟨⟨p, s⟩, r⟩
  · exact ⟨none, h⟩
  · obtain ⟨k, up, hv, -⟩ := h
    exact ⟨_, hv⟩
set_option maxHeartbeats 32000000 in
set_option maxRecDepth 100000 in
set_option linter.unusedSimpArgs false in
theorem xattrs_any (b : Nat) (s : List UInt8) (sv : Value) (sc : Scope) (w : World) (h : PX w b s) (hs : s.length ≤ 1000000) (hE : XE w b) (hsc : ScP (· ≠ b) w sv sc) :
    Calls Tryz.prog 88 #[.pointer (some ⟨b, 0, none⟩), sv] w (XOut b (attrsS [] [] sc s) (AtV w.heap.size b) w) := by
  have hbw : b < w.heap.size := h.lt
  have hmm := @run_makeMap Tryz.prog
  have HW := Lib.hid (fun wx s (h : PX wx b s) => xwhite_any b s wx h)
  have HHp := Lib.hid (fun s p wx => xhasPrefix_any s p wx)
  have HQn := Lib.hid (fun wx s (h : PX wx b s) (hs : s.length ≤ 1000000) => xqname_any b s wx h (by omega))
  have HMu := Lib.hid (fun wx s word (h : PX wx b s) => xmust_any b s word wx h)
  have HVa := Lib.hid (fun wx s (h : PX wx b s) (hs : s.length ≤ 1000000) (hg : w.grownBy wx (some b)) => xvalue_any b s wx h hs (hE.step hg))
  obtain ⟨ANS, hA⟩ : ∃ A, attrsS [] [] sc s = A := ⟨_, rfl⟩
  rw [hA]
  have HA := Lib.hid hA
  have HP := Lib.hid (h.below ((Below.refl w.heap.size w).alloc (Nat.le_refl _) (.map #[] 0)))
  have HG0 := Lib.hid (Below.toGrown ((Below.refl w.heap.size w).alloc (Nat.le_refl _) (.map #[] 0)) (some b))
  have HS0 := Lib.hid (show AtS w.heap.size b w.heap.size 0 (w.alloc (.map #[] 0)) (.slice none 0 0) sv [] [] sc from
    ⟨OwnT.nil _ _ _ _, (hsc.with fun k _ _ _ hk _ => ⟨hk, by simp [Value.ownBlock]⟩ : ScP (fun k => k ≠ b ∧ some k ≠ (Value.slice none 0 0).ownBlock) w sv sc).move (Moves.below ((Below.refl w.heap.size w).alloc (Nat.le_refl _) (.map #[] 0)) fun _ hk _ => hk), Cnt.made w, Nat.le_refl _, hbw, by simp⟩)
  clear h hA hE hsc
  go_enter Tryz.func88, Tryz.ntmps88
  go_wp2_with fail
  generalize w.alloc (.map #[] 0) = w0 at *
  obtain ⟨B, hB⟩ : ∃ B, B = w.heap.size := ⟨_, rfl⟩
  rw [← hB] at HS0 hbw ⊢
  have HO := Lib.hid (fun (wx : World) (av sv' : Value) (seen : List (List UInt8)) (out : List AttrT) (sc : Scope) (n : Nat) (h : AtS B b B n wx av sv' seen out sc) => (hB ▸ h.out : AtV w.heap.size b wx (.tuple #[av, sv']) (out, sc)))
  have hBw : w.heap.size ≤ B := Nat.le_of_eq hB.symm
  clear hB hmm
  go_loopg [1, 6] s.length (fun g sv av wr => ∃ (s' : List UInt8) (seen : List (List UInt8)) (out : List AttrT) (sc : Scope) (n : Nat), s'.length ≤ g ∧ s'.length ≤ 1000000 ∧ n + s'.length ≤ 1000000 ∧ out.length + s'.length ≤ 1000000 ∧ PX wr b s' ∧ w.grownBy wr (some b) ∧ AtS B b B n wr av sv seen out sc ∧ Hid (attrsS seen out sc s' = ANS))
  case atStart => exact ⟨s, [], [], sc, 0, Nat.le_refl _, hs, by omega, by simp; omega, HP.out, HG0.out, HS0.out, HA⟩
  case round =>
    obtain ⟨s', seen, out, sc, n, hl, hl2, hln, hlo, hp, hg, hst, HK⟩ := hrel
    obtain ⟨up, rfl⟩ := hst.scope.ptr
    have HP1 := Lib.hid hp
    have HG1 := Lib.hid hg
    have HS1 := Lib.hid hst
    have hKe := attrsS_eq seen out sc s'
    rw [HK.out] at hKe
    have HKe := Lib.hid hKe
    clear hp hg hst HP HG0 HS0 HA hKe HK
    go_wp2_with fail
    refine (HW.out wr s' HP1.out).mono ?_
    rintro e w1 ⟨hg1, rfl, hp1⟩
    have HG2 := Lib.hid (grown_trans HG1.out hg1)
    have HS2 := Lib.hid (HS1.out.step hg1)
    have HP2 := Lib.hid hp1
    have hwl := white_le s'
    clear hg1 hp1 HG1 HS1 HP1
    by_cases hw : (whiteX s').length < s'.length
    case neg =>
      have hd : decide ((whiteX s').length < s'.length) = false := decide_eq_false hw
      have HK := Lib.hid (show ANS = some ((out, sc), whiteX s') by rw [HKe.out, if_neg (fun h => hw h.1)])
      rw [hd]
      clear hd HKe hw
      go_wp2
      go_ret2
      exact xout_ok HK.out HG2.out (HO.out _ _ _ _ _ _ _ HS2.out) HP2.out
    have hd : decide ((whiteX s').length < s'.length) = true := decide_eq_true hw
    rw [hd]
    clear hd
    obtain ⟨r0, hr0⟩ : ∃ r0, r0 = whiteX s' := ⟨_, rfl⟩
    rw [← hr0] at HKe HP2 hwl
    have hr0l : r0.length < s'.length := by rw [hr0]; exact hw
    have HR0 := Lib.hid hr0
    clear hr0 hw
    have x0 := HP2.out.c0
    go_wp2_with fail
    refine (HHp.out r0 [62] w1).mono ?_
    rintro e w2 ⟨rfl, rfl⟩
    cases h62 : [62].isPrefixOf r0
    case true =>
      have HK := Lib.hid (show ANS = some ((out, sc), r0) by rw [HKe.out, if_neg (fun h => by rw [h62] at h; cases h.2.1)])
      clear HKe h62
      go_wp2
      go_ret2
      exact xout_ok HK.out HG2.out (HO.out _ _ _ _ _ _ _ HS2.out) HP2.out
    go_wp2_with fail
    refine (HHp.out r0 [47, 62] w1).mono ?_
    rintro e w2 ⟨rfl, rfl⟩
    cases h47 : [47, 62].isPrefixOf r0
    case true =>
      have HK := Lib.hid (show ANS = some ((out, sc), r0) by rw [HKe.out, if_neg (fun h => by rw [h47] at h; cases h.2.2)])
      clear HKe h47 h62
      go_wp2
      go_ret2
      exact xout_ok HK.out HG2.out (HO.out _ _ _ _ _ _ _ HS2.out) HP2.out
    have HK1 := Lib.hid (show ANS = thenX (qnameX r0) fun pl r => thenX (eatX [61] (whiteX r)) fun _ r => thenX (valueX (whiteX r)) fun v r =>
        if pl.1 ++ 58 :: pl.2 ∈ seen then none
        else if pl.1 = [] ∧ pl.2 = wXmlns then attrsS ((pl.1 ++ 58 :: pl.2) :: seen) out (([], v) :: sc) r
        else if pl.1 = wXmlns then (if v = [] ∨ pl.2 = wXml ∨ pl.2 = wXmlns then none else attrsS ((pl.1 ++ 58 :: pl.2) :: seen) out ((pl.2, v) :: sc) r)
        else if pl.1 ≠ [] then none
        else attrsS ((pl.1 ++ 58 :: pl.2) :: seen) (out ++ [⟨pl.2, v⟩]) sc r by rw [HKe.out, if_pos ⟨hr0l, h62, h47⟩])
    clear HKe h47 h62 x0 HHp
    go_wp2_with fail
    refine (HQn.out w1 r0 HP2.out (by omega)).mono ?_
    rintro e w3 ⟨hg3, hx3⟩
    have HG3 := Lib.hid (grown_trans HG2.out hg3)
    have HS3 := Lib.hid (HS2.out.step hg3)
    clear hg3 HG2 HS2 HP2 HQn
    rcases h3 : qnameX r0 with _ | ⟨⟨p, l⟩, r1⟩
    · rw [h3] at hx3
      subst hx3
      exact ⟨rfl, xout_no (by rw [HK1.out, h3]; rfl) HG3.out⟩
    rw [h3] at hx3
    obtain ⟨_, rfl, rfl, hp3⟩ := hx3
    have hl3 := qnameX_len h3
    have HP3 := Lib.hid hp3
    have HK3 := Lib.hid (show ANS = thenX (eatX [61] (whiteX r1)) fun _ r => thenX (valueX (whiteX r)) fun v r =>
        if p ++ 58 :: l ∈ seen then none
        else if p = [] ∧ l = wXmlns then attrsS ((p ++ 58 :: l) :: seen) out (([], v) :: sc) r
        else if p = wXmlns then (if v = [] ∨ l = wXml ∨ l = wXmlns then none else attrsS ((p ++ 58 :: l) :: seen) out ((l, v) :: sc) r)
        else if p ≠ [] then none
        else attrsS ((p ++ 58 :: l) :: seen) (out ++ [⟨l, v⟩]) sc r by rw [HK1.out, h3]; rfl)
    have hpl : p.length ≤ 1000000 ∧ l.length ≤ 1000000 := by have := qname_parts h3; simp only at this; omega
    clear h3 hp3 HK1
    go_wp2_with fail
    refine (HW.out w3 r1 HP3.out).mono ?_
    rintro e w4 ⟨hg4, rfl, hp4⟩
    have HG4 := Lib.hid (grown_trans HG3.out hg4)
    have HS4 := Lib.hid (HS3.out.step hg4)
    have HP4 := Lib.hid hp4
    have hl4 := white_le r1
    clear hg4 hp4 HG3 HS3 HP3
    generalize whiteX r1 = r2 at *
    generalize decide (r2.length < r1.length) = b4
    go_wp2_with fail
    refine (HMu.out w4 r2 [61] HP4.out).mono ?_
    rintro e w5 ⟨hg5, hx5⟩
    have HG5 := Lib.hid (grown_trans HG4.out hg5)
    have HS5 := Lib.hid (HS4.out.step hg5)
    clear hg5 HG4 HS4 HP4 HMu
    rcases h5 : eatX [61] r2 with _ | ⟨u5, r3⟩
    · rw [h5] at hx5
      subst hx5
      exact ⟨rfl, xout_no (by rw [HK3.out, h5]; rfl) HG5.out⟩
    rw [h5] at hx5
    obtain ⟨_, rfl, rfl, hp5⟩ := hx5
    have hl5 := eat_lenX h5
    have HP5 := Lib.hid hp5
    have HK5 := Lib.hid (show ANS = thenX (valueX (whiteX r3)) fun v r =>
        if p ++ 58 :: l ∈ seen then none
        else if p = [] ∧ l = wXmlns then attrsS ((p ++ 58 :: l) :: seen) out (([], v) :: sc) r
        else if p = wXmlns then (if v = [] ∨ l = wXml ∨ l = wXmlns then none else attrsS ((p ++ 58 :: l) :: seen) out ((l, v) :: sc) r)
        else if p ≠ [] then none
        else attrsS ((p ++ 58 :: l) :: seen) (out ++ [⟨l, v⟩]) sc r by rw [HK3.out, h5]; rfl)
    clear h5 hp5 HK3
    go_wp2_with fail
    refine (HW.out w5 r3 HP5.out).mono ?_
    rintro e w6 ⟨hg6, rfl, hp6⟩
    have HG6 := Lib.hid (grown_trans HG5.out hg6)
    have HS6 := Lib.hid (HS5.out.step hg6)
    have HP6 := Lib.hid hp6
    have hl6 := white_le r3
    clear hg6 hp6 HG5 HS5 HP5 HW
    generalize whiteX r3 = r4 at *
    generalize decide (r4.length < r3.length) = b6
    go_wp2_with fail
    refine (HVa.out w6 r4 HP6.out (by omega) HG6.out).mono ?_
    rintro e w7 ⟨hg7, hx7⟩
    have HG7 := Lib.hid (grown_trans HG6.out hg7)
    have HS7 := Lib.hid (HS6.out.step hg7)
    clear hg7 HG6 HS6 HP6 HVa
    rcases h7 : valueX r4 with _ | ⟨v, r5⟩
    · rw [h7] at hx7
      subst hx7
      exact ⟨rfl, xout_no (by rw [HK5.out, h7]; rfl) HG7.out⟩
    rw [h7] at hx7
    obtain ⟨_, rfl, rfl, hp7⟩ := hx7
    have hl7 := (valueX_ok h7).1
    have HP7 := Lib.hid hp7
    have HK7 := Lib.hid (show ANS = 
        if p ++ 58 :: l ∈ seen then none
        else if p = [] ∧ l = wXmlns then attrsS ((p ++ 58 :: l) :: seen) out (([], v) :: sc) r5
        else if p = wXmlns then (if v = [] ∨ l = wXml ∨ l = wXmlns then none else attrsS ((p ++ 58 :: l) :: seen) out ((l, v) :: sc) r5)
        else if p ≠ [] then none
        else attrsS ((p ++ 58 :: l) :: seen) (out ++ [⟨l, v⟩]) sc r5 by rw [HK5.out, h7]; rfl)
    clear h7 hp7 HK5
    have hkl : (p ++ 58 :: l).length ≤ maxLen := by simp only [List.length_append, List.length_cons]; unfold maxLen; omega
    have hn7 : n < maxLen := by unfold maxLen; omega
    have tok1 : True := trivial
    by_cases hm : p ++ 58 :: l ∈ seen
    · have hcf := Lib.hid (show cntF seen (p ++ 58 :: l) = 1 from if_pos hm)
      have HK := Lib.hid (show ANS = none by rw [HK7.out, if_pos hm])
      clear hm HK7 HO
      go_wp2_with (first
        | (at_lookup; have _t := tok1; refine wpList_cnt_look _ rfl _ _ rfl B n (cntF seen) rfl HS7.out.cnt _ 1 hcf.out rfl hkl ?_; clear tok1 _t)
        | (at_mapUpdate; refine wpList_cnt_store _ rfl _ _ _ rfl B n (cntF seen) rfl HS7.out.cnt hn7 _ 2 rfl rfl hkl (by decide) (by decide) ?_; intro w8 hc8 hg8)
        | (at_lookup; refine wpList_cnt_look _ rfl _ _ rfl B (n + 1) _ rfl hc8 _ 2 (if_pos rfl) rfl hkl ?_))
      refine (xfail_any _).mono ?_
      rintro e w9 ⟨rfl, rfl⟩
      exact ⟨rfl, xout_no HK.out (grown_in HG7.out hg8 hBw)⟩
    · have hcf := Lib.hid (show cntF seen (p ++ 58 :: l) = 0 from if_neg hm)
      have HK := Lib.hid (show ANS =
        if p = [] ∧ l = wXmlns then attrsS ((p ++ 58 :: l) :: seen) out (([], v) :: sc) r5
        else if p = wXmlns then (if v = [] ∨ l = wXml ∨ l = wXmlns then none else attrsS ((p ++ 58 :: l) :: seen) out ((l, v) :: sc) r5)
        else if p ≠ [] then none
        else attrsS ((p ++ 58 :: l) :: seen) (out ++ [⟨l, v⟩]) sc r5 by rw [HK7.out, if_neg hm])
      clear hm HK7 HO
      go_upto_if 58 with (first
        | (at_lookup; have _t := tok1; refine wpList_cnt_look _ rfl _ _ rfl B n (cntF seen) rfl HS7.out.cnt _ 0 hcf.out rfl hkl ?_; clear tok1 _t)
        | (at_mapUpdate; refine wpList_cnt_store _ rfl _ _ _ rfl B n (cntF seen) rfl HS7.out.cnt hn7 _ 1 rfl rfl hkl (by decide) (by decide) ?_; intro w8 hc8 hg8)
        | (at_lookup; refine wpList_cnt_look _ rfl _ _ rfl B (n + 1) _ rfl hc8 _ 1 (if_pos rfl) rfl hkl ?_))
      have HS8 := Lib.hid (HS7.out.count hg8 hc8)
      have HG8 := Lib.hid (grown_in HG7.out hg8 hBw)
      have HP8 := Lib.hid (HP7.out.keep hg8 (by intro e; injection e with e; omega))
      clear hc8 hg8 HS7 HG7 HP7 hcf hn7 hkl
      have hr5 : r5.length < gk := by simp only [List.length_cons, List.length_nil] at hl5; omega
      have hr5b : r5.length ≤ 1000000 ∧ n + 1 + r5.length ≤ 1000000 ∧ out.length + 1 + r5.length ≤ 1000000 := by simp only [List.length_cons, List.length_nil] at hl5; omega
      clear hl hl2 hln hlo hwl hr0l hl3 hl4 hl5 hl6 hl7 HR0
      have happ := Lib.hid (show ((out.map acells).length + 1) * 32 ≤ 140737488355328 by rw [List.length_map]; omega)
      by_cases hp0 : p = []
      · subst hp0
        by_cases hlx : l = wXmlns
        · have HK2 := Lib.hid (show attrsS (([] ++ 58 :: l) :: seen) out (([], v) :: sc) r5 = ANS by rw [HK.out, if_pos ⟨rfl, hlx⟩])
          have HS9 := Lib.hid (HS8.out.push [] v)
          have HP9 := Lib.hid (HP8.out.below ((Below.refl _ _).alloc (Nat.le_refl _) (.cells #[.string ⟨([] : List UInt8).toArray⟩, .string ⟨v.toArray⟩, .pointer up] 181 (0, 0))))
          have HG9 := Lib.hid (grown_trans HG8.out (Below.toGrown ((Below.refl _ _).alloc (Nat.le_refl _) (.cells #[.string ⟨([] : List UInt8).toArray⟩, .string ⟨v.toArray⟩, .pointer up] 181 (0, 0))) (some b)))
          have b1 : (l == [120, 109, 108, 110, 115]) = true := by rw [hlx]; rfl
          clear hlx HK HS8 HP8 HG8
          go_wp2
          go_roundg r5.length
          case measure => omega
          case rel => exact ⟨r5, _, out, _, n + 1, Nat.le_refl _, by omega, by omega, by omega, HP9.out, HG9.out, HS9.out, HK2⟩
        · have HK2 := Lib.hid (show attrsS (([] ++ 58 :: l) :: seen) (out ++ [⟨l, v⟩]) sc r5 = ANS by rw [HK.out, if_neg (fun h => hlx h.2), if_neg (by decide), if_neg (fun h => h rfl)])
          have b1 : (l == [120, 109, 108, 110, 115]) = false := list_ne hlx
          clear hlx HK
          go_wp2_with (at_builtin; go_must (refine wpList_appRec elemA rfl (.tmp 52) (.tmp 56) rfl B (out.map acells) #[.string ⟨l.toArray⟩, .string ⟨v.toArray⟩] _ rfl HS8.out.own w8.heap.size rfl rfl rfl (acells_one ⟨l, v⟩) happ.out HS8.out.size ?_); intro v' w' hown' hb' hg' hn')
          have HS9 := Lib.hid (HS8.out.app (a := ⟨l, v⟩) hown' hg' hn')
          have HP9 := Lib.hid (HP8.out.low hb' hbw)
          have HG9 := Lib.hid (grown_low HG8.out hb' hBw)
          clear hown' hg' hn' hb' HS8 HP8 HG8
          go_roundg r5.length
          case measure => omega
          case rel => exact ⟨r5, _, _, sc, n + 1, Nat.le_refl _, by omega, by omega, by simp only [List.length_append, List.length_cons, List.length_nil]; omega, HP9.out, HG9.out, HS9.out, HK2⟩
      · have b0 : p.isEmpty = false := by cases p with | nil => exact absurd rfl hp0 | cons => rfl
        by_cases hpx : p = wXmlns
        · have b1 : (p == [120, 109, 108, 110, 115]) = true := by rw [hpx]; rfl
          have HK1 := Lib.hid (show ANS = if v = [] ∨ l = wXml ∨ l = wXmlns then none else attrsS ((p ++ 58 :: l) :: seen) out ((l, v) :: sc) r5 by rw [HK.out, if_neg (fun h => hp0 h.1), if_pos hpx])
          clear hp0 hpx HK
          by_cases hbad : v = [] ∨ l = wXml ∨ l = wXmlns
          · have HK2 := Lib.hid (show ANS = none by rw [HK1.out, if_pos hbad])
            by_cases hv0 : v = []
            · have b2 : v.isEmpty = true := by rw [hv0]; rfl
              clear hv0 hbad HK1
              go_wp2_with fail
              refine (xfail_any _).mono ?_
              rintro e w9 ⟨rfl, rfl⟩
              exact ⟨rfl, xout_no HK2.out HG8.out⟩
            · have b2 : v.isEmpty = false := by cases v with | nil => exact absurd rfl hv0 | cons => rfl
              by_cases hl1 : l = wXml
              · have b3 : (l == [120, 109, 108]) = true := by rw [hl1]; rfl
                clear hv0 hbad HK1 hl1
                go_wp2_with fail
                refine (xfail_any _).mono ?_
                rintro e w9 ⟨rfl, rfl⟩
                exact ⟨rfl, xout_no HK2.out HG8.out⟩
              · have b3 : (l == [120, 109, 108]) = false := list_ne hl1
                have b4' : (l == [120, 109, 108, 110, 115]) = true := by
                  rcases hbad with h | h | h
                  · exact absurd h hv0
                  · exact absurd h hl1
                  · rw [h]; rfl
                clear hv0 hbad HK1 hl1
                go_wp2_with fail
                refine (xfail_any _).mono ?_
                rintro e w9 ⟨rfl, rfl⟩
                exact ⟨rfl, xout_no HK2.out HG8.out⟩
          · have HK2 := Lib.hid (show attrsS ((p ++ 58 :: l) :: seen) out ((l, v) :: sc) r5 = ANS by rw [HK1.out, if_neg hbad])
            rw [not_or, not_or] at hbad
            have b2 : v.isEmpty = false := by cases v with | nil => exact absurd rfl hbad.1 | cons => rfl
            have b3 : (l == [120, 109, 108]) = false := list_ne hbad.2.1
            have b4' : (l == [120, 109, 108, 110, 115]) = false := list_ne hbad.2.2
            have HS9 := Lib.hid (HS8.out.push l v)
            have HP9 := Lib.hid (HP8.out.below ((Below.refl _ _).alloc (Nat.le_refl _) (.cells #[.string ⟨l.toArray⟩, .string ⟨v.toArray⟩, .pointer up] 181 (0, 0))))
            have HG9 := Lib.hid (grown_trans HG8.out (Below.toGrown ((Below.refl _ _).alloc (Nat.le_refl _) (.cells #[.string ⟨l.toArray⟩, .string ⟨v.toArray⟩, .pointer up] 181 (0, 0))) (some b)))
            clear hbad HK1 HS8 HP8 HG8
            go_wp2
            go_roundg r5.length
            case measure => omega
            case rel => exact ⟨r5, _, out, _, n + 1, Nat.le_refl _, by omega, by omega, by omega, HP9.out, HG9.out, HS9.out, HK2⟩
        · have b1 : (p == [120, 109, 108, 110, 115]) = false := list_ne hpx
          have HK2 := Lib.hid (show ANS = none by rw [HK.out, if_neg (fun h => hp0 h.1), if_neg hpx, if_pos hp0])
          clear hp0 hpx HK
          go_wp2_with fail
          refine (xfail_any _).mono ?_
          rintro e w9 ⟨rfl, rfl⟩
          exact ⟨rfl, xout_no HK2.out HG8.out⟩
end Go.Proofs.YtjkiehmjffgnlaaGreatDoor
namespace Go.Proofs.YtjkiehmjffgnlaaGreatDoor
set_option linter.unusedVariables false
set_option linter.unusedSimpArgs false
open Go.RowKit

theorem grown_row (w : World) (g : Nat) (cs : Array Value) : w.grownBy (w.setRow g cs) (some g) :=
  ⟨rfl, rfl, rfl, by simp, fun k _ hne => setRow_other w g k cs (fun e => hne (by rw [e]))⟩
theorem tab_shape {α : Type} {n : Nat} {R : World → List Value → α → Prop} {w : World} {v : Value} {l : List α} (h : Tab n R w v l) : ∃ A cap, v = .slice A l.length cap := by
  obtain ⟨A, cap, hv, -⟩ := h
  exact ⟨A, cap, hv⟩
def bel (b e4 e12 : Nat) (k : Nat) : Prop := e4 < k ∧ k ≠ b ∧ k ≠ e12
structure ElS (b e4 e12 : Nat) (w : World) (sp l : List UInt8) (av kv : Value) (ats : List AttrT) (ks : List NodeT) : Prop where
  c4 : w.heap[e4]? = some (.cells #[.string ⟨#[]⟩, .string ⟨#[]⟩, .string ⟨#[]⟩, .slice none 0 0, .slice none 0 0] 46 (0, 0))
  c12 : w.heap[e12]? = some (.cells #[.string ⟨#[]⟩, .string ⟨sp.toArray⟩, .string ⟨l.toArray⟩, av, kv] 46 (0, 0))
  at_ : AttrsP (bel b e4 e12) w av ats
  ks_ : NodesP (bel b e4 e12) w kv ks
  lo : b < e4 ∧ e4 < e12
section
variable {b e4 e12 : Nat} {w w' : World} {sp l : List UInt8} {av kv : Value} {ats : List AttrT} {ks : List NodeT}
theorem ElS.step (h : ElS b e4 e12 w sp l av kv ats ks) (hg : w.grownBy w' (some b)) : ElS b e4 e12 w' sp l av kv ats ks := by
  have hm : Moves (bel b e4 e12) (bel b e4 e12) w w' := Moves.grown hg fun k hk _ => ⟨hk, fun e => by injection e with e; exact hk.2.1 e⟩
  exact ⟨(hg.block e4 (xlt h.c4) (fun e => by injection e with e; have := h.lo; omega)).trans h.c4, (hg.block e12 (xlt h.c12) (fun e => by injection e with e; have := h.lo; omega)).trans h.c12, h.at_.move hm, h.ks_.move hm, h.lo⟩
theorem ElS.kids {kv' : Value} {ks' : List NodeT} (h : ElS b e4 e12 w sp l av kv ats ks) (hk : NodesP (bel b e4 e12) w kv' ks') : ElS b e4 e12 (w.setCell ⟨e12, 4, none⟩ kv') sp l av kv' ats ks' := by
  have hg := xgrown_cell w e12 4 kv'
  have hm : Moves (bel b e4 e12) (bel b e4 e12) w (w.setCell ⟨e12, 4, none⟩ kv') := Moves.grown hg fun k hk _ => ⟨hk, fun e => by injection e with e; exact hk.2.2 e⟩
  exact ⟨(hg.block e4 (xlt h.c4) (fun e => by injection e with e; have := h.lo; omega)).trans h.c4, heap_setCell_same w e12 4 _ _ kv' h.c12, h.at_.move hm, hk.move hm, h.lo⟩
def ElV (B : Nat) (w : World) (v : Value) (n : NodeT) : Prop := ∃ av kv, v = nodeV n av kv ∧ AttrsP (B ≤ ·) w av n.attrs ∧ NodesP (B ≤ ·) w kv n.kids
theorem ElV.mono {B B' : Nat} {w : World} {v : Value} {n : NodeT} (h : ElV B w v n) (hB : B' ≤ B) : ElV B' w v n := by
  obtain ⟨av, kv, hv, ha, hk⟩ := h
  exact ⟨av, kv, hv, ha.move (Moves.same w fun k hk _ => Nat.le_trans hB hk), hk.move (Moves.same w fun k hk _ => Nat.le_trans hB hk)⟩
theorem ElS.out (h : ElS b e4 e12 w sp l av kv ats ks) {cs : Array Value} : ElV e4 (w.setRow e4 cs) (.agg #[.string ⟨#[]⟩, .string ⟨sp.toArray⟩, .string ⟨l.toArray⟩, av, kv]) (.mk [] sp l ats ks) := by
  have hg := grown_row w e4 cs
  have hm : Moves (bel b e4 e12) (e4 ≤ ·) w (w.setRow e4 cs) := Moves.grown hg fun k hk _ => ⟨Nat.le_of_lt hk.1, fun e => by injection e with e; have := hk.1; omega⟩
  exact ⟨av, kv, rfl, h.at_.move hm, h.ks_.move hm⟩
end
def KidsV (B : Nat) (w : World) (v : Value) (ks : List NodeT) : Prop := Kids B w v ks
def ContOk (m : Nat) : Prop := ∀ (b : Nat) (s : List UInt8) (sv : Value) (sc : Scope) (w : World), s.length < m → s.length ≤ 1000000 → PX w b s → XE w b → ScP (· ≠ b) w sv sc →
  Calls Tryz.prog 91 #[.pointer (some ⟨b, 0, none⟩), sv] w (XOut b (contX sc [] s) (KidsV w.heap.size) w)
theorem elem_start {w : World} {b : Nat} {s : List UInt8} {sv : Value} {sc : Scope} (h : PX w b s) (hsc : ScP (· ≠ b) w sv sc) : let w0 := w.alloc (.cells #[.string ⟨#[]⟩, .string ⟨#[]⟩, .string ⟨#[]⟩, .slice none 0 0, .slice none 0 0] 46 (0, 0))
    PX w0 b s ∧ ScP (· ≠ b) w0 sv sc ∧ w.grownBy w0 (some b) ∧ w0.heap[w.heap.size]? = some (.cells #[.string ⟨#[]⟩, .string ⟨#[]⟩, .string ⟨#[]⟩, .slice none 0 0, .slice none 0 0] 46 (0, 0)) ∧ w.heap.size < w0.heap.size := by
  have hb : Below w.heap.size w (w.alloc (.cells #[.string ⟨#[]⟩, .string ⟨#[]⟩, .string ⟨#[]⟩, .slice none 0 0, .slice none 0 0] 46 (0, 0))) := (Below.refl _ _).alloc (Nat.le_refl _) _
  exact ⟨h.below hb, hsc.move (Moves.below hb fun _ hk _ => hk), Below.toGrown hb _, heap_alloc_new w _, by simp⟩
theorem ElS.new {w : World} {b e4 : Nat} {sp l : List UInt8} {av : Value} {ats : List AttrT} {B2 : Nat} (h4 : w.heap[e4]? = some (.cells #[.string ⟨#[]⟩, .string ⟨#[]⟩, .string ⟨#[]⟩, .slice none 0 0, .slice none 0 0] 46 (0, 0))) (ha : AttrsP (B2 ≤ ·) w av ats) (hb : b < e4) (hB : e4 < B2) :
    ElS b e4 w.heap.size (w.alloc (.cells #[.string ⟨#[]⟩, .string ⟨sp.toArray⟩, .string ⟨l.toArray⟩, av, .slice none 0 0] 46 (0, 0))) sp l av (.slice none 0 0) ats [] := by
  have hbl : Below w.heap.size w (w.alloc (.cells #[.string ⟨#[]⟩, .string ⟨sp.toArray⟩, .string ⟨l.toArray⟩, av, .slice none 0 0] 46 (0, 0))) := (Below.refl _ _).alloc (Nat.le_refl _) _
  have h4l := xlt h4
  exact ⟨(hbl.block e4 h4l).trans h4, heap_alloc_new w _, ha.move (Moves.below hbl fun k hk hlt => ⟨by omega, by omega, by omega⟩), TabP.nil _ _ _ _, hb, h4l⟩
end Go.Proofs.YtjkiehmjffgnlaaGreatDoor
