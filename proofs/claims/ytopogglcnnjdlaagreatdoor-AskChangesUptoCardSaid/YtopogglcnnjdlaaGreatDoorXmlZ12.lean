/-
  Parts of the walks and plain laws of layer 10, joined: XmlS2 XmlCnt XmlT. Conditions: as each theorem states them.
-/
import Derived.Test.YtopogglcnnjdlaaGreatDoorXmlZ10
import Derived.Test.YtopogglcnnjdlaaGreatDoorXmlZ1
import Derived.Maps.OwnOps
import Derived.Maps.Views
import Derived.StringKeys
/-! XmlS2 -/
namespace Go.Proofs.YtopogglcnnjdlaaGreatDoor
set_option linter.unusedVariables false
set_option linter.unusedSimpArgs false
open Go.RowKit

theorem xeatB (b : Nat) (s word : List UInt8) (w : World) (h : PX w b s) : Calls Tryz.prog 110 #[.pointer (some ⟨b, 0, none⟩), .string ⟨word.toArray⟩] w
    (fun e w' => e = .returned (.bool (word.isPrefixOf s)) ∧ w.grownBy w' (some b) ∧ PX w' b (if word.isPrefixOf s then s.drop word.length else s)) := by
  refine (xeat_any b s word w h).mono ?_
  rintro e w' ⟨hg, hx⟩
  unfold eatX at hx
  cases hp : word.isPrefixOf s
  · rw [hp] at hx
    exact ⟨hx.1, hg, hx.2⟩
  · rw [hp] at hx
    exact ⟨hx.1, hg, hx.2⟩
/-- what value makes of what stands between the quotes. -/
def valK (v r : List UInt8) : X1 (List UInt8) := match valS [] v with
  | none => none
  | some t => some (t, r)
theorem valueX_K (s : List UInt8) : valueX s = if [39].isPrefixOf s then thenX (cutS [39] (s.drop 1)) valK else thenX (eatX [34] s) fun _ r => thenX (cutS [34] r) valK := by
  rw [valueX_S]
  unfold eatX
  cases hp : [39].isPrefixOf s
  · simp only [if_false, Bool.false_eq_true]
    cases hq : [34].isPrefixOf s
    · rfl
    · rfl
  · rfl
set_option maxHeartbeats 16000000 in
set_option maxRecDepth 100000 in
set_option linter.unusedSimpArgs false in
theorem xvalue_any (b : Nat) (s : List UInt8) (w : World) (h : PX w b s) (hs : s.length ≤ 1000000) (hE : XE w b) : Calls Tryz.prog 147 #[.pointer (some ⟨b, 0, none⟩)] w (XOut b (valueX s) strV w) := by
  have hbw : b < w.heap.size := h.lt
  have HE1 := Lib.hid (xeatB b s [39] w h)
  have HMu := Lib.hid (fun w s word (h : PX w b s) => xmust_any b s word w h)
  have HUp := Lib.hid (fun w1 s word (h : PX w1 b s) (hs : s.length ≤ 1000000) (hg : w.grownBy w1 (some b)) => xupto_any b s word w1 h (by omega) (hE.step hg))
  have HE := Lib.hid hE
  have hX := valueX_K s
  obtain ⟨ANS, hA⟩ : ∃ A, valueX s = A := ⟨_, rfl⟩
  rw [hA] at hX ⊢
  have HX := Lib.hid hX
  clear h hA hX hE
  go_enter Tryz.func147, Tryz.ntmps147
  go_upto_if 8 with (refine HE1.out.mono ?_; rintro e w1 ⟨rfl, hg1, hp1⟩)
  have HG1 := Lib.hid hg1
  have HP1 := Lib.hid hp1
  clear hg1 hp1 HE1
  go_cut [3] (fun qv wc => ∃ q r : List UInt8, qv = .string ⟨q.toArray⟩ ∧ w.grownBy wc (some b) ∧ PX wc b r ∧ r.length ≤ 1000000 ∧ Hid (ANS = thenX (cutS q r) valK))
  case first =>
    cases hq : [39].isPrefixOf s
    · rw [hq] at HX HP1
      clear hq
      go_wp2_with fail
      refine (HMu.out w1 s [34] HP1.out).mono ?_
      rintro e w2 ⟨hg2, hx2⟩
      have HG2 := Lib.hid (grown_trans HG1.out hg2)
      rcases h2 : eatX [34] s with _ | ⟨u, r⟩
      · rw [h2] at hx2
        subst hx2
        exact ⟨rfl, xout_no (by rw [HX.out]; show thenX (eatX [34] s) _ = _; rw [h2]; rfl) HG2.out⟩
      · rw [h2] at hx2
        obtain ⟨v, rfl, rfl, hp2⟩ := hx2
        have hl2 := eat_lenX h2
        have HK := Lib.hid (show ANS = thenX (cutS [34] r) valK by rw [HX.out]; show thenX (eatX [34] s) _ = _; rw [h2]; rfl)
        have HP2 := Lib.hid hp2
        clear h2 hp2 hg2 HX HP1 HG1
        go_wp2
        go_meet
        exact ⟨[34], r, rfl, HG2.out, HP2.out, by omega, HK⟩
    · rw [hq] at HX HP1
      clear hq
      go_wp2
      go_meet
      exact ⟨[39], s.drop 1, rfl, HG1.out, HP1.out, by rw [List.length_drop]; omega, HX⟩
  case rest =>
  obtain ⟨q, r, rfl, hg, hp, hr, HK⟩ := hcut
  have HG := Lib.hid hg
  have HP := Lib.hid hp
  clear hg hp HX HG1 HP1 HMu
  go_wp2_with fail
  refine (HUp.out _ r q HP.out hr HG.out).mono ?_
  rintro e w2 ⟨hg2, hx2⟩
  have HG2 := Lib.hid (grown_trans HG.out hg2)
  clear hg2 HG HP HUp
  rcases h2 : cutS q r with _ | ⟨v, r2⟩
  · rw [h2] at hx2
    subst hx2
    exact ⟨rfl, xout_no (by rw [HK.out, h2]; rfl) HG2.out⟩
  rw [h2] at hx2
  obtain ⟨_, rfl, rfl, hp2⟩ := hx2
  have hlv : v.length ≤ 1000000 := by
    have := congrArg List.length (cut_some h2)
    simp only [List.length_append] at this
    omega
  have HK2 := Lib.hid (show ANS = valK v r2 by rw [HK.out, h2]; rfl)
  have HP2 := Lib.hid hp2
  clear h2 hp2 HK
  go_wp2_with fail
  obtain ⟨w0, hw0, hpx, hbl, hbe⟩ := value_start w2 v
  rw [← hw0]
  have hlt2 : b < w2.heap.size := HP2.out.lt
  have HBE := Lib.hid hbe
  have HG3 := Lib.hid (grown_low HG2.out hbe (HG2.out.size))
  have HP3 := Lib.hid (HP2.out.below hbe)
  have HPX := Lib.hid hpx
  have HBL := Lib.hid hbl
  clear hw0 hpx hbl hbe
  have hsz := HG2.out.size
  generalize w2.heap.size = c at *
  have HIx := Lib.hid (fun (l : List UInt8) (w : World) (hl : l.length ≤ 1000000) => indexAny_any l [38, 60] w ascii2 (by decide) (by decide) (by omega))
  have HEx := Lib.hid (fun (wr : World) (hg : w.grownBy wr (some b)) => (fun w' hg' => HE.out w' (grown_in hg hg' hsz) : XE wr c))
  clear hlt2
  go_loopg [6] v.length (fun g _ wr => ∃ s' out : List UInt8, s'.length ≤ g ∧ s'.length ≤ 1000000 ∧ out.length + 4 * s'.length ≤ 4000000 ∧ PX wr c s' ∧ Bld (c + 1) (c + 1) out wr ∧ PX wr b r2 ∧ w.grownBy wr (some b) ∧ Hid (ANS = match valS out s' with
    | none => none
    | some t => some (t, r2)))
  case atStart => exact ⟨v, [], Nat.le_refl _, hlv, by simp; omega, HPX.out, HBL.out, HP3.out, HG3.out, HK2⟩
  case round =>
    obtain ⟨s', out, hl, hl2, hlo, hpx, hbl, hpb, hg, HK⟩ := hrel
    have hcr := hpx.lt
    have HPX2 := Lib.hid hpx
    have HBL2 := Lib.hid hbl
    have HP4 := Lib.hid hpb
    have HG4 := Lib.hid hg
    have x0 := hpx.c0
    clear HK2 HPX HBL HP3 HG3 HBE HP2 hpx hbl hpb hg
    by_cases he : s' = []
    · subst he
      have HK3 := Lib.hid (show ANS = some (out, r2) from HK.out)
      clear HK
      go_wp2_with fail
      refine (builderString_any _ _ _ _ HBL2.out).mono ?_
      rintro e w3 ⟨rfl, hb3⟩
      have HG5 := Lib.hid (grown_low HG4.out hb3 (by omega))
      have HP5 := Lib.hid (HP4.out.low hb3 (by omega))
      clear hb3
      go_wp2
      go_ret
      exact xout_ok HK3.out HG5.out rfl HP5.out
    · have hne : s'.isEmpty = false := by cases s' with | nil => exact absurd rfl he | cons => rfl
      clear he
      go_wp2_with fail
      refine (HIx.out _ _ hl2).mono ?_
      rintro e w3 ⟨rfl, hb3⟩
      have HPX3 := Lib.hid (HPX2.out.below hb3)
      have HBL3 := Lib.hid (HBL2.out.under hb3)
      have HP5 := Lib.hid (HP4.out.below hb3)
      have HG5 := Lib.hid (grown_low HG4.out hb3 HG4.out.size)
      have y0 := HPX3.out.c0
      have hc3 := HPX3.out.lt
      have hst := indexAny_stop s'
      clear x0 hb3 HPX2 HBL2 HP4 HG4 HIx
      obtain ⟨n, hn⟩ : ∃ n : Nat, n = (s'.takeWhile fun c => !stopC c).length := ⟨_, rfl⟩
      have hnl : n ≤ s'.length := by rw [hn]; exact (List.takeWhile_prefix _).length_le
      rw [← hn] at hst
      obtain ⟨ht, hd⟩ := takeW_len (fun c => !stopC c) s'
      rw [← hn] at ht hd
      have HN := Lib.hid hn
      have HT := Lib.hid ht
      have HD := Lib.hid hd
      have HST := Lib.hid hst
      clear hn ht hd hst
      go_upto_if 23 with (fail)
      go_cut [6] (fun iv wc => w3 = wc ∧ iv = .int .i64 n)
      case first =>
        rcases HST.out with ⟨h1, h2, -⟩ | ⟨h1, h2, -⟩
        · have hnn : n = s'.length := by
            have := List.takeWhile_append_dropWhile (p := fun c => !stopC c) (l := s')
            rw [h1, List.append_nil] at this
            rw [HN.out, this]
          rw [h2]
          clear h1 h2 HST HD HT HN
          subst hnn
          go_wp2
          go_meet
          exact ⟨rfl, rfl⟩
        · rw [h2]
          have h0 : ¬ ((n : Int) < 0) := by omega
          clear h1 h2 HST HD HT HN
          go_wp2
          go_meet
          exact ⟨rfl, rfl⟩
      case rest =>
      obtain ⟨rfl, rfl⟩ := hcut
      go_upto_region 11 with (fail)
      have hni : (n : Int) ≤ (s'.length : Int) := by omega
      have hn0 : (0 : Int) ≤ (n : Int) := by omega
      obtain ⟨M, hM⟩ : ∃ M, M = (linesX (s'.take n)).map flatC := ⟨_, rfl⟩
      have hml : M.length ≤ n := by
        have := linesX_len (s'.take n)
        rw [List.length_take] at this
        rw [hM, List.length_map]
        omega
      have HM := Lib.hid hM
      clear hM
      go_cut [34] (fun _ wc => PX wc c s' ∧ Bld (c + 1) (c + 1) (out ++ M) wc ∧ PX wc b r2 ∧ w.grownBy wc (some b))
      case first =>
        have HLn := Lib.hid (fun (wx : World) (h : Below w3.heap.size w3 wx) => xlines_any (s'.take n) wx (by rw [List.length_take]; omega) (HE.out wx (grown_low HG5.out h HG5.out.size)))
        have HRp := Lib.hid (fun (wx : World) (bq : Nat) (h : BoxV wx bq) (hq : w3.heap.size ≤ bq) => xreplBox bq w3.heap.size (linesX (s'.take n)) wx h hq (by have := linesX_len (s'.take n); rw [List.length_take] at this; omega))
        have HT0 : Below w3.heap.size w3 w3.drew := below_draws (Below.refl _ _) 1
        have HT1 : Below w3.heap.size w3 (w3.alloc boxCells).drew := below_draws ((Below.refl _ _).alloc (Nat.le_refl _) _) 1
        have HTa := Lib.hid (fun (wx : World) (h : Below w3.heap.size w3 wx) => (h.alloc h.size boxCells : Below w3.heap.size w3 (wx.alloc boxCells)))
        have HTb := Lib.hid (fun (wx wy : World) (h : Below w3.heap.size w3 wx) (hb : Below wx.heap.size wx wy) => (h.trans (hb.mono h.size) : Below w3.heap.size w3 wy))
        have HTc := Lib.hid (fun (wx wy : World) (h : Below w3.heap.size w3 wx) (hb : Below w3.heap.size wx wy) => (h.trans hb : Below w3.heap.size w3 wy))
        have HTs := Lib.hid (fun (wx : World) (bq : Nat) (h : Below w3.heap.size w3 wx) (hq : wx.heap.size ≤ bq) => Nat.le_trans h.size hq)
        have HS := Lib.hid (fun (wx : World) (h : Below w3.heap.size w3 wx) => (⟨(h.cell (p := ⟨c, 0, none⟩) hc3).trans y0, h.mono hc3⟩ : wx.cell? ⟨c, 0, none⟩ = some (.string ⟨s'.toArray⟩) ∧ Below (c + 1) w3 wx))
        have HSf := Lib.hid (fun (wx wy : World) (h : Below w3.heap.size w3 wx) (hb : Below (c + 1) wx wy) => (⟨(hb.cell (p := ⟨c, 0, none⟩) (Nat.lt_succ_self c)).trans ((h.cell (p := ⟨c, 0, none⟩) hc3).trans y0), (h.mono hc3).trans hb⟩ : wy.cell? ⟨c, 0, none⟩ = some (.string ⟨s'.toArray⟩) ∧ Below (c + 1) w3 wy))
        have HWr := Lib.hid (fun (wx : World) (h : Below w3.heap.size w3 wx) => writeString_any (c + 1) (c + 1) out M wx (HBL3.out.under h) (by omega))
        rw [HM.out] at HWr
        unfold boxCells at HT1 HTa
        go_region_held3 (fun w' => w'.cell? ⟨c, 0, none⟩ = some (.string ⟨s'.toArray⟩) ∧ Below (c + 1) w3 w')
          (first | exact HS.out _ HT0 | exact HS.out _ HT1 | exact HS.out _ (by assumption) | exact HS.out _ (HTa.out _ (by assumption)) | assumption)
          (first
            | (go_at_call 37; refine (xnewBox _ _ (by first | exact boxAt1 _ | exact boxAt0 _ | exact boxAt2 _ _ (by assumption))).mono ?_; rintro e w4 ⟨bq, rfl, hq, hb4, hbx⟩; have hT4 := HTb.out _ _ (by first | assumption | exact HTa.out _ (by assumption)) hb4; have hHq := HTs.out _ _ (by first | assumption | exact HTa.out _ (by assumption)) hq)
            | (go_at_call 149; refine (HLn.out _ (by assumption)).mono ?_; rintro e w5 ⟨rfl, hb5⟩; have hT5 := HTb.out _ _ (by assumption) hb5)
            | (go_at_call 93; refine (HRp.out _ _ (by first | assumption | exact BoxV.under (by assumption) (by assumption)) (by assumption)).mono ?_; rintro e w6 ⟨rfl, hb6⟩; have hT6 := HTc.out _ _ (by assumption) hb6)
            | (go_at_call 92; refine (HWr.out _ (by assumption)).mono ?_; rintro e w7 ⟨rfl, hbl7, hb7⟩; have hS7 := HSf.out _ _ (by assumption) hb7))
        all_goals
          go_wp2
          go_meet
          exact ⟨HPX3.out.low hS7.2 (by omega), by rw [HM.out]; exact hbl7, HP5.out.low hS7.2 (by omega), grown_low HG5.out hS7.2 (by omega)⟩
      case rest =>
      obtain ⟨hpx, hbl, hpb, hg⟩ := hcut
      have HBL6 := Lib.hid (hbl.step (xgrown_cell wc c 0 (.string ⟨(s'.drop n).toArray⟩)) (Nat.lt_succ_self c))
      have HPX6 := Lib.hid (hpx.set (s'.drop n))
      have HP6 := Lib.hid (hpb.keep (xgrown_cell wc c 0 (.string ⟨(s'.drop n).toArray⟩)) (by intro e; injection e with e; omega))
      have HG6 := Lib.hid (grown_in hg (xgrown_cell wc c 0 (.string ⟨(s'.drop n).toArray⟩)) hsz)
      have z0 := hpx.c0
      have zf := hpx.f0
      have hVE := valS_eq out s'
      rw [if_neg (by intro e; rw [e] at hne; cases hne)] at hVE
      rw [← HT.out, ← HM.out, ← HD.out] at hVE
      have HVE := Lib.hid hVE
      have hDl : (s'.drop n).length = s'.length - n := List.length_drop ..
      have hsl : 0 < s'.length := by cases s' with | nil => cases hne | cons => exact Nat.succ_pos _
      clear hpx hbl hpb hg hVE HST HBL3 HPX3 HP5 HG5 y0 hc3
      go_upto_region 13 with (fail)
      generalize hD : s'.drop n = D at *
      generalize wc.setCell ⟨c, 0, none⟩ (.string ⟨D.toArray⟩) = wd at *
      clear z0 zf hD
      have y0 := HPX6.out.c0
      rcases D with _ | ⟨x, q⟩
      · have hns : n = s'.length := by simp at hDl; omega
        have HK3 := Lib.hid (show ANS = match valS (out ++ M) [] with
          | none => none
          | some t => some (t, r2) by rw [HK.out, HVE.out, valS_eq, if_pos rfl, HM.out, hns, List.take_length])
        clear HVE HK HM HT HD hns hDl
        go_wp2
        go_roundg 0
        case measure => omega
        case rel => exact ⟨[], out ++ M, Nat.zero_le _, Nat.zero_le _, by simp only [List.length_append, List.length_nil]; omega, HPX6.out, HBL6.out, HP6.out, HG6.out, HK3⟩
      · have hne2 : (x :: q).isEmpty = false := rfl
        have HMu := Lib.hid (fun (w : World) (h : PX w c (x :: q)) => xmust_any c (x :: q) [38] w h)
        have HRf := Lib.hid (fun (wx : World) (s : List UInt8) (h : PX wx c s) (hs : s.length ≤ 1000000) (hg : w.grownBy wx (some b)) => xref_any c s wx h hs (HEx.out wx hg))
        have HXQ := Lib.hid (show eatX [38] (x :: q) = if x = 38 then some ((), q) else none from by
          unfold eatX
          by_cases hx : x = 38
          · subst hx; rfl
          · rw [if_neg hx]
            have : ([38] : List UInt8).isPrefixOf (x :: q) = false := by
              rw [List.isPrefixOf, show ((38 : UInt8) == x) = false from beq_eq_false_iff_ne.2 (fun e => hx e.symm)]; rfl
            rw [this]; rfl)
        rw [List.length_cons] at hDl
        have HVE2 := Lib.hid (show valS out s' = if x = 38 then
          match refX q with
          | none => none
          | some (t, r) => valS (out ++ M ++ t) r
        else none by rw [HVE.out]; rw [HM.out]; rfl)
        clear HVE
        generalize hDx : x :: q = D at *
        clear hDx
        go_wp2_with fail
        refine (HMu.out wd HPX6.out).mono ?_
        rintro e w8 ⟨hg8, hx8⟩
        rw [HXQ.out] at hx8
        have HG8 := Lib.hid (grown_in HG6.out hg8 hsz)
        have HBL8 := Lib.hid (HBL6.out.step hg8 (Nat.lt_succ_self c))
        have HP8 := Lib.hid (HP6.out.keep hg8 (by intro e; injection e with e; omega))
        clear hg8 HG6 HBL6 HP6 HPX6 HMu HXQ
        by_cases hx : x = 38
        · rw [if_pos hx] at hx8 HVE2
          obtain ⟨_, rfl, rfl, hp8⟩ := hx8
          have HPX8 := Lib.hid hp8
          clear hp8 hx
          go_wp2_with fail
          refine (HRf.out w8 q HPX8.out (by omega) HG8.out).mono ?_
          rintro e w9 ⟨hg9, hx9⟩
          have HG9 := Lib.hid (grown_in HG8.out hg9 hsz)
          have HBL9 := Lib.hid (HBL8.out.step hg9 (Nat.lt_succ_self c))
          have HP9 := Lib.hid (HP8.out.keep hg9 (by intro e; injection e with e; omega))
          clear hg9 HG8 HBL8 HP8 HPX8 HRf
          rcases hr9 : refX q with _ | ⟨t, r⟩
          · rw [hr9] at hx9 HVE2
            subst hx9
            exact ⟨rfl, xout_no (by rw [HK.out, HVE2.out]) HG9.out⟩
          · rw [hr9] at hx9 HVE2
            obtain ⟨_, rfl, rfl, hp9⟩ := hx9
            have hl9 := (refX_ok hr9).1
            have ht4 := refX_len hr9
            have HPX9 := Lib.hid hp9
            have HK9 := Lib.hid (show ANS = match valS (out ++ M ++ t) r with
              | none => none
              | some t => some (t, r2) by rw [HK.out, HVE2.out])
            have hlen9 : (out ++ M).length + t.length ≤ 140737488355328 := by rw [List.length_append]; omega
            clear hp9 hr9 HK HVE2
            go_wp2_with fail
            refine (writeString_any (c + 1) (c + 1) (out ++ M) t w9 HBL9.out hlen9).mono ?_
            rintro e w10 ⟨rfl, hbl10, hb10⟩
            have HBL10 := Lib.hid hbl10
            have HPX10 := Lib.hid (HPX9.out.low hb10 (Nat.lt_succ_self c))
            have HP10 := Lib.hid (HP9.out.low hb10 (by omega))
            have HG10 := Lib.hid (grown_low HG9.out hb10 (by omega))
            clear hbl10 hb10 HBL9 HPX9 HP9 HG9
            go_wp2
            go_roundg r.length
            case measure => omega
            case rel => exact ⟨r, out ++ M ++ t, Nat.le_refl _, by omega, by simp only [List.length_append]; omega, HPX10.out, HBL10.out, HP10.out, HG10.out, HK9⟩
        · rw [if_neg hx] at hx8 HVE2
          subst hx8
          exact ⟨rfl, xout_no (by rw [HK.out, HVE2.out]) HG8.out⟩
end Go.Proofs.YtopogglcnnjdlaaGreatDoor
/-! XmlCnt -/
namespace Go.Proofs.YtopogglcnnjdlaaGreatDoor
set_option linter.unusedVariables false
set_option linter.unusedSimpArgs false
open Go.RowKit Go.Maps

theorem cntKey : Keyed Tryz.prog 9 := string_keyed Tryz.underlying9
theorem cntZero (w : World) : (zeroValue 3).run Tryz.prog w = .ok (.int .i64 0) w := by kernel_rfl
/-- block b is a map of at most n keys; each text key holds f of it. -/
def Cnt (w : World) (b n : Nat) (f : List UInt8 → Int) : Prop := ∃ D : DataW Unit, w.ownsMap Tryz.prog 9 (plainElem Tryz.prog 3) b n D ∧ IsMap D ∧ ∀ key, D.atKey (.string key) (.lit (.int .i64 0)) = .lit (.int .i64 (f key))
theorem Cnt.made (w : World) : Cnt (w.alloc (.map #[] 0)) w.heap.size 0 (fun _ => 0) := ⟨_, World.ownsMap_made _ _ _ _, isMap_empty, fun _ => rfl⟩
theorem Cnt.lt {w : World} {b n : Nat} {f : List UInt8 → Int} (h : Cnt w b n f) : b < w.heap.size := by obtain ⟨D, h, -⟩ := h; exact h.lt
theorem Cnt.kept {w w' : World} {b n : Nat} {f : List UInt8 → Int} {row : Option Nat} (h : Cnt w b n f) (hg : w.grownBy w' row) (hne : some b ≠ row) : Cnt w' b n f := by
  obtain ⟨D, h1, h2, h3⟩ := h
  exact ⟨D, h1.kept hg hne, h2, h3⟩
theorem Cnt.below {w w' : World} {b n : Nat} {f : List UInt8 → Int} (h : Cnt w b n f) (hb : Below w.heap.size w w') : Cnt w' b n f := h.kept (row := none) (Below.toGrown hb none) (by simp)
theorem Cnt.alloc {w : World} {b n : Nat} {f : List UInt8 → Int} (h : Cnt w b n f) (o : Obj) : Cnt (w.alloc o) b n f := h.kept (World.grownBy_alloc w o none) (by simp)
theorem key_str {l : List UInt8} (h : l.length ≤ maxLen) : keyOf Tryz.prog 9 (.string ⟨l.toArray⟩) = some (.string l) := by
  have := Go.WideMaps.keyOf_string_mk (s := ⟨l.toArray⟩) Tryz.underlying9 h
  simpa using this
/-- 'm[key]'. -/
theorem wpList_cnt_look (w : World) {ops : Array Oper} {rest : List Oper} {o : Oper} {a : Act} {Q : Exit → Act → World → Prop}
    (hg : o.guard = none) (m x : Operand) (hop : o.op = Op.lookup 205 m x false) (b n : Nat) (f : List UInt8 → Int)
    (hm : a.eval m = .map (some b)) (hown : Cnt w b n f) (key : List UInt8) (c : Int) (hc : f key = c) (hx : a.eval x = .string ⟨key.toArray⟩) (hkey : key.length ≤ maxLen)
    (hK : wpList Tryz.prog ops Q rest (a.put o.dst (.int .i64 c)) w) : wpList Tryz.prog ops Q (o :: rest) a w := by
  obtain ⟨D, h1, h2, h3⟩ := hown
  refine wpList_lookup_own_int w hg m x 205 hop 9 3 .i64 cntKey Tryz.underlying205 Tryz.underlying3 (cntZero w) b n D hm h1 _ _ hx (key_str hkey) fun c' hat hwc => ?_
  rw [h3] at hat
  injection hat with hat
  injection hat with _ hat
  rw [← hat, hc]
  exact hK
/-- 'm[key] = v'. -/
theorem wpList_cnt_store (w : World) {ops : Array Oper} {rest : List Oper} {o : Oper} {a : Act} {Q : Exit → Act → World → Prop}
    (hg : o.guard = none) (m x v : Operand) (hop : o.op = Op.mapUpdate 205 m x v) (b n : Nat) (f : List UInt8 → Int)
    (hm : a.eval m = .map (some b)) (hown : Cnt w b n f) (hn : n < maxLen) (key : List UInt8) (c : Int) (hx : a.eval x = .string ⟨key.toArray⟩) (hv : a.eval v = .int .i64 c) (hkey : key.length ≤ maxLen) (hc0 : 0 ≤ c) (hc1 : c ≤ 9223372036854775807)
    (hK : ∀ w', Cnt w' b (n + 1) (fun k => if k = key then c else f k) → w.grownBy w' (some b) → wpList Tryz.prog ops Q rest (a.put o.dst undef) w') : wpList Tryz.prog ops Q (o :: rest) a w := by
  obtain ⟨D, h1, h2, h3⟩ := hown
  have hwf : (Lit.int .i64 c).wf = true := by
    simp only [Lit.wf, IntKind.min, IntKind.max, IntKind.signed, IntKind.bits]
    simp
    omega
  refine wpList_mapUpdate_own w hg m x v 205 hop 9 3 cntKey Tryz.underlying205 (plainElem Tryz.prog 3) b n D hm h1 hn _ _ _ hx hv (key_str hkey) _ [] (plainElem_int Tryz.underlying3 hwf) fun w' h4 h5 => hK w' ⟨_, h4, h2.put _ _, fun k => ?_⟩ h5
  by_cases e : k = key
  · subst e
    simp only [if_pos rfl]
    exact atKey_put_same h2 (by simp [WideAt.IsKeyLit]) _ _
  · simp only [if_neg e]
    rw [atKey_put_other (by intro h; injection h with h; exact e h)]
    exact h3 k
end Go.Proofs.YtopogglcnnjdlaaGreatDoor
/-! XmlT -/
namespace Go.Proofs.YtopogglcnnjdlaaGreatDoor
set_option linter.unusedVariables false
set_option linter.unusedSimpArgs false
open Go.RowKit

def acells (a : AttrT) : List Value := [.string ⟨a.name.toArray⟩, .string ⟨a.value.toArray⟩]
theorem elemA : ElemN Tryz.prog 23 99 2 (.agg #[.string ⟨#[]⟩, .string ⟨#[]⟩]) 32 := ⟨Tryz.underlying23, by kernel_rfl, rfl, by omega, by omega⟩
def cntF (seen : List (List UInt8)) (key : List UInt8) : Int := if key ∈ seen then 1 else 0
theorem cntF_cons (seen : List (List UInt8)) (key : List UInt8) : (fun k => if k = key then 1 else cntF seen k) = cntF (key :: seen) := by
  funext k
  unfold cntF
  by_cases h : k = key
  · rw [if_pos h, if_pos (by rw [h]; exact List.mem_cons_self ..)]
  · rw [if_neg h]
    by_cases h2 : k ∈ seen
    · rw [if_pos h2, if_pos (List.mem_cons_of_mem _ h2)]
    · rw [if_neg h2, if_neg (by rw [List.mem_cons, not_or]; exact ⟨h, h2⟩)]
structure AtS (B b m n : Nat) (w : World) (av sv : Value) (seen : List (List UInt8)) (out : List AttrT) (sc : Scope) : Prop where
  own : OwnT 99 2 B (out.map acells) av w
  scope : ScP (fun k => k ≠ b ∧ some k ≠ av.ownBlock) w sv sc
  cnt : Cnt w m n (cntF seen)
  map : B ≤ m
  low : b < B
  size : B ≤ w.heap.size
section
variable {B b m n : Nat} {w w' : World} {av sv : Value} {seen : List (List UInt8)} {out : List AttrT} {sc : Scope}
theorem AtS.step (h : AtS B b m n w av sv seen out sc) (hg : w.grownBy w' (some b)) : AtS B b m n w' av sv seen out sc :=
  ⟨h.own.grown hg (fun k hk e => by injection e with e; have := (h.own.lt k hk).1; have := h.low; omega), h.scope.move (Moves.grown hg fun k hk _ => ⟨hk, fun e => by injection e with e; exact hk.1 e⟩),
    h.cnt.kept hg (fun e => by injection e with e; have := h.map; have := h.low; omega), h.map, h.low, Nat.le_trans h.size hg.size⟩
theorem ScP.lt {P : Nat → Prop} {w : World} {sc : Scope} {v : Value} (h : ScP P w v sc) (hne : sc ≠ []) : ∃ k, v = .pointer (some ⟨k, 0, none⟩) ∧ k < w.heap.size := by
  rcases sc with _ | ⟨⟨p, s⟩, r⟩
  · exact absurd rfl hne
  · obtain ⟨k, up, hv, -, hc, -⟩ := h
    exact ⟨k, hv, xlt hc⟩
theorem ScP.with {P Q : Nat → Prop} {w : World} : ∀ {sc : Scope} {v : Value}, ScP P w v sc → (∀ k (p s : List UInt8) (up : Value), P k → w.heap[k]? = some (.cells #[.string ⟨p.toArray⟩, .string ⟨s.toArray⟩, up] 207 (0, 0)) → Q k) → ScP Q w v sc
  | [], _, h, _ => h
  | (p, s) :: r, v, h, hq => by
    obtain ⟨k, up, hv, hp, hc, hr⟩ := h
    exact ⟨k, up, hv, hq k p s up hp hc, hc, hr.with hq⟩
/-- the map has been written. -/
theorem AtS.count (h : AtS B b m n w av sv seen out sc) {key : List UInt8} (hg : w.grownBy w' (some m)) (hc : Cnt w' m (n + 1) (fun k => if k = key then 1 else cntF seen k)) : AtS B b m (n + 1) w' av sv (key :: seen) out sc := by
  obtain ⟨D, hD, -⟩ := h.cnt
  have hm : ∃ es cl, w.heap[m]? = some (.map es cl) := by
    obtain ⟨es, cl, hb, -⟩ := hD
    exact ⟨es, cl, hb⟩
  obtain ⟨es, cl, hm⟩ := hm
  refine ⟨h.own.grown hg (fun k hk e => ?_), ?_, by rw [← cntF_cons]; exact hc, h.map, h.low, Nat.le_trans h.size hg.size⟩
  · injection e with e
    subst e
    rcases h.own.1.2 with ⟨hv, -⟩ | ⟨g, cap, cur, hv, -, hh, -⟩
    · rw [hv] at hk; cases hk
    · rw [hv] at hk
      injection hk with hk
      subst hk
      rw [hm] at hh
      cases hh
  · refine (h.scope.with (Q := fun k => (k ≠ b ∧ some k ≠ av.ownBlock) ∧ k ≠ m) fun k p s up hk hcell => ⟨hk, fun e => by rw [e, hm] at hcell; cases hcell⟩).move (Moves.grown hg fun k hk _ => ⟨hk.1, fun e => by injection e with e; exact hk.2 e⟩)
/-- a scope has been laid. -/
theorem AtS.push (h : AtS B b m n w av sv seen out sc) (p v : List UInt8) : AtS B b m n (w.alloc (.cells #[.string ⟨p.toArray⟩, .string ⟨v.toArray⟩, sv] 207 (0, 0))) av (.pointer (some ⟨w.heap.size, 0, none⟩)) seen out ((p, v) :: sc) := by
  have hb : Below w.heap.size w (w.alloc (.cells #[.string ⟨p.toArray⟩, .string ⟨v.toArray⟩, sv] 207 (0, 0))) := (Below.refl _ _).alloc (Nat.le_refl _) _
  refine ⟨h.own.alloc _, ⟨w.heap.size, sv, rfl, ⟨by have := h.low; have := h.size; omega, fun e => ?_⟩, heap_alloc_new w _, h.scope.move (Moves.below hb fun _ hk _ => hk)⟩, h.cnt.below hb, h.map, h.low, Nat.le_trans h.size hb.size⟩
  have := (h.own.lt _ e.symm).2
  omega
/-- an attribute has been appended. -/
theorem AtS.app (h : AtS B b m n w av sv seen out sc) {a : AttrT} {av' : Value} (ho : OwnT 99 2 B (out.map acells ++ [acells a]) av' w') (hg : w.grownBy w' av.ownBlock) (hn : av'.ownBlock = av.ownBlock ∨ ∃ k, av'.ownBlock = some k ∧ w.heap.size ≤ k) : AtS B b m n w' av' sv seen (out ++ [a]) sc := by
  obtain ⟨D, hD, -⟩ := h.cnt
  obtain ⟨es, cl, hm, -⟩ := hD
  have key : ∀ k, some k ≠ av.ownBlock → k < w.heap.size → some k ≠ av'.ownBlock := fun k hk hlt => by
    rcases hn with hn | ⟨j, hj, hjk⟩
    · rw [hn]; exact hk
    · rw [hj]; intro e; injection e with e; omega
  refine ⟨by rw [List.map_append]; exact ho, h.scope.move ⟨hg.size, fun k hk hlt => ⟨⟨hk.1, key k hk.2 hlt⟩, hg.block k hlt hk.2⟩⟩, h.cnt.kept hg (fun e => ?_), h.map, h.low, Nat.le_trans h.size hg.size⟩
  · rcases h.own.1.2 with ⟨hv, -⟩ | ⟨g, cap, cur, hv, -, hh, -⟩
    · rw [hv] at e; cases e
    · rw [hv] at e
      injection e with e
      subst e
      rw [hm] at hh
      cases hh
end
theorem attrs_tab {B : Nat} {w : World} {av : Value} {out : List AttrT} (h : OwnT 99 2 B (out.map acells) av w) : AttrsP (B ≤ ·) w av out := by
  refine ⟨h.tab (by simp) fun j x r hx hr => ?_, fun _ k hk => (h.lt k hk).1⟩
  rw [List.getElem?_map, hx] at hr
  injection hr with hr
  subst hr
  rfl
/-- what attributes hands back. -/
def AtV (B b : Nat) (w : World) (v : Value) (x : List AttrT × Scope) : Prop := ∃ av sv, v = .tuple #[av, sv] ∧ AttrsP (B ≤ ·) w av x.1 ∧ ScP (· ≠ b) w sv x.2
theorem AtS.out {B b m n : Nat} {w : World} {av sv : Value} {seen : List (List UInt8)} {out : List AttrT} {sc : Scope} (h : AtS B b m n w av sv seen out sc) : AtV B b w (.tuple #[av, sv]) (out, sc) :=
  ⟨av, sv, rfl, attrs_tab h.own, h.scope.with fun k _ _ _ hk _ => hk.1⟩
end Go.Proofs.YtopogglcnnjdlaaGreatDoor
