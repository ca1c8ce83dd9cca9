/-
  Parts of the walks and plain laws of layer 10, joined: MulF. Conditions: as each theorem states them.
-/
import Derived.Test.YtcamdnfhnianbaaGreatDoorXmlZ41
import Derived.Test.YtcamdnfhnianbaaGreatDoorXmlZ42
import Derived.Deep.RegionHeld3
/-! MulF -/
namespace Go.Proofs.YtcamdnfhnianbaaGreatDoor
set_option linter.unusedVariables false
set_option linter.unusedSimpArgs false
open Go.RowKit

/-- what strconv.Atoi hands back. -/
def MAtoiP (s : List UInt8) (w : World) (e : Ending) (w' : World) : Prop := ∃ ev, e = .returned (.tuple #[.int .i64 (stM s), ev]) ∧ Below w.heap.size w w'
theorem matoi_any (s : List UInt8) (w : World) (hs : s.length ≤ 1000000000) (hE : MEnv w) : Calls Tryz.prog 52 #[.string ⟨s.toArray⟩] w (MAtoiP s w) := by
  obtain ⟨t1, p1, hv1⟩ := hE.x.esyn
  obtain ⟨t2, p2, hv2⟩ := hE.x.eran
  rcases h : Lib.atoiAll s with n | _ | _
  · refine (Tryz.strconv_Atoi_ok ⟨s.toArray⟩ (by show s.length ≤ _; omega) n h w).mono ?_
    rintro e w' ⟨rfl, hw⟩
    refine ⟨.nilIface, ?_, ?_⟩
    · rw [show stM s = n by unfold stM stS; rw [h]]
    · rcases hw with rfl | ⟨t, rfl⟩
      · exact Below.refl _ _
      · exact Lib.bytesWorld_below _ _ _
  · refine (Tryz.strconv_Atoi_syntax_var ⟨s.toArray⟩ (by show s.length ≤ _; omega) h t1 p1 w hv1).mono ?_
    rintro e w' ⟨N, rfl, -, -, hb⟩
    rw [show (0 : Int) = stM s by unfold stM stS; rw [h]]
    exact ⟨_, rfl, hb⟩
  · refine (Tryz.strconv_Atoi_range_var ⟨s.toArray⟩ (by show s.length ≤ _; omega) h t2 p2 w hv2).mono ?_
    rintro e w' ⟨N, rfl, -, -, hb⟩
    have e : Lib.atoiSat s = stM s := by unfold stM stS; rw [h]
    exact ⟨_, by rw [← e], hb⟩
theorem mtrim_any (s p : List UInt8) (w : World) : Calls Tryz.prog 51 #[.string ⟨s.toArray⟩, .string ⟨p.toArray⟩] w (Same0 (.string ⟨(if p.isPrefixOf s then s.drop p.length else s).toArray⟩) w) :=
  (Tryz.strings_TrimPrefix ⟨s.toArray⟩ ⟨p.toArray⟩ w).mono fun _ _ ⟨h1, h2⟩ => ⟨by rw [← trimP_eq]; exact h1, h2.symm⟩
theorem partM_1 {n : NodeT} (h : isM n wStat = none) : partM n = none := by unfold partM; rw [h]
theorem partM_2 {n : NodeT} {ks : List NodeT} (h : isM n wStat = some ks) (h2 : ks.length ≠ 2) : partM n = none := by
  unfold partM
  rw [h]
  match ks, h2 with
  | [], _ => rfl
  | [_], _ => rfl
  | [_, _], h2 => exact absurd rfl h2
  | _ :: _ :: _ :: _, _ => rfl
section
variable {n a b : NodeT} {ps : List NodeT} {s : List UInt8}
theorem partM_3 (h : isM n wStat = some [a, b]) (h2 : isM a wProp = none) : partM n = none := by
  unfold partM
  rw [h]
  show (match isM a wProp with | none => none | some ps => _) = _
  rw [h2]
theorem partM_q (h : isM n wStat = some [a, b]) (h2 : isM a wProp = some ps) : partM n = if ps.all (fun x => !decide (x.name = [])) then (match textM b wStatus with | none => none | some s => if reasonS (stM (wordM s)) ≠ [] ∧ s = statusS (stM (wordM s)) then some ⟨stM (wordM s), ps⟩ else none) else none := by
  unfold partM
  rw [h]
  show (match isM a wProp with | none => none | some ps => _) = _
  rw [h2]
  rfl
theorem partM_4 (h : isM n wStat = some [a, b]) (h2 : isM a wProp = some ps) (h3 : ps.all (fun x => !decide (x.name = [])) = false) : partM n = none := by
  rw [partM_q h h2, h3]; rfl
theorem partM_5 (h : isM n wStat = some [a, b]) (h2 : isM a wProp = some ps) (h3 : ps.all (fun x => !decide (x.name = [])) = true) (h4 : textM b wStatus = none) : partM n = none := by
  rw [partM_q h h2, h3, h4]; rfl
theorem partM_6 (h : isM n wStat = some [a, b]) (h2 : isM a wProp = some ps) (h3 : ps.all (fun x => !decide (x.name = [])) = true) (h4 : textM b wStatus = some s) (h5 : ¬ (reasonS (stM (wordM s)) ≠ [] ∧ s = statusS (stM (wordM s)))) : partM n = none := by
  rw [partM_q h h2, h3, h4]; exact if_neg h5
theorem partM_7 (h : isM n wStat = some [a, b]) (h2 : isM a wProp = some ps) (h3 : ps.all (fun x => !decide (x.name = [])) = true) (h4 : textM b wStatus = some s) (h5 : reasonS (stM (wordM s)) ≠ [] ∧ s = statusS (stM (wordM s))) : partM n = some ⟨stM (wordM s), ps⟩ := by
  rw [partM_q h h2, h3, h4]; exact if_pos h5
end
def partV (P : Nat → Prop) (w : World) (v : Value) (p : PartT) : Prop := ∃ pA pc, v = .agg #[.int .i64 p.status, .slice pA p.props.length pc] ∧ NodesP P w (.slice pA p.props.length pc) p.props
theorem textM_len {n : NodeT} {nm t : List UInt8} (hs : SmallN 2000000 n) (h : textM n nm = some t) : t.length ≤ 2000000 := by
  unfold textM at h
  split at h
  · rename_i k hk
    obtain ⟨-, -, -, -, -, -, hsk⟩ := hs.parts
    have := isM_kids hk
    split at h
    · injection h with h
      subst h
      exact (hsk k (by rw [this]; simp)).parts.1
    · cases h
  · cases h
theorem trim_len (p t : List UInt8) : (if p.isPrefixOf t then t.drop p.length else t).length ≤ t.length := by
  split
  · rw [List.length_drop]; omega
  · omega
theorem words_fst (t : List UInt8) : (match cutS [32] t with | some (a, _) => a | none => t).length ≤ t.length := by
  have := index_cut [32] t
  split at this
  · rename_i a b h
    rw [h]
    have := congrArg List.length this.2
    simp only [List.length_append] at this
    show a.length ≤ _
    omega
  · rename_i h
    rw [h]
    exact Nat.le_refl _
theorem mcut_any (s : List UInt8) (w : World) (hs : s.length ≤ 1000000000) (hE : XEnv w) : Calls Tryz.prog 50 #[.string ⟨(if wVer.isPrefixOf s then s.drop wVer.length else s).toArray⟩, .string ⟨#[32]⟩] w (fun e w' => Below w.heap.size w w' ∧ ∃ r bo, e = .returned (.tuple #[.string ⟨(wordM s).toArray⟩, .string ⟨r⟩, .bool bo])) := by
  have h := xcut_any (if wVer.isPrefixOf s then s.drop wVer.length else s) [32] w (Nat.le_trans (trim_len wVer s) hs) hE
  refine h.mono ?_
  rintro e w' ⟨rfl, hb⟩
  refine ⟨hb, ?_⟩
  have hw : wordM s = match cutS [32] (if wVer.isPrefixOf s then s.drop wVer.length else s) with | some (a, _) => a | none => if wVer.isPrefixOf s then s.drop wVer.length else s := rfl
  rw [hw]
  rcases cutS [32] (if wVer.isPrefixOf s then s.drop wVer.length else s) with _ | ⟨a, b⟩
  · exact ⟨_, _, rfl⟩
  · exact ⟨_, _, rfl⟩
theorem word_len (s : List UInt8) : (wordM s).length ≤ s.length := Nat.le_trans (words_fst _) (trim_len wVer s)
set_option maxHeartbeats 64000000 in
set_option maxRecDepth 100000 in
set_option linter.unusedSimpArgs false in
theorem mpart_any {P : Nat → Prop} (n : NodeT) (aA kA : Option Addr) (ac kc : Nat) (w : World) (hk : NodesP P w (.slice kA n.kids.length kc) n.kids) (hs : SmallN 2000000 n) (hE : MEnv w) : Calls Tryz.prog 27 #[.agg #[.string ⟨n.text.toArray⟩, .string ⟨n.space.toArray⟩, .string ⟨n.name.toArray⟩, .slice aA n.attrs.length ac, .slice kA n.kids.length kc]] w (PanV (partM n) (partV P) w) := by
  obtain ⟨E, hEE⟩ : ∃ E, E = PanV (partM n) (partV P) w := ⟨_, rfl⟩
  rw [← hEE]
  have HEE := Lib.hid hEE
  have HNf := Lib.hid mneed_f
  have HNt := Lib.hid mneed_t
  have HE := Lib.hid hE
  have hb0 : Below w.heap.size w ((w.alloc (.cells #[.string ⟨n.text.toArray⟩, .string ⟨n.space.toArray⟩, .string ⟨n.name.toArray⟩, .slice aA n.attrs.length ac, .slice kA n.kids.length kc] 36 (0, 0))).alloc (.cells #[.int .i64 0, .slice none 0 0] 47 (0, 0))) := (two_alloc w _ _).1
  have hq2 : ((w.alloc (.cells #[.string ⟨n.text.toArray⟩, .string ⟨n.space.toArray⟩, .string ⟨n.name.toArray⟩, .slice aA n.attrs.length ac, .slice kA n.kids.length kc] 36 (0, 0))).alloc (.cells #[.int .i64 0, .slice none 0 0] 47 (0, 0))).heap[w.heap.size + 1]? = some (.cells #[.int .i64 0, .slice none 0 0] 47 (0, 0)) := (two_alloc w _ _).2.2
  have HB0 := Lib.hid hb0
  have HQ2 := Lib.hid hq2
  have HIs := Lib.hid (mis_any n wStat aA kA ac kc ((w.alloc (.cells #[.string ⟨n.text.toArray⟩, .string ⟨n.space.toArray⟩, .string ⟨n.name.toArray⟩, .slice aA n.attrs.length ac, .slice kA n.kids.length kc] 36 (0, 0))).alloc (.cells #[.int .i64 0, .slice none 0 0] 47 (0, 0))))
  obtain ⟨-, hkc, hkm, hkk⟩ := kid_at hk
  unfold maxLen at hkm
  have HKk := Lib.hid hkk
  obtain ⟨-, -, -, -, -, -, hsk⟩ := hs.parts
  have HSk := Lib.hid hsk
  clear hEE hb0 hq2 hk hkk hE hs hsk
  go_enter Tryz.func27, Tryz.ntmps27
  go_wp2_with fail
  generalize (w.alloc (.cells #[.string ⟨n.text.toArray⟩, .string ⟨n.space.toArray⟩, .string ⟨n.name.toArray⟩, .slice aA n.attrs.length ac, .slice kA n.kids.length kc] 36 (0, 0))).alloc (.cells #[.int .i64 0, .slice none 0 0] 47 (0, 0)) = w1 at *
  obtain ⟨q2, hqq⟩ : ∃ q, q = w.heap.size + 1 := ⟨_, rfl⟩
  rw [← hqq] at HQ2 ⊢
  have hqw : w.heap.size ≤ q2 := by omega
  clear hqq
  refine HIs.out.mono ?_
  rintro e w2 ⟨hb2, hx⟩
  have HB2 := Lib.hid (HB0.out.trans (hb2.mono HB0.out.size))
  have HQ := Lib.hid ((hb2.block _ (xlt HQ2.out)).trans HQ2.out)
  clear hb2 HIs HB0 HQ2
  rcases hi : isM n wStat with _ | ks
  · rw [hi] at hx
    replace hx : e = .panicked brokenM := hx
    subst hx
    rw [HEE.out]
    exact ⟨rfl, PanV.no (partM_1 hi) HB2.out⟩
  rw [hi] at hx
  obtain ⟨v, rfl, hv⟩ := hx
  replace hv : v = .slice kA ks.length kc := hv
  subst hv
  have HI := Lib.hid hi
  obtain rfl : n.kids = ks := isM_kids hi
  clear hi
  by_cases h1 : n.kids.length = 2
  case neg =>
    have b1 : ¬ (n.kids.length : Int) = 2 := by omega
    have b2 : ((n.kids.length : Int) == 2) = false := beq_eq_false_iff_ne.2 b1
    have HR := Lib.hid (partM_2 HI.out h1)
    clear h1 HI
    go_wp2_with (go_at_call 25; refine (HNf.out _).mono ?_; rintro e w5 ⟨rfl, rfl⟩)
    rw [HEE.out]
    exact ⟨rfl, PanV.no HR.out HB2.out⟩
  obtain ⟨x, y, hxy⟩ : ∃ x y, n.kids = [x, y] := by
    match h : n.kids, h1 with
    | [x, y], _ => exact ⟨x, y, rfl⟩
  have hi2 := HI.out
  rw [hxy] at hi2
  obtain ⟨b, o, aA1, ac1, kA1, kc1, rfl, hbl, e0, e1, e2, e3, e4, -, f4⟩ := HKk.out 0 x (by rw [hxy]; rfl)
  obtain ⟨b', o', aA2, ac2, kA2, kc2, hbo, -, g0, g1, g2, g3, g4, -, i4⟩ := HKk.out 1 y (by rw [hxy]; rfl)
  injection hbo with hbo
  injection hbo with hb1 hb2 hb3
  subst hb1 hb2
  rw [Nat.zero_mul, Nat.add_zero] at e0 e1 e2 e3 e4
  rw [Nat.one_mul] at g0 g1 g2 g3 g4
  have d0 := (HB2.out.cell (p := ⟨b, o, none⟩) hbl).trans e0
  have d1 := (HB2.out.cell (p := ⟨b, o + 1, none⟩) hbl).trans e1
  have d2 := (HB2.out.cell (p := ⟨b, o + 2, none⟩) hbl).trans e2
  have d3 := (HB2.out.cell (p := ⟨b, o + 3, none⟩) hbl).trans e3
  have d4 := (HB2.out.cell (p := ⟨b, o + 4, none⟩) hbl).trans e4
  have HGy := Lib.hid (And.intro g0 (And.intro g1 (And.intro g2 (And.intro g3 g4))))
  have HKx := Lib.hid f4
  have HKy := Lib.hid i4
  have HSx := Lib.hid (HSk.out y (by rw [hxy]; simp))
  have HI2 := Lib.hid hi2
  have hc1 : 2 ≤ kc := by omega
  rw [h1]
  have HIx := Lib.hid (mis_any x wProp aA1 kA1 ac1 kc1 w2)
  clear e0 e1 e2 e3 e4 g0 g1 g2 g3 g4 HKk hxy hi2 HI h1 hkc f4 i4 HSk hb3
  go_wp2_with (go_at_call 25; refine (HNt.out _).mono ?_; rintro e w5 ⟨rfl, rfl⟩)
  refine HIx.out.mono ?_
  rintro e w3 ⟨hb3, hx⟩
  have HB3 := Lib.hid (HB2.out.trans (hb3.mono HB2.out.size))
  have HQ3 := Lib.hid ((hb3.block _ (xlt HQ.out)).trans HQ.out)
  clear hb3 HIx HB2 HQ d0 d1 d2 d3 d4
  rcases hi : isM x wProp with _ | ps
  · rw [hi] at hx
    replace hx : e = .panicked brokenM := hx
    subst hx
    rw [HEE.out]
    exact ⟨rfl, PanV.no (partM_3 HI2.out hi) HB3.out⟩
  rw [hi] at hx
  obtain ⟨v, rfl, hv⟩ := hx
  replace hv : v = .slice kA1 ps.length kc1 := hv
  subst hv
  have HPr := Lib.hid hi
  obtain rfl : x.kids = ps := isM_kids hi
  obtain ⟨-, hpc, hpm, hpk⟩ := kid_at HKx.out
  unfold maxLen at hpm
  have HPk := Lib.hid hpk
  have hb4 : Below w3.heap.size w3 (w3.alloc (.cells #[.int .i64 0, .slice kA1 x.kids.length kc1] 47 (0, 0))) := (Below.refl _ _).alloc (Nat.le_refl _) _
  have HB4 := Lib.hid (HB3.out.trans (hb4.mono HB3.out.size))
  have HQ4 := Lib.hid ((hb4.block _ (xlt HQ3.out)).trans HQ3.out)
  have HW3 := Lib.hid hb4
  have HP4 := Lib.hid (heap_alloc_new w3 (.cells #[.int .i64 0, .slice kA1 x.kids.length kc1] 47 (0, 0)))
  have hq23 : q2 < w3.heap.size := xlt HQ3.out
  clear hi hpk hb4 HQ3
  go_upto_region 5 with (fail)
  generalize w3.alloc (.cells #[.int .i64 0, .slice kA1 x.kids.length kc1] 47 (0, 0)) = w4 at *
  obtain ⟨q4, hqq⟩ : ∃ q, q = w3.heap.size := ⟨_, rfl⟩
  rw [← hqq] at HP4 ⊢
  have hq4w : w.heap.size ≤ q4 ∧ q2 < q4 := by have := HB3.out.size; omega
  clear hqq hq23 HB3
  obtain ⟨V, hV⟩ : ∃ V, x.kids.all (fun x => !decide (x.name = [])) = V := ⟨_, rfl⟩
  have HV := Lib.hid hV
  go_loopg [24] x.kids.length (fun gk v24 wr => ∃ i : Nat, i + gk = x.kids.length ∧ v24 = .int .i64 i ∧ Hid (Below w4.heap.size w4 wr) ∧ Hid ((x.kids.drop i).all (fun x => !decide (x.name = [])) = V))
  case atStart => exact ⟨0, by omega, rfl, Lib.hid (Below.refl _ _), Lib.hid hV⟩
  case round =>
    obtain ⟨i, hig, rfl, HBr, HAll⟩ := hrel
    clear hV
    have HBw := Lib.hid (HB4.out.trans (HBr.out.mono HB4.out.size))
    have HQr := Lib.hid ((HBr.out.block _ (xlt HQ4.out)).trans HQ4.out)
    have HPr4 := Lib.hid ((HBr.out.block _ (xlt HP4.out)).trans HP4.out)
    rcases hd : x.kids.drop i with _ | ⟨z, rest⟩
    case cons =>
      obtain ⟨hlt, hx, hr⟩ := drop_consA hd
      obtain ⟨b5, o5, aA5, ac5, kA5, kc5, rfl, hbl5, e0, e1, e2, e3, e4, -, -⟩ := HPk.out i z hx
      have d0 := (HBw.out.cell (p := ⟨b5, o5 + i * 5, none⟩) hbl5).trans e0
      have d1 := (HBw.out.cell (p := ⟨b5, o5 + i * 5 + 1, none⟩) hbl5).trans e1
      have d2 := (HBw.out.cell (p := ⟨b5, o5 + i * 5 + 2, none⟩) hbl5).trans e2
      have d3 := (HBw.out.cell (p := ⟨b5, o5 + i * 5 + 3, none⟩) hbl5).trans e3
      have d4 := (HBw.out.cell (p := ⟨b5, o5 + i * 5 + 4, none⟩) hbl5).trans e4
      have k1 : (i : Int) < x.kids.length := by omega
      have k2 : (0 : Int) ≤ i := by omega
      obtain ⟨n1, n2⟩ := all_next hd HAll.out hr
      have hb6 : Below wr.heap.size wr (wr.alloc (.cells #[.string ⟨z.text.toArray⟩, .string ⟨z.space.toArray⟩, .string ⟨z.name.toArray⟩, .slice aA5 z.attrs.length ac5, .slice kA5 z.kids.length kc5] 36 (0, 0))) := (Below.refl _ _).alloc (Nat.le_refl _) _
      have HB6 := Lib.hid (HBr.out.trans (hb6.mono HBr.out.size))
      have HBw6 := Lib.hid (HBw.out.trans (hb6.mono HBw.out.size))
      have N1 := Lib.hid n1
      have N2 := Lib.hid n2
      clear e0 e1 e2 e3 e4 hd hx hr n1 n2 hb6 HAll
      by_cases hz : z.name = []
      · have b1 : (z.name == []) = true := by rw [hz]; rfl
        have b2 : z.name.isEmpty = true := by rw [hz]; rfl
        have b3 : (z.name != []) = false := by rw [hz]; rfl
        have HR := Lib.hid (partM_4 HI2.out HPr.out (by rw [HV.out]; exact N2.out (by rw [decide_eq_true hz]; rfl)))
        clear hz N1 N2
        go_wp2_with (go_at_call 25; refine (HNf.out _).mono ?_; rintro e w5 ⟨rfl, rfl⟩)
        rw [HEE.out]
        exact ⟨rfl, PanV.no HR.out HBw6.out⟩
      · have b1 : (z.name == []) = false := beq_eq_false_iff_ne.2 hz
        have b2 : z.name.isEmpty = false := by cases h : z.name with | nil => exact absurd h hz | cons => rfl
        have b3 : (z.name != []) = true := by rw [bne, b1]; rfl
        have HAll2 := Lib.hid (N1.out (by rw [decide_eq_false hz]; rfl))
        clear hz N1 N2
        go_wp2_with (go_at_call 25; refine (HNt.out _).mono ?_; rintro e w5 ⟨rfl, rfl⟩)
        go_roundg (gk - 1)
        case measure => omega
        case rel => exact ⟨i + 1, by omega, by go_num, HB6, HAll2⟩
    case nil =>
    have hi2 : i = x.kids.length := by have := drop_nil hd; omega
    subst hi2
    have hVt : V = true := by have := HAll.out; rw [hd] at this; exact this.symm
    have HV2 := Lib.hid (show x.kids.all (fun x => !decide (x.name = [])) = true by rw [HV.out]; exact hVt)
    obtain ⟨g0, g1, g2, g3, g4⟩ := HGy.out
    have d0 := (HBw.out.cell (p := ⟨b, o + 5, none⟩) hbl).trans g0
    have d1 := (HBw.out.cell (p := ⟨b, o + 5 + 1, none⟩) hbl).trans g1
    have d2 := (HBw.out.cell (p := ⟨b, o + 5 + 2, none⟩) hbl).trans g2
    have d3 := (HBw.out.cell (p := ⟨b, o + 5 + 3, none⟩) hbl).trans g3
    have d4 := (HBw.out.cell (p := ⟨b, o + 5 + 4, none⟩) hbl).trans g4
    have HTx := Lib.hid (fun (w' : World) (hb : Below w.heap.size w w') => mtext_any (P := anyB) y wStatus aA2 kA2 ac2 kc2 w' (HKy.out.move (Moves.below hb fun _ _ _ => trivial)))
    clear hd HAll hVt HV g0 g1 g2 g3 g4 HPk HB4 HQ4 HP4 HW3
    go_wp2_with fail
    refine (HTx.out _ HBw.out).mono ?_
    rintro e w5 ⟨hb5, hx⟩
    have HB5 := Lib.hid (HBw.out.trans (hb5.mono HBw.out.size))
    have HR5 := Lib.hid (HBr.out.trans (hb5.mono HBr.out.size))
    have HQ5 := Lib.hid ((hb5.block _ (xlt HQr.out)).trans HQr.out)
    have HP5 := Lib.hid ((hb5.block _ (xlt HPr4.out)).trans HPr4.out)
    clear hb5 HQr HPr4 d0 d1 d2 d3 d4
    rcases hi : textM y wStatus with _ | s
    · rw [hi] at hx
      replace hx : e = .panicked brokenM := hx
      subst hx
      rw [HEE.out]
      exact ⟨rfl, PanV.no (partM_5 HI2.out HPr.out HV2.out hi) HB5.out⟩
    rw [hi] at hx
    obtain ⟨v, rfl, hv⟩ := hx
    replace hv : v = .string ⟨s.toArray⟩ := hv
    subst hv
    have hsl : s.length ≤ 2000000 := textM_len HSx.out hi
    have HT := Lib.hid hi
    have HTm := Lib.hid (mtrim_any s wVer w5)
    have HCu := Lib.hid (mcut_any s w5 (by omega) (HE.out.below HB5.out).x)
    obtain ⟨T, hT⟩ : ∃ T, T = (if wVer.isPrefixOf s then s.drop wVer.length else s) := ⟨_, rfl⟩
    rw [← hT] at HTm HCu
    have hwl : (wordM s).length ≤ 2000000 := Nat.le_trans (word_len s) hsl
    have HAt := Lib.hid (fun (w' : World) (hb : Below w.heap.size w w') => matoi_any (wordM s) w' (by omega) (HE.out.below hb))
    obtain ⟨m, hm⟩ : ∃ m, m = stM (wordM s) := ⟨_, rfl⟩
    unfold MAtoiP at HAt
    rw [← hm] at HAt
    obtain ⟨wd, hwd⟩ : ∃ wd, wd = wordM s := ⟨_, rfl⟩
    rw [← hwd] at HCu HAt hwl
    have HM := Lib.hid (show m = stM (wordM s) from hm)
    clear hi hT hm hwd
    go_wp2_with fail
    refine HTm.out.mono ?_
    rintro e w6 ⟨rfl, rfl⟩
    go_wp2_with fail
    refine HCu.out.mono ?_
    rintro e w6 ⟨hb6, r, bo, rfl⟩
    have HB6 := Lib.hid (HB5.out.trans (hb6.mono HB5.out.size))
    have HQ6 := Lib.hid ((hb6.block _ (xlt HQ5.out)).trans HQ5.out)
    have HP6 := Lib.hid ((hb6.block _ (xlt HP5.out)).trans HP5.out)
    clear hb6 HTm HCu HQ5 HP5 HB5
    go_wp2_with fail
    refine (HAt.out _ HB6.out).mono ?_
    rintro e w7 ⟨ev, rfl, hb7⟩
    have HB7 := Lib.hid (HB6.out.trans (hb7.mono HB6.out.size))
    have hq7 := (hb7.block _ (xlt HQ6.out)).trans HQ6.out
    have hp7 := (hb7.block _ (xlt HP6.out)).trans HP6.out
    have p0 := xat hp7 0
    have p1 := xfree hp7 0
    simp only [List.getElem?_toArray, List.getElem?_cons_zero] at p0
    have HB8 := Lib.hid (show Below w.heap.size w (w7.setCell ⟨q4, 0, none⟩ (.int .i64 m)) from HB7.out.setCell (p := ⟨q4, 0, none⟩) hq4w.1 _)
    have HP8 := Lib.hid (show (w7.setCell ⟨q4, 0, none⟩ (.int .i64 m)).heap[q4]? = some (.cells #[.int .i64 m, .slice kA1 x.kids.length kc1] 47 (0, 0)) from heap_setCell_same w7 q4 0 _ _ _ hp7)
    have HQ8 := Lib.hid (show (w7.setCell ⟨q4, 0, none⟩ (.int .i64 m)).heap[q2]? = some (.cells #[.int .i64 0, .slice none 0 0] 47 (0, 0)) from (heap_setCell_other w7 ⟨q4, 0, none⟩ q2 _ (by show q2 ≠ q4; omega)).trans hq7)
    clear hb7 hq7 hp7 HQ6 HP6 HB6 HAt HB7
    go_upto_region 11 with (fail)
    generalize w7.setCell ⟨q4, 0, none⟩ (.int .i64 m) = w8 at *
    clear p0 p1
    obtain ⟨g0, g1, g2, g3, g4⟩ := HGy.out
    have HRn := Lib.hid (fun w => reason_any m w)
    have d0 := (HB8.out.cell (p := ⟨b, o + 5, none⟩) hbl).trans g0
    have d1 := (HB8.out.cell (p := ⟨b, o + 5 + 1, none⟩) hbl).trans g1
    have d2 := (HB8.out.cell (p := ⟨b, o + 5 + 2, none⟩) hbl).trans g2
    have d3 := (HB8.out.cell (p := ⟨b, o + 5 + 3, none⟩) hbl).trans g3
    have d4 := (HB8.out.cell (p := ⟨b, o + 5 + 4, none⟩) hbl).trans g4
    clear g0 g1 g2 g3 g4
    by_cases hrs : reasonS m = []
    · have b1 : (reasonS m == []) = true := by rw [hrs]; rfl
      have b2 : (reasonS m).isEmpty = true := by rw [hrs]; rfl
      have b3 : (reasonS m != []) = false := by rw [hrs]; rfl
      have HR := Lib.hid (partM_6 HI2.out HPr.out HV2.out HT.out (by rw [← HM.out]; exact fun h => h.1 hrs))
      clear hrs HTx
      generalize reasonS m = R at *
      have z0 : w8.cell? ⟨q4, 0, none⟩ = some (.int .i64 m) := xat HP8.out 0
      clear d0 d1 d2 d3 d4
      first
        | go_region_with (first | (go_at_call 43; refine (HRn.out _).mono ?_; rintro e w9 ⟨rfl, rfl⟩) | (go_at_call 25; refine (HNf.out _).mono ?_; rintro e w9 ⟨rfl, rfl⟩; rw [HEE.out]; refine (fun (_ : wpAny Tryz.prog .any #[] (fun _ _ _ => True) 0 #[] { tmps := #[], defers := [] } w8) => ⟨rfl, PanV.no HR.out (below_draws HB8.out 1)⟩) ?_))
        | fail
      all_goals trivial
    · have b1 : (reasonS m == []) = false := beq_eq_false_iff_ne.2 hrs
      have b2 : (reasonS m).isEmpty = false := by cases h : reasonS m with | nil => exact absurd h hrs | cons => rfl
      have b3 : (reasonS m != []) = true := by rw [bne, b1]; rfl
      have HSt := Lib.hid (fun (w' : World) (hb : Below w.heap.size w w') => mstatus_any m w' hrs (HE.out.below hb))
      have HTs := Lib.hid (fun (w' : World) (hb : Below w.heap.size w w') => (HTx.out w' hb).mono (R' := Ret (.string ⟨s.toArray⟩) w') (fun e w'' ⟨h1, h2⟩ => by rw [HT.out] at h2; obtain ⟨v, rfl, rfl⟩ := h2; exact ⟨rfl, h1⟩))
      have hrs2 := Lib.hid hrs
      have HSm := Lib.hid (show statusS m = statusS m from rfl)
      obtain ⟨ST, hST⟩ : ∃ S, S = statusS m := ⟨_, rfl⟩
      rw [← hST] at HSt
      have HSS := Lib.hid hST
      have z0 : w8.cell? ⟨q4, 0, none⟩ = some (.int .i64 m) := xat HP8.out 0
      have hp8 : q4 < w8.heap.size := xlt HP8.out
      have HBd := Lib.hid (below_draws HB8.out 1)
      clear hrs hST HTx HSm
      generalize reasonS m = R at HRn b1 b2 b3
      by_cases hs : s = ST
      · have c1 : (s == ST) = true := beq_iff_eq.2 hs
        have HR := Lib.hid (partM_7 HI2.out HPr.out HV2.out HT.out (by rw [← HM.out]; exact ⟨hrs2.out, by rw [← HSS.out]; exact hs⟩))
        rw [← HM.out] at HR
        clear hs
        go_region_with (first
          | (go_at_call 43; refine (HRn.out _).mono ?_; rintro e w9 ⟨rfl, rfl⟩)
          | (go_at_call 26; refine (HTs.out _ HBd.out).mono ?_; rintro e w9 ⟨rfl, hb9⟩; have z9 : w9.cell? ⟨q4, 0, none⟩ = some (.int .i64 m) := (hb9.cell (p := ⟨q4, 0, none⟩) hp8).trans z0)
          | (go_at_call 44; refine (HSt.out _ (HBd.out.trans (hb9.mono HBd.out.size))).mono ?_; rintro e w10 ⟨rfl, hb10⟩)
          | (go_at_call 25; refine (HNt.out _).mono ?_; rintro e w11 ⟨rfl, rfl⟩))
        all_goals
          have hb11 : Below w8.heap.size w8 w10 := (below_draws (Below.refl w8.heap.size w8) 1).trans (hb9.trans (hb10.mono hb9.size))
          have HB10 := Lib.hid (HB8.out.trans (hb11.mono HB8.out.size))
          have HP10 := Lib.hid ((hb11.block _ (xlt HP8.out)).trans HP8.out)
          have HQ10 := Lib.hid ((hb11.block _ (xlt HQ8.out)).trans HQ8.out)
          clear z9 hb9 hb10 hb11 z0 d0 d1 d2 d3 d4
          have x0 := xat HP10.out 0
          have x1 := xat HP10.out 1
          simp only [List.getElem?_toArray, List.getElem?_cons_zero, List.getElem?_cons_succ] at x0 x1
          go_wp2_with (refine wpList_store_row rfl 47 _ _ rfl q2 _ rfl rfl 47 _ HQ10.out (by kernel_rfl) rfl (by simp [Value.oneCell']) ?_)
          obtain ⟨hb12, hr12⟩ := row_end HB10.out HQ10.out hqw #[.int .i64 m, .slice kA1 x.kids.length kc1]
          refine bodyPost_ret (results_c1 rfl _ _ _ _ _ _ rfl hr12 Tryz.underlying47 rfl (by kernel_rfl)) rfl ?_
          rw [HEE.out]
          have hgr := grown_row w10 q2 #[.int .i64 m, .slice kA1 x.kids.length kc1]
          refine PanV.yes HR.out hb12 ⟨kA1, kc1, rfl, HKx.out.move ⟨hb12.size, fun k hp hk => ⟨hp, hb12.block k hk⟩⟩⟩
      · have c1 : (s == ST) = false := beq_eq_false_iff_ne.2 hs
        have HR := Lib.hid (partM_6 HI2.out HPr.out HV2.out HT.out (by rw [← HM.out]; exact fun h => hs (by rw [HSS.out]; exact h.2)))
        clear hs
        go_region_with (first
          | (go_at_call 43; refine (HRn.out _).mono ?_; rintro e w9 ⟨rfl, rfl⟩)
          | (go_at_call 26; refine (HTs.out _ HBd.out).mono ?_; rintro e w9 ⟨rfl, hb9⟩; have z9 : w9.cell? ⟨q4, 0, none⟩ = some (.int .i64 m) := (hb9.cell (p := ⟨q4, 0, none⟩) hp8).trans z0)
          | (go_at_call 44; refine (HSt.out _ (HBd.out.trans (hb9.mono HBd.out.size))).mono ?_; rintro e w10 ⟨rfl, hb10⟩)
          | (go_at_call 25; refine (HNf.out _).mono ?_; rintro e w11 ⟨rfl, rfl⟩; rw [HEE.out]; refine (fun (_ : wpAny Tryz.prog .any #[] (fun _ _ _ => True) 0 #[] { tmps := #[], defers := [] } w8) => ⟨rfl, PanV.no HR.out (HBd.out.trans ((hb9.trans (hb10.mono hb9.size)).mono HBd.out.size))⟩) ?_))
        all_goals trivial
end Go.Proofs.YtcamdnfhnianbaaGreatDoor
