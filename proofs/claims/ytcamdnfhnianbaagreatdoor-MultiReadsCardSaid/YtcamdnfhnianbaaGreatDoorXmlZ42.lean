/-
  Parts of the walks and plain laws of layer 10, joined: MulB. Conditions: as each theorem states them.
-/
import Derived.Test.YtcamdnfhnianbaaGreatDoorXmlZ41
/-! MulB -/
namespace Go.Proofs.YtcamdnfhnianbaaGreatDoor
set_option linter.unusedVariables false
set_option linter.unusedSimpArgs false
open Go.RowKit

theorem all_next {α : Type} {f : α → Bool} {l : List α} {k : Nat} {x : α} {r : List α} {V : Bool} (hd : l.drop k = x :: r) (h : (l.drop k).all f = V) (hr : l.drop (k + 1) = r) : (f x = true → (l.drop (k + 1)).all f = V) ∧ (f x = false → V = false) := by
  rw [hd, List.all_cons] at h
  constructor
  · intro hx; rw [hx, Bool.true_and, ← hr] at h; exact h
  · intro hx; rw [hx, Bool.false_and] at h; exact h.symm
set_option maxHeartbeats 16000000 in
set_option maxRecDepth 100000 in
set_option linter.unusedSimpArgs false in
theorem mgood_any (t : ToldT) (pA : Option Addr) (pc : Nat) (w : World) (hp : PartsP anyB w (.slice pA t.parts.length pc) t.parts) (hs : ∀ p ∈ t.parts, ∀ n ∈ p.props, SmallN 2000000 n) (hE : MEnv w) :
    Calls Tryz.prog 19 #[.agg #[.string ⟨t.href.toArray⟩, .slice pA t.parts.length pc]] w (Ret (.bool (goodM t)) w) := by
  obtain ⟨-, hpc, hpm, hpk⟩ := part_at hp.1
  unfold maxLen at hpm
  obtain ⟨V, hV⟩ : ∃ V, t.parts.all goodP = V := ⟨_, rfl⟩
  have HM := Lib.hid (show goodM t = (V && !decide (t.href = [])) by rw [← hV]; rfl)
  have hb0 : Below w.heap.size w (w.alloc (.cells #[.string ⟨t.href.toArray⟩, .slice pA t.parts.length pc] 42 (0, 0))) := (Below.refl _ _).alloc (Nat.le_refl _) _
  have HQ0 := Lib.hid (heap_alloc_new w (.cells #[.string ⟨t.href.toArray⟩, .slice pA t.parts.length pc] 42 (0, 0)))
  have HB0 := Lib.hid hb0
  have HV := Lib.hid (show (t.parts.drop 0).all goodP = V from hV)
  have HPk := Lib.hid hpk
  have HSm := Lib.hid hs
  have HE := Lib.hid hE
  obtain ⟨E, hEE⟩ : ∃ E, E = Ret (.bool (goodM t)) w := ⟨_, rfl⟩
  rw [← hEE]
  have HEE := Lib.hid hEE
  clear hp hs hE hEE hV hb0 hpk
  go_enter Tryz.func19, Tryz.ntmps19
  go_wp2_with fail
  generalize w.alloc (.cells #[.string ⟨t.href.toArray⟩, .slice pA t.parts.length pc] 42 (0, 0)) = w0 at *
  obtain ⟨q, hq⟩ : ∃ q, q = w.heap.size := ⟨_, rfl⟩
  rw [← hq] at HQ0 ⊢
  clear hq
  go_loopg [10] t.parts.length (fun gk v10 wr => ∃ i : Nat, i + gk = t.parts.length ∧ v10 = .int .i64 i ∧ Hid (Below w0.heap.size w0 wr) ∧ Hid ((t.parts.drop i).all goodP = V))
  case atStart => exact ⟨0, by omega, rfl, Lib.hid (Below.refl _ _), HV⟩
  case round =>
    obtain ⟨i, hig, rfl, HBr, HAll⟩ := hrel
    have HBw := Lib.hid (HB0.out.trans (HBr.out.mono HB0.out.size))
    clear HV
    rcases hd : t.parts.drop i with _ | ⟨p, rest⟩
    · have hi2 : i = t.parts.length := by have := drop_nil hd; omega
      subst hi2
      have hV : V = true := by have := HAll.out; rw [hd] at this; exact this.symm
      have hq1 := (HBr.out.block _ (xlt HQ0.out)).trans HQ0.out
      have x0 := xat hq1 0
      simp only [List.getElem?_toArray, List.getElem?_cons_zero] at x0
      clear hd HAll hq1 HPk
      by_cases hh : t.href = []
      · have HF := Lib.hid (show goodM t = false by rw [HM.out, decide_eq_true hh, Bool.not_true, Bool.and_false])
        have b1 : (t.href == []) = true := by rw [hh]; rfl
        have b2 : t.href.isEmpty = true := by rw [hh]; rfl
        have b3 : (t.href != []) = false := by rw [hh]; rfl
        clear hh HM hV
        go_wp2
        rw [HEE.out, HF.out]
        exact ⟨rfl, HBw.out⟩
      · have HF := Lib.hid (show goodM t = true by rw [HM.out, hV, decide_eq_false hh]; rfl)
        have b1 : (t.href == []) = false := beq_eq_false_iff_ne.2 hh
        have b2 : t.href.isEmpty = false := by cases h : t.href with | nil => exact absurd h hh | cons => rfl
        have b3 : (t.href != []) = true := by rw [bne, b1]; rfl
        clear hh HM hV
        go_wp2
        rw [HEE.out, HF.out]
        exact ⟨rfl, HBw.out⟩
    · obtain ⟨hlt, hx, hr⟩ := drop_consA hd
      obtain ⟨b, o, kA, kc, rfl, hbl, e0, e1, hn⟩ := HPk.out i p hx
      have d0 := (HBw.out.cell (p := ⟨b, o + i * 2, none⟩) hbl).trans e0
      have d1 := (HBw.out.cell (p := ⟨b, o + i * 2 + 1, none⟩) hbl).trans e1
      have k1 : (i : Int) < t.parts.length := by omega
      have k2 : (0 : Int) ≤ i := by omega
      obtain ⟨n1, n2⟩ := all_next hd HAll.out hr
      have HSp := Lib.hid (HSm.out p (List.mem_of_getElem? hx))
      obtain ⟨-, hkc, hkm, hkk⟩ := kid_at hn
      unfold maxLen at hkm
      have HKk := Lib.hid hkk
      have N1 := Lib.hid n1
      have N2 := Lib.hid n2
      have hg : goodP p = (!decide (reasonS p.status = []) && p.props.all goodT) := rfl
      have HG := Lib.hid hg
      obtain ⟨st, props⟩ := p
      simp only at d0 d1 HSp hkc HKk HG
      have HRn := Lib.hid (fun w => reason_any st w)
      have hb2 : Below wr.heap.size wr (wr.alloc (.cells #[.int .i64 st, .slice kA props.length kc] 47 (0, 0))) := (Below.refl _ _).alloc (Nat.le_refl _) _
      have HQ2 := Lib.hid (heap_alloc_new wr (.cells #[.int .i64 st, .slice kA props.length kc] 47 (0, 0)))
      have HB2 := Lib.hid (HBr.out.trans (hb2.mono HBr.out.size))
      have HBw2 := Lib.hid (HBw.out.trans (hb2.mono HBw.out.size))
      clear e0 e1 hd hx hr hn hkk n1 n2 hg HAll hb2
      by_cases hrs : reasonS st = []
      · have b1 : (reasonS st == []) = true := by rw [hrs]; rfl
        have b2 : (reasonS st).isEmpty = true := by rw [hrs]; rfl
        have HF := Lib.hid (show goodM t = false by rw [HM.out, N2.out (by rw [HG.out, decide_eq_true hrs]; rfl)]; rfl)
        clear hrs HG HM N1 N2
        generalize reasonS st = R at *
        go_wp2_with (go_at_call 43; refine (HRn.out _).mono ?_; rintro e w5 ⟨rfl, rfl⟩)
        rw [HEE.out, HF.out]
        exact ⟨rfl, HBw2.out⟩
      · have b1 : (reasonS st == []) = false := beq_eq_false_iff_ne.2 hrs
        have b2 : (reasonS st).isEmpty = false := by cases h : reasonS st with | nil => exact absurd h hrs | cons => rfl
        have HG2 := Lib.hid (show goodP ⟨st, props⟩ = props.all goodT by rw [HG.out, decide_eq_false hrs]; rfl)
        clear hrs HG
        generalize reasonS st = R at *
        go_wp2_with (go_at_call 43; refine (HRn.out _).mono ?_; rintro e w5 ⟨rfl, rfl⟩)
        generalize wr.alloc (.cells #[.int .i64 st, .slice kA props.length kc] 47 (0, 0)) = w2 at *
        obtain ⟨q2, hq2⟩ : ∃ q, q = wr.heap.size := ⟨_, rfl⟩
        rw [← hq2] at HQ2 ⊢
        clear hq2 d0 d1
        obtain ⟨V2, hV2⟩ : ∃ V, props.all goodT = V := ⟨_, rfl⟩
        rw [hV2] at HG2
        go_loopg [21] props.length (fun gk2 v21 wr2 => ∃ k : Nat, k + gk2 = props.length ∧ v21 = .int .i64 k ∧ Hid (Below w2.heap.size w2 wr2) ∧ Hid ((props.drop k).all goodT = V2))
        case atStart => exact ⟨0, by omega, rfl, Lib.hid (Below.refl _ _), Lib.hid hV2⟩
        case round =>
          obtain ⟨k, hkg, rfl, HBk, HAll2⟩ := hrel
          clear hV2
          have HBw3 := Lib.hid (HBw2.out.trans (HBk.out.mono HBw2.out.size))
          rcases hd : props.drop k with _ | ⟨x, rest2⟩
          · have hk2 : k = props.length := by have := drop_nil hd; omega
            subst hk2
            have hV2 : V2 = true := by have := HAll2.out; rw [hd] at this; exact this.symm
            have HAll3 := Lib.hid (show (t.parts.drop (i + 1)).all goodP = V from N1.out (by rw [HG2.out]; exact hV2))
            have HB4 := Lib.hid (HB2.out.trans (HBk.out.mono HB2.out.size))
            clear hd HAll2 hV2 HG2 N1 N2
            go_wp2
            go_roundg (t.parts.length - (i + 1))
            case measure => omega
            case rel => exact ⟨i + 1, by omega, by go_num, HB4, HAll3⟩
          · obtain ⟨hlt2, hx, hr⟩ := drop_consA hd
            obtain ⟨b2, o2, aA2, ac2, kA2, kc2, rfl, hbl2, e0, e1, e2, e3, e4, fa2, fk2⟩ := HKk.out k x hx
            have d0 := (HBw3.out.cell (p := ⟨b2, o2 + k * 5, none⟩) hbl2).trans e0
            have d1 := (HBw3.out.cell (p := ⟨b2, o2 + k * 5 + 1, none⟩) hbl2).trans e1
            have d2 := (HBw3.out.cell (p := ⟨b2, o2 + k * 5 + 2, none⟩) hbl2).trans e2
            have d3 := (HBw3.out.cell (p := ⟨b2, o2 + k * 5 + 3, none⟩) hbl2).trans e3
            have d4 := (HBw3.out.cell (p := ⟨b2, o2 + k * 5 + 4, none⟩) hbl2).trans e4
            have i1 : (k : Int) < props.length := by omega
            have i2 : (0 : Int) ≤ k := by omega
            obtain ⟨n1, n2⟩ := all_next hd HAll2.out hr
            have hb4 : Below wr.heap.size wr (wr.alloc (.cells #[.string ⟨x.text.toArray⟩, .string ⟨x.space.toArray⟩, .string ⟨x.name.toArray⟩, .slice aA2 x.attrs.length ac2, .slice kA2 x.kids.length kc2] 36 (0, 0))) := (Below.refl _ _).alloc (Nat.le_refl _) _
            have HB4 := Lib.hid (HBk.out.trans (hb4.mono HBk.out.size))
            have hbw4 := HBw3.out.trans (hb4.mono HBw3.out.size)
            have HGd := Lib.hid (xGoodT_any x (.slice aA2 x.attrs.length ac2) (.slice kA2 x.kids.length kc2) _ (fa2.under hbw4) (fk2.under hbw4) (HSp.out x (List.mem_of_getElem? hx)) (HE.out.below hbw4).x)
            unfold nodeV at HGd
            have HBw4 := Lib.hid hbw4
            have N3 := Lib.hid n1
            have N4 := Lib.hid n2
            clear e0 e1 e2 e3 e4 hd hx hr fa2 fk2 n1 n2 hb4 hbw4 HAll2 HBw3 HBk
            go_wp2_with fail
            generalize wr.alloc (.cells #[.string ⟨x.text.toArray⟩, .string ⟨x.space.toArray⟩, .string ⟨x.name.toArray⟩, .slice aA2 x.attrs.length ac2, .slice kA2 x.kids.length kc2] 36 (0, 0)) = w4 at *
            refine HGd.out.mono ?_
            rintro e w5 ⟨rfl, hb5⟩
            have HB5 := Lib.hid (HB4.out.trans (hb5.mono HB4.out.size))
            have HBw5 := Lib.hid (HBw4.out.trans (hb5.mono HBw4.out.size))
            clear hb5 HGd HB4 HBw4 d0 d1 d2 d3 d4
            cases hgx : goodT x
            · have HF := Lib.hid (show goodM t = false by rw [HM.out, N2.out (by rw [HG2.out]; exact N4.out hgx)]; rfl)
              clear hgx HM N1 N2 N3 N4
              go_wp2
              rw [HEE.out, HF.out]
              exact ⟨rfl, HBw5.out⟩
            · have HAll3 := Lib.hid (N3.out hgx)
              clear hgx N3 N4
              go_wp2
              go_roundg (gk - 1)
              case measure => omega
              case rel => exact ⟨k + 1, by omega, by go_num, HB5, HAll3⟩
end Go.Proofs.YtcamdnfhnianbaaGreatDoor
