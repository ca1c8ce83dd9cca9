/-
  The walk of cond.of. Conditions: what the listed variables hold; a tag is at most a million bytes.
-/
import Derived.Test.YthfdhanhkanhhaaDoorCondA
import Derived.Test.YthfdhanhkanhhaaDoorCondP2
import Derived.Test.YthfdhanhkanhhaaDoorUriM
namespace Go.Proofs.YthfdhanhkanhhaaDoor
open Go.RowKit

def FactPost (f : FactT) (w : World) (e : Ending) (w' : World) : Prop :=
  ∃ p t, e = .returned (.agg #[p, .string ⟨f.etag.toArray⟩, t]) ∧ Strs w' p f.path ∧ Strs w' t f.toks ∧ Below w.heap.size w w'
theorem findS_nil (p : List (List UInt8)) : findS [] p = noFact := rfl
theorem findS_cons (f : FactT) (r : List FactT) (p : List (List UInt8)) : findS (f :: r) p = if f.path = p then f else findS r p := rfl
theorem results_c1 {P : Program} {fn : Func} {p : Tmp} {ty : TypeId} (h : fn.results = #[.cell p ty]) (tmps : Array Value) (w : World) (g : Nat) (t : TypeId) (cs : Array Value) (d : TypeDesc)
    (hp : tmps.getD p undef = .pointer (some ⟨g, 0, none⟩)) (hg : w.heap[g]? = some (.cells cs t (0, 0)))
    (hu : P.underlying ty = some d) (hd : (match d with | .struct _ | .array _ _ => true | _ => false) = true) (hi : (P.info? ty).map (·.size) = some cs.size) :
    (results fn tmps).run P w = .ok (.agg cs) w := results_cell_row h tmps w g t cs (0, 0) d hp hg hu hd hi
/-- three cells stored into a block of three. -/
theorem set3 {w : World} {b : Nat} {x y z x' y' z' : Value} {t : TypeId} (h : w.heap[b]? = some (.cells #[x, y, z] t (0, 0))) :
    (((w.setCell ⟨b, 0, none⟩ x').setCell ⟨b, 1, none⟩ y').setCell ⟨b, 2, none⟩ z').heap[b]? = some (.cells #[x', y', z'] t (0, 0)) :=
  heap_setCell_same _ b 2 _ _ z' (heap_setCell_same _ b 1 _ _ y' (heap_setCell_same w b 0 _ _ x' h))
theorem set3_cells {w : World} {b : Nat} {x y z : Value} (x' y' : Value) {t : TypeId} (h : w.heap[b]? = some (.cells #[x, y, z] t (0, 0))) :
    w.cell? ⟨b, 0, none⟩ = some x ∧ w.frozen? ⟨b, 0, none⟩ = false ∧ (w.setCell ⟨b, 0, none⟩ x').cell? ⟨b, 1, none⟩ = some y ∧ w.frozen? ⟨b, 1, none⟩ = false ∧
      ((w.setCell ⟨b, 0, none⟩ x').setCell ⟨b, 1, none⟩ y').cell? ⟨b, 2, none⟩ = some z ∧ w.frozen? ⟨b, 2, none⟩ = false := by
  have h1 := heap_setCell_same w b 0 _ _ x' h
  have h2 := heap_setCell_same _ b 1 _ _ y' h1
  refine ⟨by rw [cell_of_row _ _ _ _ _ _ h]; rfl, ?_, by rw [cell_of_row _ _ _ _ _ _ h1]; rfl, ?_, by rw [cell_of_row _ _ _ _ _ _ h2]; rfl, ?_⟩ <;> (unfold World.frozen?; simp [h])
theorem set3_below {B : Nat} {w w' : World} {b : Nat} (h : Below B w w') (hb : B ≤ b) (x y z : Value) : Below B w (((w'.setCell ⟨b, 0, none⟩ x).setCell ⟨b, 1, none⟩ y).setCell ⟨b, 2, none⟩ z) :=
  ((h.setCell hb x).setCell hb y).setCell hb z
set_option maxHeartbeats 2000000 in
set_option maxRecDepth 100000 in
set_option linter.unusedSimpArgs false in
theorem of_any (tg : Bool) (tag : List UInt8) (cv sv fv : Value) (self : List (List UInt8)) (fs : List FactT) (w : World) (hs : Strs w sv self) (hf : FactL w fv fs) (ht : tag.length ≤ 1048576) (hE : Env w) :
    Calls Tryd.prog 41 #[.agg #[.bool tg, .string ⟨tag.toArray⟩, cv], sv, fv] w (FactPost (factsS tg tag self fs) w) := by
  have HS := Lib.hid hs
  have HF := Lib.hid hf
  obtain ⟨A, cap, rfl, hcap, hcm, -⟩ := hf
  unfold maxLen at hcm
  clear hs
  obtain ⟨F, hF⟩ : ∃ F, factsS tg tag self fs = F := ⟨_, rfl⟩
  rw [hF]
  have hA : Below w.heap.size w ((w.alloc (.cells #[.bool tg, .string ⟨tag.toArray⟩, cv] 46)).alloc (.cells #[.slice none 0 0, .string ⟨#[]⟩, .slice none 0 0] 43)) := ((Below.refl _ w).alloc (Nat.le_refl _) _).alloc (by simp) _
  have hR : ((w.alloc (.cells #[.bool tg, .string ⟨tag.toArray⟩, cv] 46)).alloc (.cells #[.slice none 0 0, .string ⟨#[]⟩, .slice none 0 0] 43)).heap[w.heap.size + 1]? = some (.cells #[.slice none 0 0, .string ⟨#[]⟩, .slice none 0 0] 43 (0, 0)) := by
    have := heap_alloc_new (w.alloc (.cells #[.bool tg, .string ⟨tag.toArray⟩, cv] 46)) (.cells #[.slice none 0 0, .string ⟨#[]⟩, .slice none 0 0] 43)
    rwa [show (w.alloc (.cells #[.bool tg, .string ⟨tag.toArray⟩, cv] 46)).heap.size = w.heap.size + 1 by simp] at this
  go_enter Tryd.func41, Tryd.ntmps41
  cases tg
  case' true =>
    have P1 := Lib.hid (parse_any tag _ ht (hE.below hA))
    unfold Parsed at P1
    unfold factsS at hF
    rw [if_pos rfl] at hF
    generalize parseS tag = R at P1 hF
    obtain ⟨p, d, n⟩ := R
    go_wp2_with fail
    refine P1.out.mono ?_
    rintro e w2 ⟨v2, rfl, hv2, hb2⟩
    have hA2 : Below w.heap.size w w2 := hA.trans (hb2.mono hA.size)
    have hR2 := (hb2.block (w.heap.size + 1) (by simp)).trans hR
    have hne : n = 0 ∨ n ≠ 0 := by omega
    replace hF : (if n = 0 then findS fs p else noFact) = F := hF
    replace hv2 : Strs w2 v2 p := hv2
    clear HS hA hR P1 hb2
    rcases hne with rfl | hne
    case' inr =>
      have hF' : noFact = F := by rw [if_neg hne] at hF; exact hF
      subst hF'
      have hn2 : (n == 0) = false := by simpa using hne
      obtain ⟨c0, f0, c1, f1, c2, f2⟩ := set3_cells (.slice none 0 0) (.string ⟨#[]⟩) hR2
      have hR3 := set3 (x' := .slice none 0 0) (y' := .string ⟨#[]⟩) (z' := .slice none 0 0) hR2
      clear hne hF
      go_wp2
      refine bodyPost_ret (results_c1 rfl _ _ _ _ _ _ rfl hR3 Tryd.underlying43 rfl (by kernel_rfl)) rfl ?_
      exact ⟨_, _, rfl, strs_nil _, strs_nil _, set3_below hA2 (Nat.le_succ _) _ _ _⟩
    case' inl =>
      rw [if_pos rfl] at hF
      generalize v2 = sx at *
      generalize p = px at *
      generalize w2 = wx at *
      go_wp2
  case' false =>
    replace hF : findS fs self = F := hF
    go_wp2
    have hA2 := Lib.hid hA
    have hR2 := Lib.hid hR
    have hv2 := HS.out.below hA (Nat.le_refl _)
    clear HS hA hR
    generalize sv = sx at *
    generalize self = px at *
    generalize hwx : ((w.alloc (.cells #[.bool false, .string ⟨tag.toArray⟩, cv] 46)).alloc (.cells #[.slice none 0 0, .string ⟨#[]⟩, .slice none 0 0] 43)) = wx at *
  all_goals
    have hA2 := Hid.out hA2
    have hR2 := Hid.out hR2
    have Hv := Lib.hid hv2
    clear hv2
    have hsz : w.heap.size + 1 < wx.heap.size := (Array.getElem?_eq_some_iff.1 hR2).1
    go_loopw [27] (fun i wr => ∃ k : Nat, k ≤ fs.length ∧ i = .int .i64 k ∧ Hid (findS (fs.drop k) px = F) ∧ Below wx.heap.size wx wr) (fun i _ => fs.length - (intOf i).toNat)
    case atStart => exact ⟨0, Nat.zero_le _, rfl, hF, Below.refl _ _⟩
    case round =>
      obtain ⟨k, hk, rfl, H, hbw⟩ := hrel
      clear hF
      obtain ⟨A', cap', hva, _, _, hac⟩ := HF.out.at
      injection hva with e1 e2 e3
      subst e1 e3
      clear e2
      have Sr := Lib.hid (Hv.out.below hbw (Nat.le_refl _))
      have hRr := (hbw.block (w.heap.size + 1) hsz).trans hR2
      have hAr : Below w.heap.size w wr := hA2.trans (hbw.mono hA2.size)
      clear hR2 hA2
      rcases hd : fs.drop k with _ | ⟨x, r⟩
      · have hk2 : k = fs.length := by have := drop_nil hd; omega
        rw [hd] at H
        subst hk2
        clear hd hac
        obtain rfl : noFact = F := H.out
        obtain ⟨c0, f0, c1, f1, c2, f2⟩ := set3_cells (.slice none 0 0) (.string ⟨#[]⟩) hRr
        have hR3 := set3 (x' := .slice none 0 0) (y' := .string ⟨#[]⟩) (z' := .slice none 0 0) hRr
        clear hRr
        go_wp2
        refine bodyPost_ret (results_c1 rfl _ _ _ _ _ _ rfl hR3 Tryd.underlying43 rfl (by kernel_rfl)) rfl ?_
        exact ⟨_, _, rfl, strs_nil _, strs_nil _, set3_below hAr (Nat.le_succ _) _ _ _⟩
      · obtain ⟨hlt, hx, hr⟩ := drop_consA hd
        obtain ⟨b, o, pv, tv, rfl, hb, e0, e1, e2, hpw, htw⟩ := hac k x hx
        replace e0 := (hAr.cell (p := ⟨b, o + k * 3, none⟩) hb).trans e0
        replace e1 := (hAr.cell (p := ⟨b, o + k * 3 + 1, none⟩) hb).trans e1
        replace e2 := (hAr.cell (p := ⟨b, o + k * 3 + 2, none⟩) hb).trans e2
        have hpv := hpw.below hAr (Nat.le_refl _)
        have htv := htw.below hAr (Nat.le_refl _)
        rw [hd, findS_cons] at H
        have Hr := Lib.hid hr
        clear hd hr hx hac
        unfold str at e1
        obtain ⟨path, etag, toks⟩ := x
        simp only at e1 hpv htv hpw htw
        obtain ⟨pA, pc, rfl⟩ := strs_ne hpv
        obtain ⟨tA, tc, rfl⟩ := strs_ne htv
        have hba : Below wr.heap.size wr (wr.alloc (.cells #[.slice pA path.length pc, .string ⟨etag.toArray⟩, .slice tA toks.length tc] 43)) := (Below.refl _ _).alloc (Nat.le_refl _) _
        have Pa := Lib.hid (hpv.below hba (Nat.le_refl _))
        have Ta := Lib.hid (htv.below hba (Nat.le_refl _))
        have Sa := Lib.hid (Sr.out.below hba (Nat.le_refl _))
        have hRa := Lib.hid ((hba.block _ (Array.getElem?_eq_some_iff.1 hRr).1).trans hRr)
        have hca := Lib.hid (cell_new wr #[.slice pA path.length pc, .string ⟨etag.toArray⟩, .slice tA toks.length tc] 43)
        have hA3 : Below w.heap.size w (wr.alloc (.cells #[.slice pA path.length pc, .string ⟨etag.toArray⟩, .slice tA toks.length tc] 43)) := hAr.alloc hAr.size _
        have hbxa : Below wx.heap.size wx (wr.alloc (.cells #[.slice pA path.length pc, .string ⟨etag.toArray⟩, .slice tA toks.length tc] 43)) := hbw.alloc hbw.size _
        have hsza : wr.heap.size < (wr.alloc (.cells #[.slice pA path.length pc, .string ⟨etag.toArray⟩, .slice tA toks.length tc] 43)).heap.size := by simp
        have HQ := Lib.hid (sequal_any (.slice pA path.length pc) sx path px (wr.alloc (.cells #[.slice pA path.length pc, .string ⟨etag.toArray⟩, .slice tA toks.length tc] 43)) Pa.out Sa.out)
        have HPw := Lib.hid hpw
        have HTw := Lib.hid htw
        clear hpv htv Sr hRr hba hpw htw
        by_cases he : path = px
        · have hF' : (⟨path, etag, toks⟩ : FactT) = F := by have := H.out; rw [if_pos he] at this; exact this
          subst hF'
          subst he
          rw [decide_eq_true rfl] at HQ
          clear H
          go_wp2_with fail
          refine HQ.out.mono ?_
          rintro e w4 ⟨rfl, hb4⟩
          have d0 := (hb4.cell (p := ⟨wr.heap.size, 0, none⟩) hsza).trans (hca.out 0)
          have d1 := (hb4.cell (p := ⟨wr.heap.size, 1, none⟩) hsza).trans (hca.out 1)
          have d2 := (hb4.cell (p := ⟨wr.heap.size, 2, none⟩) hsza).trans (hca.out 2)
          simp at d0 d1 d2
          have hR4 := (hb4.block _ (Array.getElem?_eq_some_iff.1 hRa.out).1).trans hRa.out
          have hA4 : Below w.heap.size w w4 := hA3.trans (hb4.mono hA3.size)
          obtain ⟨c0, f0, c1, f1, c2, f2⟩ := set3_cells (.slice pA path.length pc) (.string ⟨etag.toArray⟩) hR4
          have HR5 := Lib.hid (set3 (x' := .slice pA path.length pc) (y' := .string ⟨etag.toArray⟩) (z' := .slice tA toks.length tc) hR4)
          have Pb := Lib.hid (Pa.out.below hb4 (Nat.le_refl _))
          have Tb := Lib.hid (Ta.out.below hb4 (Nat.le_refl _))
          clear hR4 hRa hca hb4 hbxa
          go_wp2
          refine bodyPost_ret (results_c1 rfl _ _ _ _ _ _ rfl HR5.out Tryd.underlying43 rfl (by kernel_rfl)) rfl ?_
          have hA5 := set3_below hA4 (Nat.le_succ _) (.slice pA path.length pc) (.string ⟨etag.toArray⟩) (.slice tA toks.length tc)
          exact ⟨_, _, rfl, HPw.out.below hA5 (Nat.le_refl _), HTw.out.below hA5 (Nat.le_refl _), hA5⟩
        · have H2 := Lib.hid (show findS r px = F by have := H.out; rw [if_neg he] at this; exact this)
          rw [decide_eq_false he] at HQ
          clear H he
          go_wp2_with fail
          refine HQ.out.mono ?_
          rintro e w4 ⟨rfl, hb4⟩
          have hb5 := hbxa.trans (hb4.mono hbxa.size)
          clear hca hRa hb4
          go_wp2
          go_roundw
          case rel => exact ⟨k + 1, by omega, by go_num, by rw [Hr.out]; exact H2.out, hb5⟩
          case measure => simp [intOf]; omega
end Go.Proofs.YthfdhanhkanhhaaDoor
