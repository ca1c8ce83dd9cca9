import Derived.Test.YtjkiehmjffgnlaaGreatDoorXmlZ14
import Derived.Test.YtjkiehmjffgnlaaGreatDoorXmlZ18
namespace Go.Proofs.YtjkiehmjffgnlaaGreatDoor
set_option linter.unusedVariables false
set_option linter.unusedSimpArgs false
open Go.RowKit

set_option maxHeartbeats 32000000 in
set_option maxRecDepth 100000 in
set_option linter.unusedSimpArgs false in
theorem xcont_any (b : Nat) (s : List UInt8) (sv : Value) (sc : Scope) (w : World) (h : PX w b s) (hs : s.length ≤ 1000000) (hE : XE w b) (hsc : ScP (· ≠ b) w sv sc)
    (hEl : ∀ wx r, r.length ≤ s.length → PX wx b r → w.grownBy wx (some b) → Calls Tryz.prog 63 #[.pointer (some ⟨b, 0, none⟩), sv] wx (XOut b (elemX sc r) (ElV wx.heap.size) wx)) :
    Calls Tryz.prog 91 #[.pointer (some ⟨b, 0, none⟩), sv] w (XOut b (contX sc [] s) (KidsV w.heap.size) w) := by
  have hbw : b < w.heap.size := h.lt
  have HHp := Lib.hid (fun s p wx => xhasPrefix_any s p wx)
  have HSk := Lib.hid (fun wx s (h : PX wx b s) (hs : s.length ≤ 1000000) (hg : w.grownBy wx (some b)) => xskip_any b s wx h hs (hE.step hg))
  have HEt := Lib.hid (fun wx s word (h : PX wx b s) => xeat_any b s word wx h)
  have HUp := Lib.hid (fun wx s word (h : PX wx b s) (hs : s.length ≤ 1000000) (hg : w.grownBy wx (some b)) => xupto_any b s word wx h (by omega) (hE.step hg))
  have HLn := Lib.hid (fun (u : List UInt8) wx (hu : u.length ≤ 1000000) (hg : w.grownBy wx (some b)) => xlines_any u wx (by omega) (hE.step hg).at)
  have HRf := Lib.hid (fun wx s (h : PX wx b s) (hs : s.length ≤ 1000000) (hg : w.grownBy wx (some b)) => xref_any b s wx h hs (hE.step hg))
  have HIx := Lib.hid (fun (l : List UInt8) (w : World) (hl : l.length ≤ 1000000) => indexAny_any l [60, 38] w ascii2' (by decide) (by decide) (by omega))
  have HCt := Lib.hid (fun (u : List UInt8) wx (hu : u.length ≤ 1000000) (hg : w.grownBy wx (some b)) => xcontains_any u [93, 93, 62] wx (by omega) (hE.step hg).at)
  have HEl := Lib.hid hEl
  obtain ⟨ANS, hA⟩ : ∃ A, contX sc [] s = A := ⟨_, rfl⟩
  rw [hA]
  have HA := Lib.hid hA
  have HP := Lib.hid h
  clear h hA hE hsc hEl
  obtain ⟨B, hB⟩ : ∃ B, B = w.heap.size := ⟨_, rfl⟩
  rw [← hB] at hbw ⊢
  have HTx := Lib.hid (fun (v : Value) (ks : List NodeT) (t : List UInt8) (wx : World) (h : Kids B wx v ks) (hg : w.grownBy wx (some b)) (hk : ks.length ≤ 1000000) (hx : ∀ x ∈ ks, x.text.length ≤ 4000000) (ht : t.length ≤ 4000000) => xtext_any B v ks t wx h (hB ▸ hg.size) hk (fun x hx' => by have := hx x hx'; omega) (by omega))
  have hBw : w.heap.size ≤ B := Nat.le_of_eq hB.symm
  have hwB : ∀ wx : World, w.grownBy wx (some b) → B ≤ wx.heap.size := fun wx hg => hB ▸ hg.size
  have HWB := Lib.hid hwB
  clear hB hwB
  go_enter Tryz.func91, Tryz.ntmps91
  go_wp2_with fail
  go_loopg [5] s.length (fun g kv wr => ∃ (s' : List UInt8) (ks : List NodeT), s'.length ≤ g ∧ g ≤ s.length ∧ ks.length + s'.length ≤ 1000000 ∧ (∀ x ∈ ks, x.text.length ≤ 4000000 - 4 * s'.length) ∧ PX wr b s' ∧ w.grownBy wr (some b) ∧ Hid (Kids B wr kv ks) ∧ Hid (contX sc ks s' = ANS))
  case atStart => exact ⟨s, [], Nat.le_refl _, Nat.le_refl _, by simp; omega, (fun x hx => by cases hx), HP.out, World.grownBy.refl _ _, Kids.nil _ _, HA⟩
  case round =>
    obtain ⟨s', ks, hl, hgs, hkn, hkx, hp, hg, hst, HK⟩ := hrel
    obtain ⟨kA, kn, kc, rfl⟩ := hst.out.shape
    have HP1 := Lib.hid hp
    have HG1 := Lib.hid hg
    have HKX := Lib.hid hkx
    have HKB := Lib.hid hst.out.lt
    have HS1 := Lib.hid hst
    have x0 := hp.c0
    clear hp hg hst HP HA hkx
    go_wp2_with fail
    refine (HHp.out s' [60, 47] wr).mono ?_
    rintro e w1 ⟨rfl, rfl⟩
    clear HHp
    cases h47 : [60, 47].isPrefixOf s'
    case true =>
      have HK2 := Lib.hid (show ANS = some (ks, s') by rw [← HK.out, cont_end' h47])
      clear HK h47
      go_wp2
      go_ret
      exact xout_ok HK2.out HG1.out HS1.out.out HP1.out
    have H47 := Lib.hid h47
    clear h47
    by_cases hne : s' = []
    · subst hne
      have HK2 := Lib.hid (show ANS = none by rw [← HK.out, cont_none])
      clear HK
      go_wp2_with fail
      refine (xfail_any _).mono ?_
      rintro e w9 ⟨rfl, rfl⟩
      exact ⟨rfl, xout_no HK2.out HG1.out⟩
    have b0 : s'.isEmpty = false := by cases s' with | nil => exact absurd rfl hne | cons => rfl
    have HNE := Lib.hid hne
    clear hne
    go_wp2_with fail
    refine (HSk.out wr s' HP1.out (by omega) HG1.out).mono ?_
    rintro e w2 ⟨hg2, hx2⟩
    have HG2 := Lib.hid (grown_trans HG1.out hg2)
    have HS2 := Lib.hid (HS1.out.out.step hg2 hbw)
    clear hg2 HG1 HS1 HP1 HSk
    rcases h2 : skipX s' with _ | ⟨t2, r2⟩
    · rw [h2] at hx2
      subst hx2
      exact ⟨rfl, xout_no (by rw [← HK.out, cont_bad H47.out h2]) HG2.out⟩
    rw [h2] at hx2
    obtain ⟨_, rfl, rfl, hp2⟩ := hx2
    have HP2 := Lib.hid hp2
    clear hp2
    cases t2
    case true =>
      have hl2 := (skipX_true h2).1
      have HK2 := Lib.hid (show contX sc ks r2 = ANS by rw [← HK.out, cont_skip H47.out HNE.out h2])
      clear h2 HK x0
      go_wp2
      go_roundg r2.length
      case measure => omega
      case rel => exact ⟨r2, ks, Nat.le_refl _, by omega, by omega, (fun x hx => by have := HKX.out x hx; omega), HP2.out, HG2.out, HS2, HK2⟩
    obtain rfl : r2 = s' := skip_no h2
    have HK2 := Lib.hid ((cont_rest (sc := sc) (ks := ks) H47.out HNE.out h2).symm.trans HK.out)
    clear h2 HK x0
    go_wp2_with fail
    refine (HEt.out w2 r2 [60, 33, 91, 67, 68, 65, 84, 65, 91] HP2.out).mono ?_
    rintro e w3 ⟨hg3, hx3⟩
    have HG3 := Lib.hid (grown_trans HG2.out hg3)
    have HS3 := Lib.hid (HS2.out.step hg3 hbw)
    clear hg3 HG2 HS2 HP2
    rcases h3 : eatX [60, 33, 91, 67, 68, 65, 84, 65, 91] r2 with _ | ⟨u3, r3⟩
    rotate_left
    · -- a CDATA section
      rw [h3] at hx3
      obtain ⟨rfl, hp3⟩ := hx3
      have hl3 := eat_lenX h3
      simp only [List.length_cons, List.length_nil] at hl3
      have HP3 := Lib.hid hp3
      have HK3 := Lib.hid (show thenX (cutS [93, 93, 62] r3) (fun t q => contX sc (addText ks (linesX t)) q) = ANS by rw [← HK2.out]; unfold wCdata; rw [h3])
      clear h3 hp3 HK2 HEt HEl HRf HIx HCt
      go_wp2_with fail
      refine (HUp.out w3 r3 [93, 93, 62] HP3.out (by omega) HG3.out).mono ?_
      rintro e w4 ⟨hg4, hx4⟩
      have HG4 := Lib.hid (grown_trans HG3.out hg4)
      have HS4 := Lib.hid (HS3.out.step hg4 hbw)
      clear hg4 HG3 HS3 HP3 HUp
      rcases h4 : cutS [93, 93, 62] r3 with _ | ⟨t4, r4⟩
      · rw [h4] at hx4
        subst hx4
        exact ⟨rfl, xout_no (by rw [← HK3.out, h4]; rfl) HG4.out⟩
      rw [h4] at hx4
      obtain ⟨_, rfl, rfl, hp4⟩ := hx4
      have hl4 := congrArg List.length (cut_some h4)
      simp only [List.length_append, List.length_cons, List.length_nil] at hl4
      have HP4 := Lib.hid hp4
      have HK4 := Lib.hid (show contX sc (addText ks (linesX t4)) r4 = ANS by rw [← HK3.out, h4]; rfl)
      clear h4 hp4 HK3
      go_wp2_with fail
      refine (HLn.out t4 w4 (by omega) HG4.out).mono ?_
      rintro e w5 ⟨rfl, hb5⟩
      have HG5 := Lib.hid (grown_low HG4.out hb5 HG4.out.size)
      have HS5 := Lib.hid (HS4.out.under hb5)
      have HP5 := Lib.hid (HP4.out.below hb5)
      have hll := lines_len t4
      clear hb5 HG4 HS4 HP4 HLn
      generalize linesX t4 = u at *
      go_wp2_with fail
      refine (HTx.out _ ks u w5 HS5.out HG5.out (by omega) (fun x hx => by have := HKX.out x hx; omega) (by omega)).mono ?_
      rintro e w6 ⟨v6, rfl, hks6, hg6⟩
      have HG6 := Lib.hid (grown_own HG5.out hg6 fun k hk => Nat.le_trans hBw (HKB.out k hk).1)
      have HP6 := Lib.hid (HP5.out.keep hg6 fun e => by have := (HKB.out b e.symm).1; omega)
      have HS6 := Lib.hid hks6
      have hal := addText_len ks u
      clear hg6 hks6 HG5 HP5 HS5 HTx
      go_wp2
      go_roundg r4.length
      case measure => omega
      case rel => exact ⟨r4, _, Nat.le_refl _, by omega, by omega, (fun x hx => by have := addText_most HKX.out x hx; omega), HP6.out, HG6.out, HS6, HK4⟩
    rw [h3] at hx3
    obtain ⟨rfl, hp3⟩ := hx3
    have HP3 := Lib.hid hp3
    have HK3 := Lib.hid (show (if r2.head? = some 60 then thenX (elemX sc r2) fun n r => contX sc (ks ++ [n]) r
          else if r2.head? = some 38 then thenX (refX r2.tail) fun t r => contX sc (addText ks t) r
          else if r2.dropWhile (fun c => !stopC c) = [] ∨ hasEnd (r2.takeWhile fun c => !stopC c) = true then none
          else contX sc (addText ks (linesX (r2.takeWhile fun c => !stopC c))) (r2.dropWhile fun c => !stopC c)) = ANS by rw [← HK2.out]; unfold wCdata; rw [h3])
    clear h3 hp3 HK2 HUp
    rcases hr2 : r2 with _ | ⟨x, q⟩
    · exact absurd hr2 HNE.out
    have x0 := HP3.out.c0
    have hx0 : ∀ hk, (⟨r2.toArray⟩ : ByteArray)[0]'hk = x := fun hk => by subst hr2; rfl
    have hlen : 0 < r2.length := by rw [hr2]; exact Nat.succ_pos _
    have HR2 := Lib.hid hr2
    clear hr2
    by_cases h60 : x = 60
    · -- an element
      subst h60
      have HK4 := Lib.hid (show thenX (elemX sc r2) (fun n r => contX sc (ks ++ [n]) r) = ANS by rw [← HK3.out, if_pos (by rw [HR2.out]; rfl)])
      clear HK3 HEt HLn HRf HIx HCt HTx
      go_wp2_with fail
      refine (HEl.out w3 r2 (by omega) HP3.out HG3.out).mono ?_
      rintro e w4 ⟨hg4, hx4⟩
      have HG4 := Lib.hid (grown_trans HG3.out hg4)
      have HS4 := Lib.hid (HS3.out.step hg4 hbw)
      have h3B := HWB.out w3 HG3.out
      have HKB3 := Lib.hid (HS3.out.lt)
      clear hg4 HG3 HS3 HP3 HEl x0 hx0
      rcases h4 : elemX sc r2 with _ | ⟨n, r4⟩
      · rw [h4] at hx4
        subst hx4
        exact ⟨rfl, xout_no (by rw [← HK4.out, h4]; rfl) HG4.out⟩
      rw [h4] at hx4
      obtain ⟨_, rfl, ⟨av, kv, rfl, hav, hkv⟩, hp4⟩ := hx4
      have hl4 := elemX_lt h4
      have htx := elem_text h4
      have HP4 := Lib.hid hp4
      have HK5 := Lib.hid (show contX sc (ks ++ [n]) r4 = ANS by rw [← HK4.out, h4]; rfl)
      have HTX := Lib.hid htx
      clear h4 hp4 HK4 htx
      obtain ⟨avA, avc, hav0⟩ := tab_shape hav.1
      obtain ⟨kvA, kvc, hkv0⟩ := tab_shape hkv.1
      subst hav0 hkv0
      have HND := Lib.hid (NodeP.of (t := n.text) (s := n.space) (n := n.name) hav hkv)
      obtain ⟨rows, hR⟩ := HS4.out
      have HR := Lib.hid hR
      have HBD := Lib.hid (show (rows.length + 1) * 96 ≤ 140737488355328 by have := hR.len; omega)
      have hB4 := HWB.out w4 HG4.out
      have hone : ∀ u ∈ (#[.string ⟨n.text.toArray⟩, .string ⟨n.space.toArray⟩, .string ⟨n.name.toArray⟩, .slice avA n.attrs.length avc, .slice kvA n.kids.length kvc] : Array Value).toList, u.oneCell' = true := by
        intro u hu
        simp only [List.mem_cons, List.not_mem_nil, or_false] at hu
        rcases hu with rfl | rfl | rfl | rfl | rfl <;> rfl
      have HONE := Lib.hid hone
      clear hR hav hkv hone HS4
      unfold nodeV
      go_wp2_with (at_builtin; go_must (refine wpList_appRec elemN rfl (.tmp 73) (.tmp 77) rfl B rows #[.string ⟨n.text.toArray⟩, .string ⟨n.space.toArray⟩, .string ⟨n.name.toArray⟩, .slice avA n.attrs.length avc, .slice kvA n.kids.length kvc] _ rfl HR.out.own w4.heap.size rfl rfl rfl HONE.out HBD.out hB4 ?_); intro v' w5 hown' hb' hg' hn')
      have hnk : Kids B w5 v' (ks ++ [n]) := HR.out.app (B1 := w3.heap.size) (x := n) (by have := HND.out; obtain ⟨t, sp, nm, ats, kk⟩ := n; exact this) h3B (fun k hk => (HKB3.out k hk).2) hown' hg' hn'
      have HS5 := Lib.hid hnk
      have HG5 := Lib.hid (grown_own HG4.out hg' fun k hk => Nat.le_trans hBw (HKB.out k hk).1)
      have HP5 := Lib.hid (HP4.out.keep hg' fun e => by have := (HKB.out b e.symm).1; omega)
      clear hown' hb' hg' hn' hnk HR HBD HG4 HP4 HND
      go_roundg r4.length
      case measure => omega
      case rel => exact ⟨r4, _, Nat.le_refl _, by omega, by simp; omega, (fun y hy => by
        rcases List.mem_append.1 hy with hy | hy
        · have := HKX.out y hy; omega
        · rw [List.mem_singleton.1 hy, HTX.out]; exact Nat.zero_le _), HP5.out, HG5.out, HS5, HK5⟩
    have e60 : ((x.toNat : Int) == 60) = false := by
      rw [beq_eq_false_iff_ne]
      intro e
      exact h60 (UInt8.toNat_inj.1 (by show x.toNat = 60; omega))
    have HK4 := Lib.hid (show (if x = 38 then thenX (refX q) fun t r => contX sc (addText ks t) r
          else if r2.dropWhile (fun c => !stopC c) = [] ∨ hasEnd (r2.takeWhile fun c => !stopC c) = true then none
          else contX sc (addText ks (linesX (r2.takeWhile fun c => !stopC c))) (r2.dropWhile fun c => !stopC c)) = ANS by
      rw [← HK3.out, if_neg (show ¬ r2.head? = some 60 by rw [HR2.out]; exact head_ne h60)]
      by_cases h38 : x = 38
      · rw [if_pos h38, if_pos (show r2.head? = some 38 by rw [HR2.out, h38]; rfl), HR2.out]; rfl
      · rw [if_neg h38, if_neg (show ¬ r2.head? = some 38 by rw [HR2.out]; exact head_ne h38)])
    have H60 := Lib.hid h60
    clear HK3 h60 HEl
    go_wp2_with fail
    refine (HEt.out w3 r2 [38] HP3.out).mono ?_
    rintro e w4 ⟨hg4, hx4⟩
    have HG4 := Lib.hid (grown_trans HG3.out hg4)
    have HS4 := Lib.hid (HS3.out.step hg4 hbw)
    clear hg4 HG3 HS3 HP3 HEt x0 hx0 e60
    have HXQ := Lib.hid (show eatX [38] r2 = if x = 38 then some ((), q) else none from by
      rw [HR2.out]
      unfold eatX
      by_cases hx : x = 38
      · subst hx; rfl
      · rw [if_neg hx]
        have : ([38] : List UInt8).isPrefixOf (x :: q) = false := by
          rw [List.isPrefixOf, show ((38 : UInt8) == x) = false from beq_eq_false_iff_ne.2 (fun e => hx e.symm)]; rfl
        rw [this]; rfl)
    by_cases h38 : x = 38
    · -- a reference
      rw [HXQ.out, if_pos h38] at hx4
      obtain ⟨rfl, hp4⟩ := hx4
      have HP4 := Lib.hid hp4
      have HK5 := Lib.hid (show thenX (refX q) (fun t r => contX sc (addText ks t) r) = ANS by rw [← HK4.out, if_pos h38])
      have hq : q.length + 1 = r2.length := by rw [HR2.out]; rfl
      clear h38 hp4 HK4 HXQ HLn HIx HCt
      go_wp2_with fail
      refine (HRf.out w4 q HP4.out (by omega) HG4.out).mono ?_
      rintro e w5 ⟨hg5, hx5⟩
      have HG5 := Lib.hid (grown_trans HG4.out hg5)
      have HS5 := Lib.hid (HS4.out.step hg5 hbw)
      clear hg5 HG4 HS4 HP4 HRf
      rcases h5 : refX q with _ | ⟨t5, r5⟩
      · rw [h5] at hx5
        subst hx5
        exact ⟨rfl, xout_no (by rw [← HK5.out, h5]; rfl) HG5.out⟩
      rw [h5] at hx5
      obtain ⟨_, rfl, rfl, hp5⟩ := hx5
      have hl5 := (refX_ok h5).1
      have ht5 := refX_len h5
      have HP5 := Lib.hid hp5
      have HK6 := Lib.hid (show contX sc (addText ks t5) r5 = ANS by rw [← HK5.out, h5]; rfl)
      clear h5 hp5 HK5
      go_wp2_with fail
      refine (HTx.out _ ks t5 w5 HS5.out HG5.out (by omega) (fun x hx => by have := HKX.out x hx; omega) (by omega)).mono ?_
      rintro e w6 ⟨v6, rfl, hks6, hg6⟩
      have HG6 := Lib.hid (grown_own HG5.out hg6 fun k hk => Nat.le_trans hBw (HKB.out k hk).1)
      have HP6 := Lib.hid (HP5.out.keep hg6 fun e => by have := (HKB.out b e.symm).1; omega)
      have HS6 := Lib.hid hks6
      have hal := addText_len ks t5
      clear hg6 hks6 HG5 HP5 HS5 HTx
      go_wp2
      go_roundg r5.length
      case measure => omega
      case rel => exact ⟨r5, _, Nat.le_refl _, by omega, by omega, (fun x hx => by have := addText_most HKX.out x hx; omega), HP6.out, HG6.out, HS6, HK6⟩
    · -- a text
      rw [HXQ.out, if_neg h38] at hx4
      obtain ⟨rfl, hp4⟩ := hx4
      have HP4 := Lib.hid hp4
      have HK5 := Lib.hid (show (if r2.dropWhile (fun c => !stopC c) = [] ∨ hasEnd (r2.takeWhile fun c => !stopC c) = true then none
          else contX sc (addText ks (linesX (r2.takeWhile fun c => !stopC c))) (r2.dropWhile fun c => !stopC c)) = ANS by rw [← HK4.out, if_neg h38])
      have hs1 : stopC x = false := by
        have := H60.out
        unfold stopC
        simp [h38, this]
      have HS1' := Lib.hid hs1
      clear h38 hp4 HK4 HXQ HRf hs1
      have y0 := HP4.out.c0
      go_wp2_with fail
      refine (HIx.out r2 w4 (by omega)).mono ?_
      rintro e w5 ⟨rfl, hb5⟩
      have HG5 := Lib.hid (grown_low HG4.out hb5 HG4.out.size)
      have HS5 := Lib.hid (HS4.out.under hb5)
      have HP5 := Lib.hid (HP4.out.below hb5)
      have z0 := HP5.out.c0
      have hst := indexAny_stop r2
      clear y0 hb5 HG4 HS4 HP4 HIx
      obtain ⟨n, hn⟩ : ∃ n : Nat, n = (r2.takeWhile fun c => !stopC c).length := ⟨_, rfl⟩
      have hnl : n ≤ r2.length := by rw [hn]; exact (List.takeWhile_prefix _).length_le
      have hn1 : 1 ≤ n := by rw [hn, HR2.out, List.takeWhile_cons, HS1'.out]; simp
      rw [← hn] at hst
      obtain ⟨ht, hd⟩ := takeW_len (fun c => !stopC c) r2
      rw [← hn] at ht hd
      rw [← ht, ← hd] at HK5
      rw [← hd] at hst
      have HST := Lib.hid hst
      clear hn ht hd hst
      rcases HST.out with ⟨h1, -, h2⟩ | ⟨h1, -, h2⟩
      · rw [h2]
        have HK6 := Lib.hid (show ANS = none by rw [← HK5.out, if_pos (.inl h1)])
        clear h1 h2 HST HK5
        go_wp2_with fail
        refine (xfail_any _).mono ?_
        rintro e w9 ⟨rfl, rfl⟩
        exact ⟨rfl, xout_no HK6.out HG5.out⟩
      rw [h2]
      have hdl : 0 < (r2.drop n).length := List.length_pos_iff.2 h1
      rw [List.length_drop] at hdl
      have H1 := Lib.hid h1
      have hni : (n : Int) ≤ (r2.length : Int) := by omega
      have hn0 : (0 : Int) ≤ (n : Int) := by omega
      have hnn : ¬ ((n : Int) < 0) := by omega
      clear h1 h2 HST
      go_wp2_with fail
      refine (HCt.out (r2.take n) w5 (by rw [List.length_take]; omega) HG5.out).mono ?_
      rintro e w6 ⟨rfl, hb6⟩
      have HG6 := Lib.hid (grown_low HG5.out hb6 HG5.out.size)
      have HS6 := Lib.hid (HS5.out.under hb6)
      have HP6 := Lib.hid (HP5.out.below hb6)
      have y0 := HP6.out.c0
      clear z0 hb6 HG5 HS5 HP5 HCt
      cases hee : hasEnd (r2.take n)
      case true =>
        have HK6 := Lib.hid (show ANS = none by rw [← HK5.out, if_pos (.inr hee)])
        have hee2 : (cutS [93, 93, 62] (r2.take n)).isSome = true := hee
        rw [hee2]
        clear hee hee2 HK5
        go_wp2_with fail
        refine (xfail_any _).mono ?_
        rintro e w9 ⟨rfl, rfl⟩
        exact ⟨rfl, xout_no HK6.out HG6.out⟩
      have HK6 := Lib.hid (show contX sc (addText ks (linesX (r2.take n))) (r2.drop n) = ANS by rw [← HK5.out, if_neg (by rw [hee]; intro h; rcases h with h | h; exact H1.out h; cases h)])
      have hee2 : (cutS [93, 93, 62] (r2.take n)).isSome = false := hee
      rw [hee2]
      clear hee hee2 HK5
      go_wp2_with fail
      refine (HLn.out (r2.take n) w6 (by rw [List.length_take]; omega) HG6.out).mono ?_
      rintro e w7 ⟨rfl, hb7⟩
      have HG7 := Lib.hid (grown_low HG6.out hb7 HG6.out.size)
      have HS7 := Lib.hid (HS6.out.under hb7)
      have HP7 := Lib.hid (HP6.out.below hb7)
      have hll := lines_len (r2.take n)
      rw [List.length_take] at hll
      clear y0 hb7 HG6 HS6 HP6 HLn
      generalize linesX (r2.take n) = u at *
      go_wp2_with fail
      refine (HTx.out _ ks u w7 HS7.out HG7.out (by omega) (fun x hx => by have := HKX.out x hx; omega) (by omega)).mono ?_
      rintro e w8 ⟨v8, rfl, hks8, hg8⟩
      have HG8 := Lib.hid (grown_own HG7.out hg8 fun k hk => Nat.le_trans hBw (HKB.out k hk).1)
      have HP8 := Lib.hid (HP7.out.keep hg8 fun e => by have := (HKB.out b e.symm).1; omega)
      have HS8 := Lib.hid hks8
      have hal := addText_len ks u
      clear hg8 hks8 HG7 HP7 HS7 HTx
      have y0 := HP8.out.c0
      have yf := HP8.out.f0
      have HP9 := Lib.hid (HP8.out.set (r2.drop n))
      have HG9 := Lib.hid (grown_trans HG8.out (xgrown_cell w8 b 0 (.string ⟨(r2.drop n).toArray⟩)))
      have HS9 := Lib.hid (HS8.out.step (xgrown_cell w8 b 0 (.string ⟨(r2.drop n).toArray⟩)) hbw)
      have hd2 : (r2.drop n).length = r2.length - n := List.length_drop ..
      go_wp2
      go_roundg (r2.length - n)
      case measure => omega
      case rel => exact ⟨r2.drop n, _, Nat.le_of_eq hd2, by omega, by omega, (fun x hx => by have := addText_most HKX.out x hx; omega), HP9.out, HG9.out, HS9, HK6⟩
end Go.Proofs.YtjkiehmjffgnlaaGreatDoor
namespace Go.Proofs.YtjkiehmjffgnlaaGreatDoor
set_option linter.unusedVariables false
set_option linter.unusedSimpArgs false

theorem SmallN.mono {m m' : Nat} (hm : m ≤ m') {n : NodeT} (h : SmallN m n) : SmallN m' n := by
  induction h with
  | mk t s n as_ ks ht hs hn ha hx hk h ih =>
    exact .mk _ _ _ _ _ (by omega) (by omega) (by omega) (by omega) (fun a ha' => by have := hx a ha'; omega) (by omega) ih
theorem valueX_len {s v r : List UInt8} (h : valueX s = some (v, r)) : v.length ≤ 4 * s.length := by
  rw [valueX_S] at h
  obtain ⟨u, q, h1, h2⟩ := thenX_some h
  have hu : u.length ≤ s.length := by
    split at h1
    · rename_i q2 he
      have := eat_len he
      have := cut_len2 h1
      have := congrArg List.length (cut_some h1)
      simp only [List.length_append] at this
      omega
    · obtain ⟨_, q2, he, h1⟩ := thenX_some h1
      have := eat_len he
      have := congrArg List.length (cut_some h1)
      simp only [List.length_append] at this
      omega
  split at h2
  · cases h2
  · rename_i t ht
    injection h2 with h2
    injection h2 with h2 _
    subst h2
    have := valS_len _ [] u t (Nat.le_refl _) ht
    simp at this
    omega
def ScS (m : Nat) (sc : Scope) : Prop := ∀ p ∈ sc, p.2.length ≤ m
theorem ScS.cons {m : Nat} {sc : Scope} (h : ScS m sc) {p v : List UInt8} (hv : v.length ≤ m) : ScS m ((p, v) :: sc) := by
  intro x hx
  rcases List.mem_cons.1 hx with rfl | hx
  · exact hv
  · exact h x hx
theorem ScS.find {m : Nat} : ∀ {sc : Scope} {p sp : List UInt8}, ScS m sc → findX sc p = some sp → sp.length ≤ m
  | [], p, sp, _, h => by
    unfold findX at h
    split at h
    · injection h with h; subst h; exact Nat.zero_le _
    · cases h
  | (q, s) :: r, p, sp, hs, h => by
    unfold findX at h
    split at h
    · injection h with h; subst h; exact hs _ (List.mem_cons_self ..)
    · exact ScS.find (fun x hx => hs x (List.mem_cons_of_mem _ hx)) h
theorem qname_len2 {s r : List UInt8} {pl : List UInt8 × List UInt8} (h : qnameX s = some (pl, r)) : pl.2.length ≤ s.length := (qname_parts h).2
def AtS' (L : Nat) (out : List AttrT) : Prop := ∀ a ∈ out, a.name.length ≤ L ∧ a.value.length ≤ 4 * L
theorem attrs_small (L : Nat) : ∀ (f : Nat) (seen : List (List UInt8)) (out : List AttrT) (sc : Scope) (s : List UInt8) (x : List AttrT × Scope) (r : List UInt8), attrsX f seen out sc s = some (x, r) → out.length + s.length ≤ L → AtS' L out → ScS (4 * L) sc →
    AtS' L x.1 ∧ x.1.length + r.length ≤ L ∧ ScS (4 * L) x.2
  | 0, _, _, _, _, _, _, h, _, _, _ => by cases h
  | f + 1, seen, out, sc, s, x, r, h, hl, ho, hsc => by
    rw [attr_step] at h
    have lw := white_le s
    split at h
    · obtain ⟨pl, r1, h1, h⟩ := thenX_some h
      obtain ⟨_, r2, h2, h⟩ := thenX_some h
      obtain ⟨v, r3, h3, h⟩ := thenX_some h
      have l1 := qnameX_len h1
      have l2 := eat_len h2
      have l3 := (valueX_ok h3).1
      have l4 := valueX_len h3
      have l5 := white_le r1
      have l6 := white_le r2
      have l7 := qname_len2 h1
      simp only [List.length_cons, List.length_nil] at l2
      split at h
      · cases h
      · split at h
        · exact attrs_small L f _ _ _ _ _ _ h (by omega) ho (hsc.cons (by omega))
        · split at h
          · split at h
            · cases h
            · exact attrs_small L f _ _ _ _ _ _ h (by omega) ho (hsc.cons (by omega))
          · split at h
            · cases h
            · refine attrs_small L f _ _ _ _ _ _ h (by simp only [List.length_append, List.length_cons, List.length_nil]; omega) (fun a ha => ?_) hsc
              rcases List.mem_append.1 ha with ha | ha
              · exact ho a ha
              · rw [List.mem_singleton.1 ha]
                exact ⟨by show pl.2.length ≤ _; omega, by show v.length ≤ _; omega⟩
    · injection h with h
      injection h with h1 h2
      subst h1 h2
      exact ⟨ho, by show out.length + _ ≤ _; omega, hsc⟩
theorem addText_small {m : Nat} {ks : List NodeT} {t : List UInt8} (h : ∀ x ∈ ks, SmallN m x ∧ x.text.length + t.length ≤ m) (ht : t.length ≤ m) : ∀ x ∈ addText ks t, SmallN m x := by
  intro x hx
  unfold addText at hx
  split at hx
  · exact (h x hx).1
  · split at hx
    · rename_i y s a k hl
      rcases List.mem_append.1 hx with hx | hx
      · exact (h x (List.dropLast_subset _ hx)).1
      · rw [List.mem_singleton.1 hx]
        obtain ⟨h1, h2⟩ := h _ (List.mem_of_getLast? hl)
        obtain ⟨p1, p2, p3, p4, p5, p6, p7⟩ := h1.parts
        exact .mk _ _ _ _ _ (by simp only [NodeT.text, List.length_append] at h2 ⊢; omega) p2 p3 p4 p5 p6 p7
    · rcases List.mem_append.1 hx with hx | hx
      · exact (h x hx).1
      · rw [List.mem_singleton.1 hx]
        exact SmallN.text ht
theorem elem_small (L : Nat) : ∀ (f : Nat), (∀ (sc : Scope) (s : List UInt8) (n : NodeT) (r : List UInt8), s.length ≤ L → ScS (4 * L) sc → elemF f sc s = some (n, r) → SmallN (4 * L) n ∧ n.text = []) ∧
    (∀ (sc : Scope) (ks : List NodeT) (s : List UInt8) (k : List NodeT) (r : List UInt8), ks.length + s.length ≤ L → ScS (4 * L) sc → (∀ x ∈ ks, SmallN (4 * L) x ∧ x.text.length + 4 * s.length ≤ 4 * L) → contF f sc ks s = some (k, r) → (∀ x ∈ k, SmallN (4 * L) x) ∧ k.length ≤ L)
  | 0 => ⟨(fun _ _ _ _ _ _ h => by simp [elemF] at h), (fun _ _ _ _ _ _ _ _ h => by simp [contF] at h)⟩
  | f + 1 => by
    obtain ⟨ih1, ih2⟩ := elem_small L f
    constructor
    · intro sc s n r hl hsc h
      rw [elem_step] at h
      obtain ⟨u, b, h1, h⟩ := thenX_some h
      obtain ⟨pl, r0, h2, h⟩ := thenX_some h
      obtain ⟨as_, r1, h3, h⟩ := thenX_some h
      have l1 := eat_len h1
      have l2 := qnameX_len h2
      have l7 := qname_len2 h2
      simp only [List.length_cons, List.length_nil] at l1
      obtain ⟨a1, a2, a3⟩ := attrs_small L _ _ _ _ _ _ _ h3 (by simp; omega) (fun a ha => by cases ha) hsc
      have hax : ∀ a ∈ as_.1, a.name.length ≤ 4 * L ∧ a.value.length ≤ 4 * L := fun a ha => by have := a1 a ha; omega
      split at h
      · cases h
      · rename_i sp hsp
        have l8 := a3.find hsp
        split at h
        · injection h with h
          injection h with h _
          subst h
          exact ⟨.mk _ _ _ _ _ (Nat.zero_le _) l8 (by omega) (by omega) hax (Nat.zero_le _) (fun k hk => by cases hk), rfl⟩
        · obtain ⟨u2, r2, h4, h⟩ := thenX_some h
          obtain ⟨ks, r3, h5, h⟩ := thenX_some h
          obtain ⟨u4, r4, h6, h⟩ := thenX_some h
          obtain ⟨u5, r5, h7, h⟩ := thenX_some h
          obtain ⟨u6, r6, h8, h⟩ := thenX_some h
          injection h with h
          injection h with h _
          subst h
          have l4 := eat_len h4
          obtain ⟨k1, k2⟩ := ih2 _ _ _ _ _ (by simp; omega) a3 (fun x hx => by cases hx) h5
          exact ⟨.mk _ _ _ _ _ (Nat.zero_le _) l8 (by omega) (by omega) hax (by omega) k1, rfl⟩
    · intro sc ks s k r hl hsc hk h
      rw [cont_step] at h
      split at h
      · injection h with h
        injection h with h _
        subst h
        exact ⟨fun x hx => (hk x hx).1, by omega⟩
      · split at h
        · cases h
        · split at h
          · cases h
          · rename_i r1 hs
            have l1 := (skipX_true hs).1
            exact ih2 _ _ _ _ _ (by omega) hsc (fun x hx => ⟨(hk x hx).1, by have := (hk x hx).2; omega⟩) h
          · have key : ∀ (t q : List UInt8), t.length ≤ 4 * (s.length - q.length) → q.length < s.length → contF f sc (addText ks t) q = some (k, r) → (∀ x ∈ k, SmallN (4 * L) x) ∧ k.length ≤ L := fun t q ht hq h => by
              have la := addText_len ks t
              refine ih2 _ _ _ _ _ (by omega) hsc (fun x hx => ⟨addText_small (m := 4 * L) (fun y hy => ⟨(hk y hy).1, by have := (hk y hy).2; omega⟩) (by omega) x hx, ?_⟩) h
              have := addText_most (m := 4 * L - 4 * s.length) (t := t) (fun y hy => by have := (hk y hy).2; omega) x hx
              omega
            split at h
            · rename_i r1 he
              obtain ⟨t, q, h1, h⟩ := thenX_some h
              have l1 := eat_len he
              have l2 := congrArg List.length (cut_some h1)
              simp only [List.length_append] at l2
              have l3 := linesX_len t
              exact key _ _ (by omega) (by simp [wCdata] at l1; omega) h
            · split at h
              · obtain ⟨n, r1, h1, h⟩ := thenX_some h
                have l1 := (elem_lt f).1 _ _ _ _ h1
                obtain ⟨s1, s2⟩ := ih1 _ _ _ _ (by omega) hsc h1
                refine ih2 _ _ _ _ _ (by simp only [List.length_append, List.length_cons, List.length_nil]; omega) hsc (fun x hx => ?_) h
                rcases List.mem_append.1 hx with hx | hx
                · exact ⟨(hk x hx).1, by have := (hk x hx).2; omega⟩
                · rw [List.mem_singleton.1 hx]
                  exact ⟨s1, by rw [s2]; simp; omega⟩
              · split at h
                · obtain ⟨t, r1, h1, h⟩ := thenX_some h
                  have l1 := (refX_ok h1).1
                  have l2 := refX_len h1
                  rw [List.length_tail] at l1
                  exact key _ _ (by omega) (by omega) h
                · split at h
                  · cases h
                  · rename_i hne h60 h38 hz
                    have l2 := takeW_drop (fun c => !stopC c) s
                    have l3 := linesX_len (s.takeWhile fun c => !stopC c)
                    refine key _ _ (by omega) ?_ h
                    rcases s with _ | ⟨c, q⟩
                    · exact absurd rfl (by assumption)
                    · have hc : stopC c = false := by
                        unfold stopC
                        simp only [List.head?_cons, Option.some.injEq] at h60 h38
                        simp [h60, h38]
                      rw [List.dropWhile_cons, if_pos (by rw [hc]; rfl)]
                      have := (List.dropWhile_suffix (l := q) (fun c => !stopC c)).length_le
                      simp only [List.length_cons]; omega
theorem elemX_small {sc : Scope} {s r : List UInt8} {n : NodeT} (hs : s.length ≤ 65536) (hsc : sc = []) (h : elemX sc s = some (n, r)) : SmallN 2000000 n :=
  ((elem_small 65536 _).1 sc s n r hs (fun p hp => by rw [hsc] at hp; cases hp) h).1.mono (by decide)
end Go.Proofs.YtjkiehmjffgnlaaGreatDoor
