import Derived.Test.YtjkiehmjffgnlaaGreatDoorXmlZ20
namespace Go.Proofs.YtjkiehmjffgnlaaGreatDoor
set_option linter.unusedVariables false
set_option linter.unusedSimpArgs false
open Go.RowKit

set_option maxHeartbeats 16000000 in
set_option maxRecDepth 100000 in
set_option linter.unusedSimpArgs false in
theorem xform_text (t s up : List UInt8) (ats : List AttrT) (ks : List NodeT) (avA A : Option Addr) (avc cap : Nat) (B b bt bv : Nat) (r : Option Nat) (l : List UInt8) (w : World) (ht : t.length ≤ 2000000) (h : FS B b bt bv r l w) (hl : l.length ≤ 90000000000000) :
    Calls Tryz.prog 67 #[.pointer (some ⟨b, 0, none⟩), .agg #[.string ⟨t.toArray⟩, .string ⟨s.toArray⟩, .string ⟨#[]⟩, .slice avA ats.length avc, .slice A ks.length cap], .string ⟨up.toArray⟩, .pointer (some ⟨bt, 0, none⟩), .pointer (some ⟨bv, 0, none⟩)] w (FoP B b bt bv r (l ++ t.flatMap escT) w) := by
  have hb0 : Below w.heap.size w (w.alloc (.cells #[.string ⟨t.toArray⟩, .string ⟨s.toArray⟩, .string ⟨#[]⟩, .slice avA ats.length avc, .slice A ks.length cap] 46 (0, 0))) := (Below.refl _ _).alloc (Nat.le_refl _) _
  have hx := heap_alloc_new w (.cells #[.string ⟨t.toArray⟩, .string ⟨s.toArray⟩, .string ⟨#[]⟩, .slice avA ats.length avc, .slice A ks.length cap] 46 (0, 0))
  have HF := Lib.hid (h.below hb0)
  have HB := Lib.hid (FFr.below' (b := b) (bt := bt) (bv := bv) (r := r) hb0)
  have HX := Lib.hid hx
  obtain ⟨E, hEE⟩ : ∃ E, E = FoP B b bt bv r (l ++ t.flatMap escT) w := ⟨_, rfl⟩
  rw [← hEE]
  have HEE := Lib.hid hEE
  clear hEE h hx hb0
  go_enter Tryz.func67, Tryz.ntmps67
  go_wp2_with fail
  generalize w.alloc (.cells #[.string ⟨t.toArray⟩, .string ⟨s.toArray⟩, .string ⟨#[]⟩, .slice avA ats.length avc, .slice A ks.length cap] 46 (0, 0)) = w1 at *
  refine (fo_txt B b bt bv r l t w1 HF.out (by omega) (by omega)).mono ?_
  rintro e w2 ⟨⟨n, er, rfl⟩, r', hfs, hb2⟩
  have HF2 := Lib.hid hfs
  have HB2 := Lib.hid (HB.out.trans hb2)
  clear hfs hb2
  go_wp2
  go_end0
  rw [HEE.out]
  exact ⟨rfl, r', HF2.out, HB2.out⟩
def spF (s up : List UInt8) : List UInt8 := if s = up then [] else [32, 120, 109, 108, 110, 115, 61, 34] ++ s.flatMap escV ++ [34]
set_option maxHeartbeats 32000000 in
set_option maxRecDepth 100000 in
set_option linter.unusedSimpArgs false in
theorem xform_any {w0 : World} {cs : List Value} {n : NodeT} (h : NodeP anyB w0 cs n) : SmallN 2000000 n → ∀ (B b bt bv : Nat) (r : Option Nat) (l up : List UInt8) (w : World), w0.heap.size ≤ B → Below w0.heap.size w0 w → FS B b bt bv r l w → l.length + (formN up n).length ≤ 90000000000000 →
    Calls Tryz.prog 67 #[.pointer (some ⟨b, 0, none⟩), .agg cs.toArray, .string ⟨up.toArray⟩, .pointer (some ⟨bt, 0, none⟩), .pointer (some ⟨bv, 0, none⟩)] w (FoP B b bt bv r (l ++ formN up n) w) := by
  induction h with
  | mk t s n ats ks av A cap rows ha hl hm hA hc hk ih =>
  intro hsm B b bt bv r l up w hB hbw hfs hlen
  obtain ⟨st, ss, sn, sa, sx, sk, skk⟩ := hsm.parts
  replace st : t.length ≤ 2000000 := st
  replace ss : s.length ≤ 2000000 := ss
  replace sn : n.length ≤ 2000000 := sn
  replace sa : ats.length ≤ 2000000 := sa
  replace sk : ks.length ≤ 2000000 := sk
  replace sx : ∀ a ∈ ats, a.name.length ≤ 2000000 ∧ a.value.length ≤ 2000000 := sx
  replace skk : ∀ k ∈ ks, SmallN 2000000 k := skk
  obtain ⟨avA, avc, rfl⟩ := tab_shape ha.1
  show Calls Tryz.prog 67 #[.pointer (some ⟨b, 0, none⟩), .agg #[.string ⟨t.toArray⟩, .string ⟨s.toArray⟩, .string ⟨n.toArray⟩, .slice avA ats.length avc, .slice A ks.length cap], .string ⟨up.toArray⟩, .pointer (some ⟨bt, 0, none⟩), .pointer (some ⟨bv, 0, none⟩)] w _
  by_cases hn : n = []
  · subst hn
    rw [form_text] at hlen ⊢
    exact xform_text t s up ats ks avA A avc cap B b bt bv r l w st hfs (by omega)
  have HFE := Lib.hid (form_elem hn up t s ats ks)
  have HHd := Lib.hid (headF_eq s n ats up)
  rw [HFE.out, HHd.out] at hlen
  have HLen := Lib.hid hlen
  obtain ⟨E, hEE⟩ : ∃ E, E = FoP B b bt bv r (l ++ formN up (.mk t s n ats ks)) w := ⟨_, rfl⟩
  rw [← hEE]
  have HEE := Lib.hid hEE
  unfold maxLen at hm
  obtain ⟨-, hac, ham, hat⟩ := attrs_at ha
  unfold maxLen at ham
  have b2 : n.isEmpty = false := by cases n with | nil => exact absurd rfl hn | cons => rfl
  have hb0 : Below w.heap.size w (w.alloc (.cells #[.string ⟨t.toArray⟩, .string ⟨s.toArray⟩, .string ⟨n.toArray⟩, .slice avA ats.length avc, .slice A ks.length cap] 46 (0, 0))) := (Below.refl _ _).alloc (Nat.le_refl _) _
  have hq := heap_alloc_new w (.cells #[.string ⟨t.toArray⟩, .string ⟨s.toArray⟩, .string ⟨n.toArray⟩, .slice avA ats.length avc, .slice A ks.length cap] 46 (0, 0))
  have HF0 := Lib.hid (hfs.below hb0)
  have HFw := Lib.hid hfs
  have HB0 := Lib.hid (FFr.below' (b := b) (bt := bt) (bv := bv) (r := r) hb0)
  have hoff : OffF b bt bv r w.heap.size := hfs.new (Nat.le_refl _)
  have HQ0 := Lib.hid hq
  have HAt := Lib.hid hat
  have HSx := Lib.hid sx
  have HBw := Lib.hid hbw
  have HIH := Lib.hid (fun j x (hx : ks[j]? = some x) (r : Option Nat) (l : List UInt8) wx (hb : Below B w wx) (hf : FS B b bt bv r l wx) (hle : l.length + (formN s x).length ≤ 90000000000000) => ih j x hx (skk x (List.mem_of_getElem? hx)) B b bt bv r l s wx hB (hbw.trans (hb.mono hB)) hf hle)
  have HRow := Lib.hid (fun j x (hx : ks[j]? = some x) => row_at (b := 0) (o := 0) (v := .pointer none) hc (List.getElem?_eq_some_iff.1 hx).1 (hk j x hx))
  clear hq hb0 ih hk hc hA ha hbw sx skk hat hfs hEE hsm
  obtain ⟨q, hqe⟩ : ∃ q, q = w.heap.size := ⟨_, rfl⟩
  go_enter Tryz.func67, Tryz.ntmps67
  go_wp2_with fail
  generalize w.alloc (.cells #[.string ⟨t.toArray⟩, .string ⟨s.toArray⟩, .string ⟨n.toArray⟩, .slice avA ats.length avc, .slice A ks.length cap] 46 (0, 0)) = w1 at *
  rw [← hqe] at HQ0 ⊢
  have hoq : OffF b bt bv r q := by rw [hqe]; exact hoff
  have HOQ := Lib.hid hoq
  have hqw1 : q < w1.heap.size := xlt HQ0.out
  clear hqe hoq hoff
  have HQX := Lib.hid (fun (wx : World) (r' : Option Nat) (hf : FFr b bt bv r r' w1 wx) => (hf.mv.block q HOQ.out hqw1).2.trans HQ0.out)
  refine (fo_write B b bt bv r l (60 :: n) w1 HF0.out (by simp only [List.length_cons]; omega)).mono ?_
  rintro e w2 ⟨rfl, r2, hf2, hr2⟩
  have HF2 := Lib.hid hf2
  have HR2 := Lib.hid hr2
  have HQ2 := Lib.hid (HQX.out w2 r2 hr2)
  have x1 := xat HQ2.out 1
  simp only [List.getElem?_toArray, List.getElem?_cons_zero, List.getElem?_cons_succ] at x1
  clear hf2 hr2 HF0 HQ0
  go_upto_if 31 with (fail)
  have hlt : l.length + (60 :: n).length ≤ 90000000000000 := by have := HLen.out; simp only [List.length_append] at this; omega
  go_cut [] (fun wc => ∃ r3, Hid (FS B b bt bv r3 (l ++ (60 :: n) ++ spF s up) wc) ∧ Hid (FFr b bt bv r r3 w1 wc))
  case first =>
    by_cases hsu : s = up
    · have hne : (s == up) = true := beq_iff_eq.2 hsu
      have HS := Lib.hid (show spF s up = [] from if_pos hsu)
      rw [hne]
      clear hsu hne HAt HIH HRow
      go_wp2
      go_meet
      exact ⟨r2, by rw [HS.out, List.append_nil]; exact HF2, HR2⟩
    · have hne : (s == up) = false := beq_eq_false_iff_ne.2 hsu
      have HS := Lib.hid (show spF s up = 32 :: 120 :: 109 :: 108 :: 110 :: 115 :: 61 :: 34 :: (s.flatMap escV ++ [34]) by rw [show spF s up = [32, 120, 109, 108, 110, 115, 61, 34] ++ s.flatMap escV ++ [34] from if_neg hsu]; simp)
      rw [hne]
      clear hsu hne HAt HIH HRow
      go_wp2_with fail
      refine (fo_val B b bt bv r2 _ s w2 HF2.out (by omega)).mono ?_
      rintro e w3 ⟨rfl, hf3, hr3⟩
      have HF3 := Lib.hid hf3
      have HR3 := Lib.hid (HR2.out.trans hr3)
      have he6 := esc_len6 escV_le s
      clear hf3 hr3
      generalize s.flatMap escV = V at *
      go_wp2_with fail
      refine (fo_write B b bt bv r2 _ (32 :: 120 :: 109 :: 108 :: 110 :: 115 :: 61 :: 34 :: (V ++ [34])) w3 HF3.out (by simp only [List.length_append, List.length_cons, List.length_nil] at hlt ⊢; omega)).mono ?_
      rintro e w4 ⟨rfl, r4, hf4, hr4⟩
      have HF4 := Lib.hid (show FS B b bt bv r4 (l ++ (60 :: n) ++ spF s up) w4 by rw [HS.out]; exact hf4)
      have HR4 := Lib.hid (HR3.out.trans hr4)
      clear hf4 hr4
      go_wp2
      go_meet
      exact ⟨r4, HF4, HR4⟩
  case rest =>
  obtain ⟨r3, HF3, HR3⟩ := hcut
  have HQ3 := Lib.hid (HQX.out _ r3 HR3.out)
  have x3 := xat HQ3.out 3
  simp only [List.getElem?_toArray, List.getElem?_cons_zero, List.getElem?_cons_succ] at x3
  have hl3 : l.length + (60 :: n).length + (spF s up).length + (ats.flatMap attrF).length ≤ 90000000000000 := by
    have := HLen.out
    unfold spF
    simp only [List.length_append] at this ⊢
    omega
  clear x1 hlt HF2 HR2 HQ2
  go_wp2_with fail
  go_loopg [43] ats.length (fun gk iv wr => ∃ (k : Nat) (r4 : Option Nat), k + gk = ats.length ∧ iv = .int .i64 k ∧ Hid (FS B b bt bv r4 (l ++ (60 :: n) ++ spF s up ++ (ats.take k).flatMap attrF) wr) ∧ Hid (FFr b bt bv r r4 w1 wr))
  case atStart => exact ⟨0, r3, by omega, rfl, by rw [List.take_zero]; show FS B b bt bv r3 (_ ++ []) _; rw [List.append_nil]; exact HF3.out, HR3⟩
  case round =>
    obtain ⟨k, r4, hkg, rfl, HF4, HR4⟩ := hrel
    have HQ4 := Lib.hid (HQX.out wr r4 HR4.out)
    clear x3 HF3 HR3 HQ3
    rcases hd : ats.drop k with _ | ⟨a, rest⟩
    · have hk2 : k = ats.length := by have := drop_nil hd; omega
      subst hk2
      have HF5 := Lib.hid (show FS B b bt bv r4 (l ++ (60 :: n) ++ spF s up ++ ats.flatMap attrF) wr by have := HF4.out; rw [List.take_length] at this; exact this)
      have x4 := xat HQ4.out 4
      simp only [List.getElem?_toArray, List.getElem?_cons_zero, List.getElem?_cons_succ] at x4
      have hl5 : (l ++ (60 :: n) ++ spF s up ++ ats.flatMap attrF).length ≤ 90000000000000 := by simp only [List.length_append]; omega
      have HTot := Lib.hid (show l ++ formN up (.mk t s n ats ks) = l ++ (60 :: n) ++ spF s up ++ ats.flatMap attrF ++ (if ks.isEmpty then [47, 62] else 62 :: (formL s ks ++ ([60, 47] ++ (n ++ [62])))) by
        rw [HFE.out, HHd.out]
        unfold spF
        simp only [List.append_assoc])
      obtain ⟨L5, hL5⟩ : ∃ L5, L5 = l ++ (60 :: n) ++ spF s up ++ ats.flatMap attrF := ⟨_, rfl⟩
      rw [← hL5] at HF5 HTot hl5
      have hlT : L5.length + (if ks.isEmpty then [47, 62] else 62 :: (formL s ks ++ ([60, 47] ++ (n ++ [62])))).length ≤ 90000000000000 := by
        have := HLen.out
        rw [hL5]
        unfold spF
        simp only [List.length_append] at this ⊢
        omega
      clear hd HF4 hl3 hL5 HAt HSx HLen HFE HHd
      by_cases hk0 : ks = []
      · have HT2 := Lib.hid (show l ++ formN up (.mk t s n ats ks) = L5 ++ [47, 62] by rw [HTot.out, hk0]; rfl)
        have b3 : ((ks.length : Int) == 0) = true := by rw [hk0]; rfl
        have hkl0 : (ks.length : Int) = 0 := by rw [hk0]; rfl
        clear HTot hlT HIH HRow
        subst hk0
        go_wp2_with fail
        refine (fo_write B b bt bv r4 L5 [47, 62] wr HF5.out (by simp only [List.length_cons, List.length_nil]; omega)).mono ?_
        rintro e w6 ⟨rfl, r6, hf6, hr6⟩
        have HF6 := Lib.hid hf6
        have HR6 := Lib.hid (HB0.out.trans (HR4.out.trans hr6))
        clear hf6 hr6
        go_wp2
        go_end0
        rw [HEE.out]
        exact ⟨rfl, r6, by rw [HT2.out]; exact HF6.out, HR6.out⟩
      have hkl0 : ((ks.length : Int) == 0) = false := by rw [beq_eq_false_iff_ne]; have := List.length_pos_iff.2 hk0; omega
      have HT2 := Lib.hid (show l ++ formN up (.mk t s n ats ks) = L5 ++ [62] ++ formL s ks ++ ([60, 47] ++ n ++ [62]) by
        rw [HTot.out, if_neg (by cases ks with | nil => exact absurd rfl hk0 | cons => simp)]
        simp)
      have hlU : L5.length + 1 + (formL s ks).length + n.length + 3 ≤ 90000000000000 := by
        rw [if_neg (by cases ks with | nil => exact absurd rfl hk0 | cons => simp)] at hlT
        simp only [List.length_append, List.length_cons, List.length_nil] at hlT
        omega
      clear HTot hlT hk0
      go_wp2_with fail
      refine (fo_write B b bt bv r4 L5 [62] wr HF5.out (by simp only [List.length_cons, List.length_nil]; omega)).mono ?_
      rintro e w6 ⟨rfl, r6, hf6, hr6⟩
      have HF6 := Lib.hid hf6
      have HR6 := Lib.hid (HR4.out.trans hr6)
      have HQ6 := Lib.hid (HQX.out w6 r6 HR6.out)
      have y4 := xat HQ6.out 4
      simp only [List.getElem?_toArray, List.getElem?_cons_zero, List.getElem?_cons_succ] at y4
      clear hf6 hr6 HF5 HR4 x4 HQ4
      go_wp2_with fail
      go_loopg [71] ks.length (fun gk iv wr => ∃ (k : Nat) (r7 : Option Nat), k + gk = ks.length ∧ iv = .int .i64 k ∧ Hid (FS B b bt bv r7 (L5 ++ [62] ++ formL s (ks.take k)) wr) ∧ Hid (FFr b bt bv r r7 w1 wr))
      case atStart => exact ⟨0, r6, by omega, rfl, by rw [List.take_zero, formL, List.append_nil]; exact HF6.out, HR6⟩
      case round =>
        obtain ⟨k, r7, hkg2, rfl, HF7, HR7⟩ := hrel
        have HQ7 := Lib.hid (HQX.out _ r7 HR7.out)
        clear y4 HF6 HR6 HQ6
        rcases hd : ks.drop k with _ | ⟨x, rest⟩
        · have hk2 : k = ks.length := by have := drop_nil hd; omega
          subst hk2
          have HF8 := Lib.hid (show FS B b bt bv r7 (L5 ++ [62] ++ formL s ks) wr by have := HF7.out; rw [List.take_length] at this; exact this)
          have x2 := xat HQ7.out 2
          simp only [List.getElem?_toArray, List.getElem?_cons_zero, List.getElem?_cons_succ] at x2
          clear hd HF7 HIH HRow
          go_wp2_with fail
          refine (fo_write B b bt bv r7 _ (60 :: 47 :: (n ++ [62])) wr HF8.out (by simp only [List.length_append, List.length_cons, List.length_nil]; omega)).mono ?_
          rintro e w9 ⟨rfl, r9, hf9, hr9⟩
          have HF9 := Lib.hid (show FS B b bt bv r9 (l ++ formN up (.mk t s n ats ks)) w9 by rw [HT2.out]; simpa using hf9)
          have HR9 := Lib.hid (HB0.out.trans (HR7.out.trans hr9))
          clear hf9 hr9
          go_wp2
          go_end0
          rw [HEE.out]
          exact ⟨rfl, r9, HF9.out, HR9.out⟩
        · obtain ⟨hlt, hx, hr⟩ := drop_consA hd
          obtain ⟨bb, o, aA, ac, kA, kc, rfl, hbl, hrow, e0, e1, e2, e3, e4⟩ := HRow.out k x hx
          have hb7 : Below w0.heap.size w0 wr := HBw.out.trans ((FFr.below HFw.out (HB0.out.trans HR7.out)).mono hB)
          have d0 := (hb7.cell (p := ⟨bb, o + k * 5, none⟩) hbl).trans e0
          have d1 := (hb7.cell (p := ⟨bb, o + k * 5 + 1, none⟩) hbl).trans e1
          have d2 := (hb7.cell (p := ⟨bb, o + k * 5 + 2, none⟩) hbl).trans e2
          have d3 := (hb7.cell (p := ⟨bb, o + k * 5 + 3, none⟩) hbl).trans e3
          have d4 := (hb7.cell (p := ⟨bb, o + k * 5 + 4, none⟩) hbl).trans e4
          have hbk : Below wr.heap.size wr (wr.alloc (.cells #[.string ⟨x.text.toArray⟩, .string ⟨x.space.toArray⟩, .string ⟨x.name.toArray⟩, .slice aA x.attrs.length ac, .slice kA x.kids.length kc] 46 (0, 0))) := (Below.refl _ _).alloc (Nat.le_refl _) _
          have hck := heap_alloc_new wr (.cells #[.string ⟨x.text.toArray⟩, .string ⟨x.space.toArray⟩, .string ⟨x.name.toArray⟩, .slice aA x.attrs.length ac, .slice kA x.kids.length kc] 46 (0, 0))
          have HFk := Lib.hid (HF7.out.below hbk)
          have HRk := Lib.hid (HR7.out.trans (FFr.below' hbk))
          have HQk := Lib.hid (HQX.out _ r7 HRk.out)
          have hbB : Below B w (wr.alloc (.cells #[.string ⟨x.text.toArray⟩, .string ⟨x.space.toArray⟩, .string ⟨x.name.toArray⟩, .slice aA x.attrs.length ac, .slice kA x.kids.length kc] 46 (0, 0))) := FFr.below HFw.out (HB0.out.trans HRk.out)
          have hfl := congrArg List.length (formL_next (up := s) hx)
          have hfp := formL_part s ks (k + 1)
          rw [List.length_append] at hfl
          have HIx := Lib.hid (HIH.out k x hx r7 _ _ hbB HFk.out (by simp only [List.length_append, List.length_cons, List.length_nil]; omega))
          rw [hrow] at HIx
          have HNx := Lib.hid (formL_next (up := s) hx)
          have k1 : (k : Int) < ks.length := by omega
          have k2 : (0 : Int) ≤ k := by omega
          clear hd hx hr hrow e0 e1 e2 e3 e4 hb7 hbB HF7 HR7 HQ7 hfl hfp hbk
          go_upto_region 17 with (fail)
          generalize wr.alloc (.cells #[.string ⟨x.text.toArray⟩, .string ⟨x.space.toArray⟩, .string ⟨x.name.toArray⟩, .slice aA x.attrs.length ac, .slice kA x.kids.length kc] 46 (0, 0)) = wk at *
          generalize wr.heap.size = c at *
          clear d0 d1 d2 d3 d4
          have z0 := xat hck 0
          have z1 := xat hck 1
          have z2 := xat hck 2
          have z3 := xat hck 3
          have z4 := xat hck 4
          have q1 := xat HQk.out 1
          simp only [List.getElem?_toArray, List.getElem?_cons_zero, List.getElem?_cons_succ] at z0 z1 z2 z3 z4 q1
          clear hck
          go_wp2_with fail
          refine HIx.out.mono ?_
          rintro e w9 ⟨rfl, r9, hf9, hr9⟩
          have HF9 := Lib.hid (show FS B b bt bv r9 (L5 ++ [62] ++ formL s (ks.take (k + 1))) w9 by rw [HNx.out, ← List.append_assoc]; exact hf9)
          have HR9 := Lib.hid (HRk.out.trans hr9)
          clear hf9 hr9 z0 z1 z2 z3 z4 q1 HIx HFk HRk HQk HNx
          go_wp2
          go_roundg (gk - 1)
          case measure => omega
          case rel => exact ⟨k + 1, r9, by omega, by go_num, HF9, HR9⟩
    · obtain ⟨hlt, hx, hr⟩ := drop_consA hd
      obtain ⟨bb, o, rfl, hbl, e0, e1⟩ := HAt.out k a hx
      have hb7 : Below w0.heap.size w0 wr := HBw.out.trans ((FFr.below HFw.out (HB0.out.trans HR4.out)).mono hB)
      have d0 := (hb7.cell (p := ⟨bb, o + k * 2, none⟩) hbl).trans e0
      have d1 := (hb7.cell (p := ⟨bb, o + k * 2 + 1, none⟩) hbl).trans e1
      have hsm := HSx.out a (List.mem_of_getElem? hx)
      have hfl := congrArg List.length (flat_next hx)
      have hfp := flat_part ats (k + 1)
      rw [List.length_append] at hfl
      have HNx := Lib.hid (flat_next hx)
      obtain ⟨an, avl⟩ := a
      simp only at *
      have hbk : Below wr.heap.size wr (wr.alloc (.cells #[.string ⟨an.toArray⟩, .string ⟨avl.toArray⟩] 87 (0, 0))) := (Below.refl _ _).alloc (Nat.le_refl _) _
      have hck := heap_alloc_new wr (.cells #[.string ⟨an.toArray⟩, .string ⟨avl.toArray⟩] 87 (0, 0))
      have hco : OffF b bt bv r4 wr.heap.size := HF4.out.new (Nat.le_refl _)
      have HFk := Lib.hid (HF4.out.below hbk)
      have HRk := Lib.hid (HR4.out.trans (FFr.below' hbk))
      have k1 : (k : Int) < ats.length := by omega
      have k2 : (0 : Int) ≤ k := by omega
      have hlk : l.length + (60 :: n).length + (spF s up).length + ((ats.take k).flatMap attrF).length + (attrF ⟨an, avl⟩).length ≤ 90000000000000 := by omega
      clear hd hx hr e0 e1 hb7 HF4 HR4 HQ4 hfl hfp hbk HIH HRow
      go_upto_region 9 with (fail)
      generalize wr.alloc (.cells #[.string ⟨an.toArray⟩, .string ⟨avl.toArray⟩] 87 (0, 0)) = wk at *
      generalize wr.heap.size = c at *
      clear d0 d1
      have hcl : c < wk.heap.size := xlt hck
      have z0 := xat hck 0
      have z1 := xat hck 1
      simp only [List.getElem?_toArray, List.getElem?_cons_zero, List.getElem?_cons_succ] at z0 z1
      have HV := Lib.hid (fo_val B b bt bv r4 _ avl wk.drew HFk.out.drew (by omega))
      have he6 := esc_len6 escV_le avl
      have HCo := Lib.hid (fun (w' : World) (hf : FFr b bt bv r4 r4 wk.drew w') => (⟨(cell_eq (hf.mv.block c hco hcl).2 0).trans z0, (cell_eq (hf.mv.block c hco hcl).2 1).trans z1⟩ : w'.cell? ⟨c, 0, none⟩ = some (.string ⟨an.toArray⟩) ∧ w'.cell? ⟨c, 1, none⟩ = some (.string ⟨avl.toArray⟩)))
      have HCp := Lib.hid (fun (w' w'' : World) (r6 : Option Nat) (hf : FFr b bt bv r4 r4 wk.drew w') (hf2 : FFr b bt bv r4 r6 w' w'') => (⟨(cell_eq ((hf.trans hf2).mv.block c hco hcl).2 0).trans z0, (cell_eq ((hf.trans hf2).mv.block c hco hcl).2 1).trans z1⟩ : w''.cell? ⟨c, 0, none⟩ = some (.string ⟨an.toArray⟩) ∧ w''.cell? ⟨c, 1, none⟩ = some (.string ⟨avl.toArray⟩)))
      obtain ⟨V, hV⟩ : ∃ V, V = avl.flatMap escV := ⟨_, rfl⟩
      rw [← hV] at HV he6
      have HU := Lib.hid (show 32 :: (an ++ 61 :: 34 :: (V ++ [34])) = attrF ⟨an, avl⟩ by rw [hV]; unfold attrF; simp)
      have HWr := Lib.hid (fun (w' : World) (h : FS B b bt bv r4 (l ++ (60 :: n) ++ spF s up ++ (ats.take k).flatMap attrF) w') => fo_write B b bt bv r4 _ (32 :: (an ++ 61 :: 34 :: (V ++ [34]))) w' h (by simp only [List.length_append, List.length_cons, List.length_nil] at hlk ⊢; omega))
      have g1 : ¬ 9223372036854775807 < 1 + an.length := by omega
      have g2 : ¬ 9223372036854775807 < an.length + 1 + 2 := by omega
      have g3 : ¬ 9223372036854775807 < an.length + 2 + 1 + V.length := by omega
      have g4 : ¬ 9223372036854775807 < an.length + (V.length + 1 + 1) + 1 + 1 := by omega
      clear hV he6
      have HZ := Lib.hid (⟨z0, z1⟩ : wk.drew.cell? ⟨c, 0, none⟩ = some (.string ⟨an.toArray⟩) ∧ wk.drew.cell? ⟨c, 1, none⟩ = some (.string ⟨avl.toArray⟩))
      clear hck z0 z1
      go_region_held3 (fun w' => w'.cell? ⟨c, 0, none⟩ = some (.string ⟨an.toArray⟩) ∧ w'.cell? ⟨c, 1, none⟩ = some (.string ⟨avl.toArray⟩))
        (first | exact HZ.out | exact HCo.out _ (by assumption) | exact HCp.out _ _ _ (by assumption) (by assumption))
        (first
        | (go_at_call 94; refine (HV.out).mono ?_; rintro e w5 ⟨rfl, hfs5, hfr5⟩)
        | (go_at_call 73; refine (HWr.out _ (by assumption)).mono ?_; rintro e w6 ⟨rfl, r6, hfs6, hfr6⟩))
      all_goals
        have HF6 := Lib.hid (show FS B b bt bv r6 (l ++ (60 :: n) ++ spF s up ++ (ats.take (k + 1)).flatMap attrF) w6 by rw [HNx.out, ← List.append_assoc, ← HU.out]; exact hfs6)
        have HR6 := Lib.hid (HRk.out.trans (hfr5.ofDrew.trans hfr6))
        clear hfs5 hfr5 hfs6 hfr6
        go_wp2
        go_roundg (gk - 1)
        case measure => omega
        case rel => exact ⟨k + 1, r6, by omega, by go_num, HF6, HR6⟩
end Go.Proofs.YtjkiehmjffgnlaaGreatDoor
