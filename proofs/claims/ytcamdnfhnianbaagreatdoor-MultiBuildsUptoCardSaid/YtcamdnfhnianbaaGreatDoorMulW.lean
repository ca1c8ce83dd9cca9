/-
  The walks of docketref10.Write, docketref17.Build and docketlaw17.MultiBuilds. Conditions: the list and its trees are at most so great; what the listed variables hold.
-/
import Derived.Test.YtcamdnfhnianbaaGreatDoorMulT
import Derived.Test.YtcamdnfhnianbaaGreatDoorMulU
import Derived.Test.YtcamdnfhnianbaaGreatDoorXmlZ45
namespace Go.Proofs.YtcamdnfhnianbaaGreatDoor
set_option linter.unusedVariables false
set_option linter.unusedSimpArgs false
open Go.RowKit

theorem write_bad {n : NodeT} (h : goodT n = false) : writeX n = .error 30 := by unfold writeX; rw [h]; rfl
theorem write_long {n : NodeT} (h : goodT n = true) (hl : 65536 < (formN [] n).length) : writeX n = .error 5 := by unfold writeX; rw [if_pos h, if_pos hl]
theorem write_form {n : NodeT} (h : goodT n = true) (hl : ¬ 65536 < (formN [] n).length) : writeX n = .ok (formN [] n) := by unfold writeX; rw [if_pos h, if_neg hl]
set_option maxHeartbeats 16000000 in
set_option maxRecDepth 100000 in
set_option linter.unusedSimpArgs false in
theorem rwrite_any {w : World} {cs : List Value} {n : NodeT} (h : NodeP anyB w cs n) (hs : SmallN 2000000 n) (hl : (formN [] n).length ≤ 90000000000000) : ∀ w', Below w.heap.size w w' → Calls Tryz.prog 22 #[.agg cs.toArray] w' (WrV (writeX n) w') := by
  intro w' hbw
  have HG := Lib.hid (fun w2 (hb : Below w.heap.size w w2) => rgood_any h hs w2 hb)
  have HF := Lib.hid (fun w2 (hb : Below w.heap.size w w2) => rform_any h hs w2.heap.size [] [] (.slice none 0 0) w2 hb.size hb (Nat.le_refl _) (BRow.nil _ _) (by rw [List.length_nil, Nat.zero_add]; exact hl))
  have HW1 := Lib.hid (fun h => write_bad (n := n) h)
  have HW2 := Lib.hid (fun h hl => write_long (n := n) h hl)
  have HW3 := Lib.hid (fun h hl => write_form (n := n) h hl)
  have HBw := Lib.hid hbw
  obtain ⟨av, kv, rfl, -, -⟩ := h.parts
  generalize goodT n = G at *
  generalize writeX n = X at *
  generalize formN [] n = F at *
  obtain ⟨t, sp, nm, ats, ks⟩ := n
  simp only [NodeT.text, NodeT.space, NodeT.name, NodeT.attrs, NodeT.kids] at *
  have hb1 : Below w'.heap.size w' (w'.alloc (.cells #[.string ⟨t.toArray⟩, .string ⟨sp.toArray⟩, .string ⟨nm.toArray⟩, av, kv] 36 (0, 0))) := (Below.refl _ _).alloc (Nat.le_refl _) _
  have HQ := Lib.hid (heap_alloc_new w' (.cells #[.string ⟨t.toArray⟩, .string ⟨sp.toArray⟩, .string ⟨nm.toArray⟩, av, kv] 36 (0, 0)))
  have HB1 := Lib.hid hb1
  clear hb1 hs hbw hl
  obtain ⟨E, hEE⟩ : ∃ E, E = WrV X w' := ⟨_, rfl⟩
  rw [← hEE]
  have HEE := Lib.hid hEE
  clear hEE
  go_enter Tryz.func22, Tryz.ntmps22
  go_wp2_with fail
  refine (HG.out _ (HBw.out.trans (HB1.out.mono HBw.out.size))).mono ?_
  rintro e w5 ⟨hb5, rfl⟩
  have HB5 := Lib.hid (HB1.out.trans (hb5.mono HB1.out.size))
  have hq := (hb5.block _ (xlt HQ.out)).trans HQ.out
  have x0 := xat hq 0
  have x1 := xat hq 1
  have x2 := xat hq 2
  have x3 := xat hq 3
  have x4 := xat hq 4
  simp only [List.getElem?_toArray, List.getElem?_cons_zero, List.getElem?_cons_succ] at x0 x1 x2 x3 x4
  clear hb5 hq HG
  cases G
  · have HX := Lib.hid (HW1.out rfl)
    clear HW1 HW2 HW3 HF
    go_wp2
    rw [HEE.out, HX.out]
    exact ⟨HB5.out, rfl⟩
  have HX2 := Lib.hid (HW2.out rfl)
  have HX3 := Lib.hid (HW3.out rfl)
  clear HW1 HW2 HW3
  go_wp2_with fail
  refine (HF.out _ (HBw.out.trans (HB5.out.mono HBw.out.size))).mono ?_
  rintro e w6 ⟨v, M, rfl, hu, hr, hg⟩
  have HB6 := Lib.hid (HB5.out.trans ((hg.low (B := w5.heap.size) (fun k e => by cases e) (Nat.le_refl _)).mono HB5.out.size))
  have HU := Lib.hid hu
  have cT := hr.text
  obtain ⟨rA, rc, rfl, hrc1, hrc2⟩ := hr.form
  unfold maxLen at hrc2
  clear hu hg HF x0 x1 x2 x3 x4 hr HB5
  by_cases hM : 65536 < M.length
  · have HX := Lib.hid (HX2.out (by have := HU.out.len; rw [List.length_nil] at this; omega))
    have j1 : (65536 : Int) < M.length := by omega
    clear HX2 HX3
    go_wp2
    rw [HEE.out, HX.out]
    exact ⟨HB6.out, rfl⟩
  · have HMF := Lib.hid (show M = F from HU.out.elim (fun e => e) fun h => absurd h.1 hM)
    have HX := Lib.hid (HX3.out (by rw [← HMF.out]; exact hM))
    have j1 : ¬ (65536 : Int) < M.length := by omega
    clear HX2 HX3 HU
    go_wp2
    rw [HEE.out, HX.out, ← HMF.out]
    exact ⟨HB6.out, rfl⟩
/-! the reference's Build -/
theorem ref_good {t : ToldT} (h : goodRefM t = true) : goodM t = true := by
  unfold goodRefM at h
  rw [Bool.and_eq_true] at h
  exact h.1
theorem multi_letters {l : List ToldT} (h : goodT (multiN l) = true) : ∀ t ∈ l, lettersX t.href = true := by
  intro t ht
  rw [goodT_multi, Bool.and_eq_true] at h
  have h1 := goodL_mem _ _ h.1 (respN t) (List.mem_map_of_mem ht)
  unfold respN davN at h1
  rw [goodN_elemV _ _ _ _ _ _ (by decide)] at h1
  simp only [Bool.and_eq_true] at h1
  have h2 := h1.2
  rw [goodL, Bool.and_eq_true, goodN_elemV _ _ _ _ _ _ (by decide)] at h2
  have h3 := h2.1
  simp only [Bool.and_eq_true] at h3
  have h4 := h3.2
  unfold textN at h4
  rw [goodL, Bool.and_eq_true, goodN_textV] at h4
  have h5 := h4.1
  simp only [Bool.and_eq_true] at h5
  exact h5.1.1.1.2
theorem build_bad {l : List ToldT} (h : l.all goodRefM = false) : buildM l = .error 1 := by
  rw [buildM_eq]
  by_cases hg : l.all goodM = true
  · rw [if_pos hg]
    have hT : goodT (multiN l) = false := by
      rw [Bool.eq_false_iff]
      intro hT
      have hL := multi_letters hT
      rw [Bool.eq_false_iff] at h
      apply h
      rw [List.all_eq_true] at hg ⊢
      intro t ht
      have h1 := hg t ht
      have h2 := hL t ht
      unfold goodRefM
      unfold goodM at h1
      rw [h1, h2]
      rfl
    rw [write_bad hT]
    rfl
  · rw [if_neg hg]
theorem build_good {l : List ToldT} (h : l.all goodRefM = true) : buildM l = mapB (writeX (multiN l)) := by
  rw [buildM_eq, if_pos]
  rw [List.all_eq_true] at h ⊢
  exact fun t ht => ref_good (h t ht)
set_option maxHeartbeats 16000000 in
set_option maxRecDepth 100000 in
set_option linter.unusedSimpArgs false in
theorem rbuild_any (l : List ToldT) (A : Option Addr) (c : Nat) (w : World) (hp : ToldsP anyB w (.slice A l.length c) l) (hs : SmallM l) (hh : ∀ t ∈ l, t.href.length ≤ 1000000000) : Calls Tryz.prog 10 #[.slice A l.length c] w (WrV (buildM l) w) := by
  obtain ⟨-, hpc, hpm, hpk⟩ := told_at hp.1
  unfold maxLen at hpm
  have hll := hs.len
  have HPk := Lib.hid hpk
  have HP := Lib.hid hp
  have HSm := Lib.hid hs
  have HHh := Lib.hid hh
  obtain ⟨V, hV⟩ : ∃ V, l.all goodRefM = V := ⟨_, rfl⟩
  have HBad := Lib.hid (fun h => build_bad (l := l) h)
  have HGood := Lib.hid (fun h => build_good (l := l) h)
  have HRef := Lib.hid (fun (h : l.all goodRefM = true) t ht => ref_good (List.all_eq_true.1 h t ht))
  rw [hV] at HBad HGood HRef
  have HV := Lib.hid (show (l.drop 0).all goodRefM = V from hV)
  obtain ⟨E, hEE⟩ : ∃ E, E = WrV (buildM l) w := ⟨_, rfl⟩
  rw [← hEE]
  have HEE := Lib.hid hEE
  clear hp hs hh hEE hV hpk
  go_enter Tryz.func10, Tryz.ntmps10
  go_wp2_with fail
  go_loopg [4] l.length (fun gk v4 wr => ∃ i : Nat, i + gk = l.length ∧ v4 = .int .i64 i ∧ Hid (Below w.heap.size w wr) ∧ Hid ((l.drop i).all goodRefM = V))
  case atStart => exact ⟨0, by omega, rfl, Lib.hid (Below.refl _ _), HV⟩
  case round =>
    obtain ⟨i, hig, rfl, HBr, HAll⟩ := hrel
    clear HV
    rcases hd : l.drop i with _ | ⟨t, rest⟩
    · have hi2 : i = l.length := by have := drop_nil hd; omega
      subst hi2
      have hV : V = true := by have := HAll.out; rw [hd] at this; exact this.symm
      have HX := Lib.hid (HGood.out hV)
      have hgm : l.all goodM = true := List.all_eq_true.2 fun t ht => HRef.out hV t ht
      have hrs : ∀ t ∈ l, ∀ p ∈ t.parts, reasonS p.status ≠ [] := fun t ht => good_reason (HRef.out hV t ht)
      have HTr := Lib.hid (rtree_any l A c wr (HP.out.under HBr.out) HSm.out.len HSm.out.parts hrs)
      obtain ⟨ht1, ht2⟩ := HSm.out.tree hgm
      have HT1 := Lib.hid (show SmallN 2000000 (multiN l) from ht1)
      have HT2 := Lib.hid (show (formN [] (multiN l)).length ≤ 90000000000000 from ht2)
      have HWe := Lib.hid (fun k (h : writeX (multiN l) = .error k) => write_err h)
      clear hd HAll HPk hgm hrs ht1 ht2 HBad HGood HRef
      go_wp2_with fail
      refine HTr.out.mono ?_
      rintro e w5 ⟨hb5, cs, rfl, hn5⟩
      have HWr := Lib.hid (rwrite_any hn5 HT1.out HT2.out w5 (Below.refl _ _))
      have HB5 := Lib.hid (HBr.out.trans (hb5.mono HBr.out.size))
      generalize writeX (multiN l) = Y at *
      clear hb5 hn5 HTr HT1 HT2
      go_wp2_with fail
      refine HWr.out.mono ?_
      rintro e w6 ⟨hb6, rfl⟩
      have HB6 := Lib.hid (HB5.out.trans (hb6.mono HB5.out.size))
      clear hb6 HWr HB5
      rcases Y with k | s
      · have hk := HWe.out k rfl
        rw [show errX (Except.error k : Except Int (List UInt8)) = k from rfl, show okOr [] (Except.error k : Except Int (List UInt8)) = [] from rfl]
        clear HWe
        rcases hk with rfl | rfl
        all_goals
          go_wp2
          rw [HEE.out, HX.out]
          exact ⟨HB6.out, rfl⟩
      · rw [show errX (Except.ok s : Except Int (List UInt8)) = 0 from rfl, show okOr [] (Except.ok s : Except Int (List UInt8)) = s from rfl]
        clear HWe
        go_wp2
        rw [HEE.out, HX.out]
        exact ⟨HB6.out, rfl⟩
    · obtain ⟨hlt, hx, hr⟩ := drop_consA hd
      obtain ⟨b, o, pA, pc, rfl, hbl, e0, e1, hn⟩ := HPk.out i t hx
      have d0 := (HBr.out.cell (p := ⟨b, o + i * 2, none⟩) hbl).trans e0
      have d1 := (HBr.out.cell (p := ⟨b, o + i * 2 + 1, none⟩) hbl).trans e1
      have k1 : (i : Int) < l.length := by omega
      have k2 : (0 : Int) ≤ i := by omega
      obtain ⟨n1, n2⟩ := all_next hd HAll.out hr
      have htm := List.mem_of_getElem? hx
      have HGd := Lib.hid (rgoodM_any t pA pc wr (hn.under HBr.out) (HSm.out.props t htm) (HHh.out t htm))
      have N1 := Lib.hid n1
      have N2 := Lib.hid n2
      clear e0 e1 hd hx hr hn n1 n2 htm HAll
      go_wp2_with fail
      refine HGd.out.mono ?_
      rintro e w5 ⟨hb5, rfl⟩
      have HB5 := Lib.hid (HBr.out.trans (hb5.mono HBr.out.size))
      clear hb5 HGd HBr d0 d1
      cases hgx : goodRefM t
      · have HX := Lib.hid (HBad.out (N2.out hgx))
        clear hgx N1 N2 HBad HGood HRef
        go_wp2
        rw [HEE.out, HX.out]
        exact ⟨HB5.out, rfl⟩
      · have HAll3 := Lib.hid (N1.out hgx)
        clear hgx N1 N2
        go_wp2
        go_roundg (gk - 1)
        case measure => omega
        case rel => exact ⟨i + 1, by omega, by go_num, HB5, HAll3⟩
set_option maxHeartbeats 8000000 in
set_option maxRecDepth 100000 in
set_option linter.unusedSimpArgs false in
theorem law_builds (l : List ToldT) (A : Option Addr) (c : Nat) (w : World) (hp : ToldsP anyB w (.slice A l.length c) l) (hs : SmallM l) (hh : ∀ t ∈ l, t.href.length ≤ 1000000000) (hE : MEnv w) : Calls Tryz.prog 3 #[.slice A l.length c] w (Ret (.bool true) w) := by
  have HE := Lib.hid hE
  have HFx := Lib.hid (fun w' (hb : Below w.heap.size w w') => mfixed_any w' (hE.below hb))
  have HGr := Lib.hid (fun w' (hb : Below w.heap.size w w') => great_any l A c w' (hp.under hb))
  have HBu := Lib.hid (fun w' (hb : Below w.heap.size w w') => mbuild_any l A c w' (hp.under hb) hs (hE.below hb))
  have HRb := Lib.hid (fun w' (hb : Below w.heap.size w w') => rbuild_any l A c w' (hp.under hb) hs hh)
  obtain ⟨X, hX⟩ : ∃ X, X = buildM l := ⟨_, rfl⟩
  rw [← hX] at HBu HRb
  obtain ⟨E, hEE⟩ : ∃ E, E = Ret (.bool true) w := ⟨_, rfl⟩
  rw [← hEE]
  have HEE := Lib.hid hEE
  clear hE hp hs hh hX hEE
  obtain ⟨S, hS⟩ : ∃ s, s = okOr [] X := ⟨_, rfl⟩
  obtain ⟨K, hK⟩ : ∃ s, s = errX X := ⟨_, rfl⟩
  have HS := Lib.hid hS
  have HK := Lib.hid hK
  clear hS hK
  go_enter Tryz.func3, Tryz.ntmps3
  go_wp2_with fail
  refine (HFx.out _ (Below.refl _ _)).mono ?_
  rintro e w1 ⟨rfl, hb1⟩
  have HB1 := Lib.hid hb1
  clear hb1
  go_wp2_with fail
  refine (HGr.out _ HB1.out).mono ?_
  rintro e w2 ⟨hb2, b, rfl⟩
  have HB2 := Lib.hid (HB1.out.trans (hb2.mono HB1.out.size))
  clear hb2 HGr HB1
  cases b
  case true =>
    go_wp2_with fail
    refine (HFx.out _ HB2.out).mono ?_
    rintro e w3 ⟨rfl, hb3⟩
    have HB3 := Lib.hid (HB2.out.trans (hb3.mono HB2.out.size))
    clear hb3 HFx HB2
    go_wp2
    rw [HEE.out]
    exact ⟨rfl, HB3.out⟩
  go_wp2_with fail
  refine (HBu.out _ HB2.out).mono ?_
  rintro e w3 ⟨hb3, rfl⟩
  have HB3 := Lib.hid (HB2.out.trans (hb3.mono HB2.out.size))
  rw [← HS.out, ← HK.out]
  clear hb3 HBu HFx HB2
  go_wp2_with fail
  refine (HRb.out _ HB3.out).mono ?_
  rintro e w4 ⟨hb4, rfl⟩
  have HB4 := Lib.hid (HB3.out.trans (hb4.mono HB3.out.size))
  rw [← HS.out, ← HK.out]
  clear hb4 HRb HB3 HS HK
  go_wp2
  rw [HEE.out]
  exact ⟨rfl, HB4.out⟩
theorem law_builds17v (l : List ToldT) (v : Value) (w : World) (hp : ToldsP anyB w v l) (hs : SmallM l) (hh : ∀ t ∈ l, t.href.length ≤ 1000000000) (hE : MEnv w) : Calls Tryz.prog 3 #[v] w (Ret (.bool true) w) := by
  obtain ⟨A, c, rfl⟩ := tab_shape hp.1
  exact law_builds l A c w hp hs hh hE
theorem href_len {l : List ToldT} (h : (l.map toldB).sum + l.length ≤ 1048576) : ∀ t ∈ l, t.href.length ≤ 1000000000 := by
  intro t ht
  have h1 := sum_memB toldB l t ht
  have h2 : t.href.length ≤ toldB t := by unfold toldB; omega
  omega
end Go.Proofs.YtcamdnfhnianbaaGreatDoor
