/-
  Parts of the walks and plain laws of layer 10, joined: XmlNm XmlPx. Conditions: as each theorem states them.
-/
import Derived.Test.YtdnjiemclhbccaaGreatDoorXmlZ27
import Derived.Test.YtdnjiemclhbccaaGreatDoorXmlZ28
/-! XmlNm -/
namespace Go.Proofs.YtdnjiemclhbccaaGreatDoor
set_option linter.unusedVariables false
set_option linter.unusedSimpArgs false
open Go.RowKit

set_option maxHeartbeats 4000000 in
set_option maxRecDepth 100000 in
set_option linter.unusedSimpArgs false in
theorem begins_any (c : UInt8) (w : World) : Calls Tryz.prog 48 #[.int .u8 (c.toNat : Int)] w (Same0 (.bool (firC c)) w) := by
  obtain ⟨ANS, hA⟩ : ∃ A, A = firC c := ⟨_, rfl⟩
  rw [← hA]
  have HA := Lib.hid hA
  have hc := c.toNat_lt
  clear hA
  go_enter Tryz.func48, Tryz.ntmps48
  go_wp2
  all_goals
    go_ret
    refine ⟨?_, rfl⟩
    rw [HA.out]
    refine congrArg (fun b => Ending.returned (.bool b)) ?_
    unfold firC
    rw [Bool.eq_iff_iff]
    simp only [Bool.or_eq_true, decide_eq_true_eq, beq_iff_eq, Bool.and_eq_true, Bool.false_eq_true, true_iff, false_iff]
    omega
set_option maxHeartbeats 4000000 in
set_option maxRecDepth 100000 in
set_option linter.unusedSimpArgs false in
theorem goes_any (c : UInt8) (w : World) : Calls Tryz.prog 49 #[.int .u8 (c.toNat : Int)] w (Same0 (.bool (othC c)) w) := by
  obtain ⟨ANS, hA⟩ : ∃ A, A = othC c := ⟨_, rfl⟩
  rw [← hA]
  have HA := Lib.hid hA
  have hc := c.toNat_lt
  have HB := Lib.hid (begins_any c w)
  clear hA
  go_enter Tryz.func49, Tryz.ntmps49
  go_wp2_with fail
  refine HB.out.mono ?_
  rintro e w' ⟨rfl, rfl⟩
  clear HB
  cases hf : firC c
  all_goals
    have HF := Lib.hid hf
    clear hf
    go_wp2
    all_goals
      go_ret
      refine ⟨?_, rfl⟩
      rw [HA.out]
      refine congrArg (fun b => Ending.returned (.bool b)) ?_
      unfold othC
      rw [HF.out]
      first | rfl | (rw [Bool.eq_iff_iff]; simp only [Bool.or_eq_true, Bool.false_or, decide_eq_true_eq, beq_iff_eq, Bool.and_eq_true, Bool.false_eq_true, true_iff, false_iff]; omega)
theorem nameOk_cons2 (x : UInt8) (r : List UInt8) : nameOk (x :: r) = (firC x && r.all othC) := by
  show (firC x && (x :: r).all othC) = _
  rw [List.all_cons]
  cases h : firC x with
  | false => rfl
  | true => rw [show othC x = true by unfold othC; rw [h]; rfl]; rfl
set_option maxHeartbeats 2000000 in
set_option maxRecDepth 100000 in
set_option linter.unusedSimpArgs false in
theorem xrname_any (s : List UInt8) (w : World) (hs : s.length ≤ 1000000000) : Calls Tryz.prog 17 #[.string ⟨s.toArray⟩] w (Same0 (.bool (nameOk s)) w) := by
  rcases s with _ | ⟨x, r⟩
  · go_enter Tryz.func17, Tryz.ntmps17
    go_wp2
    go_ret
    exact ⟨rfl, rfl⟩
  · have HF := Lib.hid (begins_any x w)
    have HO := Lib.hid goes_any
    have hx0 : ∀ hk, (⟨(x :: r).toArray⟩ : ByteArray)[0]'hk = x := fun hk => rfl
    have hne : (x :: r).isEmpty = false := rfl
    obtain ⟨ANS, hA⟩ : ∃ A, nameOk (x :: r) = A := ⟨_, rfl⟩
    rw [hA]
    have HA := Lib.hid hA
    have HC := Lib.hid (nameOk_cons2 x r)
    have hlen : 0 < (x :: r).length := Nat.succ_pos _
    have H1 := Lib.hid (show (x :: r).drop 1 = r from rfl)
    have hlen2 : ((x :: r).length : Int) ≠ 0 := by simp; omega
    have hlb : (((x :: r).length : Int) == 0) = false := beq_eq_false_iff_ne.2 hlen2
    generalize hl : x :: r = l at *
    clear hA hl
    cases hf : firC x
    · rw [hf] at HF HC
      obtain rfl : ANS = false := by rw [← HA.out, HC.out]; rfl
      clear hf HC HA HO
      go_enter Tryz.func17, Tryz.ntmps17
      go_wp2_with fail
      refine HF.out.mono ?_
      rintro e w1 ⟨rfl, rfl⟩
      go_wp2
      go_ret
      exact ⟨rfl, rfl⟩
    · rw [hf] at HF HC
      have HK0 := Lib.hid (show (l.drop 1).all othC = ANS by rw [H1.out, ← HA.out, HC.out]; rfl)
      clear hf HC HA H1
      go_enter Tryz.func17, Tryz.ntmps17
      go_wp2_with fail
      refine HF.out.mono ?_
      rintro e w1 ⟨rfl, rfl⟩
      clear HF
      go_wp2_with fail
      go_loopg [3] l.length (fun gk i wr => ∃ k : Nat, k ≤ l.length ∧ l.length ≤ k + gk ∧ i = .int .i64 k ∧ Hid ((l.drop k).all othC = ANS) ∧ w = wr)
      case atStart => exact ⟨1, by omega, by omega, rfl, HK0, rfl⟩
      case round =>
        obtain ⟨k, hk, hkg, rfl, HK, rfl⟩ := hrel
        clear HK0
        rcases hd : l.drop k with _ | ⟨y, q⟩
        · have hk2 : k = l.length := by have := drop_nil hd; omega
          rw [hd] at HK
          obtain rfl : true = ANS := HK.out
          subst hk2
          clear hd HK
          go_wp2
          go_ret
          exact ⟨rfl, rfl⟩
        · obtain ⟨hlt, hxb, hr⟩ := drop_cons hd
          have k1 : (k : Int) < l.length := by omega
          have k2 : (0 : Int) ≤ k := by omega
          have HOy := Lib.hid (HO.out y w)
          rw [hd, List.all_cons] at HK
          have HKq := Lib.hid (show (othC y && (l.drop (k + 1)).all othC) = ANS by rw [← HK.out, ← hr])
          clear hd hr HK
          go_wp2_with fail
          refine HOy.out.mono ?_
          rintro e w1 ⟨rfl, rfl⟩
          cases hy : othC y
          · obtain rfl : ANS = false := by rw [← HKq.out, hy]; rfl
            clear hy HKq
            go_wp2
            go_ret
            exact ⟨rfl, rfl⟩
          · have HN := Lib.hid (show (l.drop (k + 1)).all othC = ANS by rw [← HKq.out, hy]; rfl)
            clear hy HKq
            go_wp2
            go_roundg (gk - 1)
            case measure => omega
            case rel => exact ⟨k + 1, by omega, by omega, by go_num, HN, rfl⟩
end Go.Proofs.YtdnjiemclhbccaaGreatDoor
/-! XmlPx -/
namespace Go.Proofs.YtdnjiemclhbccaaGreatDoor
set_option linter.unusedVariables false
set_option linter.unusedSimpArgs false
open Go.RowKit

/-- the value between its quotes, asz the law cuts it out of a form. -/
theorem cut_value (v : List UInt8) : ((formN [] (textA [] v)).take ((formN [] (textA [] v)).length - 2)).drop 5 = 34 :: (v.flatMap escV ++ [34]) ∧ (formN [] (textA [] v)).length = (v.flatMap escV).length + 9 := by
  have h := form_textA [] v
  rw [if_pos rfl] at h
  rw [h]
  have e : [60, 97, 32, 118, 61, 34] ++ (v.flatMap escV ++ 34 :: [47, 62]) = ([60, 97, 32, 118, 61] ++ (34 :: (v.flatMap escV ++ [34]))) ++ [47, 62] := by simp
  refine ⟨?_, by simp only [List.length_append, List.length_cons, List.length_nil]; omega⟩
  rw [e, List.length_append, show ([47, 62] : List UInt8).length = 2 from rfl, Nat.add_sub_cancel, List.take_left, List.drop_left' (by rfl)]
theorem form_bare_len (sp nm : List UInt8) (h : sp.length + nm.length ≤ 500) : (formN [] (.mk [] sp nm [] [])).length ≤ 65536 := by
  have he := esc_len6 escV_le sp
  by_cases hn : nm = []
  · subst hn
    rw [form_text]
    simp
  · rw [form_elem hn, headF_eq]
    simp only [List.length_append, List.isEmpty_nil, if_true, List.flatMap_nil]
    split <;> simp only [List.length_append, List.length_cons, List.length_nil] <;> omega
theorem small_bare {sp nm : List UInt8} (h : sp.length + nm.length ≤ 500) : SmallN 2000000 (.mk [] sp nm [] []) := .mk _ _ _ _ _ (by simp) (by omega) (by omega) (by simp) (by intro a ha; cases ha) (by simp) (by intro k hk; cases hk)
set_option maxHeartbeats 16000000 in
set_option maxRecDepth 100000 in
set_option linter.unusedSimpArgs false in
theorem law_prefix (sp nm pr : List UInt8) (w : World) (hs : sp.length + nm.length + pr.length ≤ 1100000) (hE : XEnv w) : Calls Tryz.prog 3 #[.string ⟨sp.toArray⟩, .string ⟨nm.toArray⟩, .string ⟨pr.toArray⟩] w (Ret (.bool true) w) := by
  have HE := Lib.hid hE
  have HFx := Lib.hid (fun w' (hb : Below w.heap.size w w') => xfixed_any w' (hE.below hb))
  have HPa := Lib.hid (fun t w' (hb : Below w.heap.size w w') (ht : t.length ≤ 2 ^ 63 - 1) => xparseV t w' ht (hE.below hb))
  obtain ⟨E, hEE⟩ : ∃ E, E = Ret (.bool true) w := ⟨_, rfl⟩
  rw [← hEE]
  have HEE := Lib.hid hEE
  clear hE hEE
  have m1 : IntKind.i64.wrap ((sp.length : Int) + nm.length) = (sp.length : Int) + nm.length := IntWalk.i64_in _ (by omega)
  have m2 : IntKind.i64.wrap ((sp.length : Int) + nm.length + pr.length) = (sp.length : Int) + nm.length + pr.length := IntWalk.i64_in _ (by omega)
  by_cases hbig : 500 < sp.length + nm.length + pr.length
  · have j1 : (500 : Int) < (sp.length : Int) + nm.length + pr.length := by omega
    go_enter Tryz.func3, Tryz.ntmps3
    go_wp2_with fail
    refine (HFx.out w (Below.refl _ _)).mono ?_
    rintro e w1 ⟨rfl, hb1⟩
    have HB1 := Lib.hid hb1
    clear hb1
    go_wp2_with fail
    refine (HFx.out w1 HB1.out).mono ?_
    rintro e w2 ⟨rfl, hb2⟩
    go_wp2
    rw [HEE.out]
    exact ⟨rfl, HB1.out.trans (hb2.mono HB1.out.size)⟩
  have j1 : ¬ (500 : Int) < (sp.length : Int) + nm.length + pr.length := by omega
  have h5 : sp.length + nm.length + pr.length ≤ 500 := by omega
  have HLp := Lib.hid (fun w' => xrletters_any pr w' (by omega))
  have HNp := Lib.hid (fun w' => xrname_any pr w' (by omega))
  go_enter Tryz.func3, Tryz.ntmps3
  go_wp2_with fail
  refine (HFx.out w (Below.refl _ _)).mono ?_
  rintro e w1 ⟨rfl, hb1⟩
  have HB1 := Lib.hid hb1
  clear hb1 HFx m1 m2
  go_wp2_with fail
  have hb2 := (Below.refl w1.heap.size w1).alloc (Nat.le_refl _) (.cells #[.string ⟨#[]⟩, .string ⟨sp.toArray⟩, .string ⟨nm.toArray⟩, .slice none 0 0, .slice none 0 0] 26 (0, 0))
  have hc2 := heap_alloc_new w1 (.cells #[.string ⟨#[]⟩, .string ⟨sp.toArray⟩, .string ⟨nm.toArray⟩, .slice none 0 0, .slice none 0 0] 26 (0, 0))
  generalize w1.alloc (.cells #[.string ⟨#[]⟩, .string ⟨sp.toArray⟩, .string ⟨nm.toArray⟩, .slice none 0 0, .slice none 0 0] 26 (0, 0)) = w2 at *
  obtain ⟨q0, hq0⟩ : ∃ q, q = w1.heap.size := ⟨_, rfl⟩
  have HB2 := Lib.hid (HB1.out.trans (hb2.mono HB1.out.size))
  rw [← hq0] at hc2 ⊢
  clear hb2 hq0 HB1
  have hfl := form_bare_len sp nm (by omega)
  have HW := Lib.hid (xwrite_any (.mk [] sp nm [] []) (.slice none 0 0) (.slice none 0 0) w2 (TabP.nil _ _ _ _) (TabP.nil _ _ _ _) (small_bare (by omega)) (HE.out.below HB2.out) (by omega))
  have hwx : writeX (.mk [] sp nm [] []) = if goodT (.mk [] sp nm [] []) then .ok (formN [] (.mk [] sp nm [] [])) else .error 30 := by
    unfold writeX
    split
    · rw [if_neg (by omega)]
    · rfl
  rw [hwx] at HW
  generalize formN [] (.mk [] sp nm [] []) = F0 at *
  clear hfl hwx
  have HC2 := Lib.hid hc2
  clear hc2
  cases hg : goodT (.mk [] sp nm [] [])
  · rw [hg] at HW
    refine HW.out.mono ?_
    rintro e w3 ⟨hb3, rfl⟩
    clear HW hg
    go_wp2
    rw [HEE.out]
    exact ⟨rfl, HB2.out.trans (hb3.mono HB2.out.size)⟩
  rw [hg] at HW
  have HG := Lib.hid hg
  clear hg
  refine HW.out.mono ?_
  rintro e w3 ⟨hb3, rfl⟩
  have HB3 := Lib.hid (HB2.out.trans (hb3.mono HB2.out.size))
  have HC3 := Lib.hid ((hb3.block _ (xlt HC2.out)).trans HC2.out)
  clear HW hb3 HC2 HB2
  by_cases hsp : sp = []
  · have e0 : (sp == []) = true := beq_iff_eq.2 hsp
    subst hsp
    go_wp2
    rw [HEE.out]
    exact ⟨rfl, HB3.out⟩
  have e0 : (sp == []) = false := beq_eq_false_iff_ne.2 hsp
  cases hn : nameOk pr
  · have h1 := HNp.out
    rw [hn] at h1
    have HNa := Lib.hid h1
    clear h1 hn
    go_wp2_with fail
    refine (HNa.out w3).mono ?_
    rintro e w4 ⟨rfl, rfl⟩
    go_wp2
    rw [HEE.out]
    exact ⟨rfl, HB3.out⟩
  have h1 := HNp.out
  rw [hn] at h1
  have HNa := Lib.hid h1
  have HN := Lib.hid hn
  clear h1 hn HNp
  go_wp2_with fail
  refine (HNa.out w3).mono ?_
  rintro e w4 ⟨rfl, rfl⟩
  clear HNa
  by_cases hx1 : pr = [120, 109, 108]
  · have e1 : (pr == [120, 109, 108]) = true := beq_iff_eq.2 hx1
    clear hx1
    go_wp2
    rw [HEE.out]
    exact ⟨rfl, HB3.out⟩
  have e1 : (pr == [120, 109, 108]) = false := beq_eq_false_iff_ne.2 hx1
  by_cases hx2 : pr = [120, 109, 108, 110, 115]
  · have e2 : (pr == [120, 109, 108, 110, 115]) = true := beq_iff_eq.2 hx2
    clear hx2 hx1
    go_wp2
    rw [HEE.out]
    exact ⟨rfl, HB3.out⟩
  have e2 : (pr == [120, 109, 108, 110, 115]) = false := beq_eq_false_iff_ne.2 hx2
  go_wp2_with fail
  cases hl : lettersX pr
  · have h1 := HLp.out w3
    rw [hl] at h1
    have HLa := Lib.hid h1
    clear h1 hl
    refine HLa.out.mono ?_
    rintro e w5 ⟨rfl, hb5⟩
    go_wp2
    rw [HEE.out]
    exact ⟨rfl, HB3.out.trans (hb5.mono HB3.out.size)⟩
  have h1 := HLp.out w3
  rw [hl] at h1
  have HLa := Lib.hid h1
  have HLT := Lib.hid hl
  clear h1 hl HLp
  refine HLa.out.mono ?_
  rintro e w5 ⟨rfl, hb5⟩
  have HB5 := Lib.hid (HB3.out.trans (hb5.mono HB3.out.size))
  have HC5 := Lib.hid ((hb5.block _ (xlt HC3.out)).trans HC3.out)
  have HX := Lib.hid (And.intro hx1 hx2)
  have HSP := Lib.hid hsp
  clear HLa hb5 HC3 HB3 hx1 hx2 hsp
  go_wp2_with fail
  have hb6 := (Below.refl w5.heap.size w5).alloc (Nat.le_refl _) (.cells #[.string ⟨#[118]⟩, .string ⟨sp.toArray⟩] 32 (0, 0))
  have hc6 := heap_alloc_new w5 (.cells #[.string ⟨#[118]⟩, .string ⟨sp.toArray⟩] 32 (0, 0))
  have hlsp : lettersX sp = true := (goodN_elem (goodT_parts HG.out).2.2 (goodT_parts HG.out).1).2.2.2.2.1
  have hwx := write_textA (s := []) (v := sp) (by simp only [List.length_nil]; omega)
  rw [hlsp, letters_nil] at hwx
  have hfl := form_textA_len (s := []) (v := sp) (by simp only [List.length_nil]; omega)
  have hsm := small_textA (s := []) (v := sp) (by simp only [List.length_nil]; omega)
  have HB6 := Lib.hid (HB5.out.trans (hb6.mono HB5.out.size))
  have HC6 := Lib.hid ((hb6.block _ (xlt HC5.out)).trans HC5.out)
  have HW := Lib.hid (xwrite_any (textA [] sp) (.slice (some ⟨w5.heap.size, 0, none⟩) 1 1) (.slice none 0 0) (w5.alloc (.cells #[.string ⟨#[118]⟩, .string ⟨sp.toArray⟩] 32 (0, 0))) (one_row (cs := [.string ⟨#[118]⟩, .string ⟨sp.toArray⟩]) hc6 rfl rfl) (TabP.nil _ _ _ _) hsm (HE.out.below HB6.out) (by omega))
  rw [hwx] at HW
  have hcut := cut_value sp
  generalize formN [] (textA [] sp) = F1 at *
  clear hb6 hc6 hwx hfl hsm hlsp HC5 HB5
  refine HW.out.mono ?_
  rintro e w7 ⟨hb7, rfl⟩
  have HB7 := Lib.hid (HB6.out.trans (hb7.mono HB6.out.size))
  have HC7 := Lib.hid ((hb7.block _ (xlt HC6.out)).trans HC6.out)
  clear hb7 HW HB6 HC6
  obtain ⟨hcut1, hcut2⟩ := hcut
  have he6 := esc_len6 escV_le sp
  have HP1 := Lib.hid (show parseX (60 :: (pr ++ 58 :: (nm ++ 32 :: 120 :: 109 :: 108 :: 110 :: 115 :: 58 :: (pr ++ 61 :: 34 :: (sp.flatMap escV ++ [34, 47, 62]))))) = .ok (.mk [] sp nm [] []) from parse_prefix HG.out HSP.out HN.out HX.out.1 HX.out.2 HLT.out (by omega))
  have HP2 := Lib.hid (show parseX (60 :: (nm ++ 32 :: 120 :: 109 :: 108 :: 110 :: 115 :: 61 :: 34 :: (sp.flatMap escV ++ 34 :: 62 :: 60 :: 47 :: (nm ++ [10, 62])))) = .ok (.mk [] sp nm [] []) from parse_noprefix HG.out HSP.out)
  generalize sp.flatMap escV = V at *
  have f0 : 9 ≤ F1.length := by omega
  have f0' : F1.length ≤ 4000 := by omega
  clear hcut2
  have f1 : (5 : Int) ≤ (F1.length : Int) - 2 := by omega
  have f2 : (F1.length : Int) - 2 ≤ F1.length := by omega
  have f3 : ((F1.length : Int) - 2).toNat = F1.length - 2 := by omega
  have f4 : IntKind.i64.wrap ((F1.length : Int) - 2) = (F1.length : Int) - 2 := IntWalk.i64_in _ (by omega)
  go_wp2_with fail
  refine (HPa.out (60 :: (pr ++ 58 :: (nm ++ 32 :: 120 :: 109 :: 108 :: 110 :: 115 :: 58 :: (pr ++ 61 :: 34 :: (V ++ [34, 47, 62]))))) w7 HB7.out (by simp only [List.length_append, List.length_cons, List.length_nil]; omega)).mono ?_
  rw [HP1.out]
  rintro e w8 ⟨hb8, aA, ac, kA, kc, rfl, ht8⟩
  rw [show outE (.ok (.mk [] sp nm [] [])) = 0 from rfl]
  unfold treeCs
  rw [show outN (.ok (.mk [] sp nm [] [])) = .mk [] sp nm [] [] from rfl]
  rw [show outN (.ok (.mk [] sp nm [] [])) = .mk [] sp nm [] [] from rfl] at ht8
  simp only [NodeT.text, NodeT.space, NodeT.name, NodeT.attrs, NodeT.kids, List.length_nil]
  have hb9 := (Below.refl w8.heap.size w8).alloc (Nat.le_refl _) (.cells #[.string ⟨#[]⟩, .string ⟨sp.toArray⟩, .string ⟨nm.toArray⟩, .slice aA 0 ac, .slice kA 0 kc] 26 (0, 0))
  have hc9 := heap_alloc_new w8 (.cells #[.string ⟨#[]⟩, .string ⟨sp.toArray⟩, .string ⟨nm.toArray⟩, .slice aA 0 ac, .slice kA 0 kc] 26 (0, 0))
  have HB9 := Lib.hid ((HB7.out.trans (hb8.mono HB7.out.size)).trans (hb9.mono (HB7.out.trans (hb8.mono HB7.out.size)).size))
  have HC9 := Lib.hid ((hb9.block _ (xlt ((hb8.block _ (xlt HC7.out)).trans HC7.out))).trans ((hb8.block _ (xlt HC7.out)).trans HC7.out))
  have HT9 := Lib.hid (ht8.below hb9)
  have HQ9 := Lib.hid hc9
  clear hb8 hb9 hc9 ht8 HP1 HB7 HC7
  go_wp2_with fail
  generalize w8.alloc (.cells #[.string ⟨#[]⟩, .string ⟨sp.toArray⟩, .string ⟨nm.toArray⟩, .slice aA 0 ac, .slice kA 0 kc] 26 (0, 0)) = w9 at *
  obtain ⟨q8, hq8⟩ : ∃ q, q = w8.heap.size := ⟨_, rfl⟩
  rw [← hq8] at HQ9 ⊢
  clear hq8
  refine (HPa.out (60 :: (nm ++ 32 :: 120 :: 109 :: 108 :: 110 :: 115 :: 61 :: 34 :: (V ++ 34 :: 62 :: 60 :: 47 :: (nm ++ [10, 62])))) w9 HB9.out (by simp only [List.length_append, List.length_cons, List.length_nil]; omega)).mono ?_
  rw [HP2.out]
  rintro e w10 ⟨hb10, aB, bc, kB, lc, rfl, ht10⟩
  rw [show outE (.ok (.mk [] sp nm [] [])) = 0 from rfl]
  unfold treeCs
  rw [show outN (.ok (.mk [] sp nm [] [])) = .mk [] sp nm [] [] from rfl]
  rw [show outN (.ok (.mk [] sp nm [] [])) = .mk [] sp nm [] [] from rfl] at ht10
  simp only [NodeT.text, NodeT.space, NodeT.name, NodeT.attrs, NodeT.kids, List.length_nil]
  have hb11 := (Below.refl w10.heap.size w10).alloc (Nat.le_refl _) (.cells #[.string ⟨#[]⟩, .string ⟨sp.toArray⟩, .string ⟨nm.toArray⟩, .slice aB 0 bc, .slice kB 0 lc] 26 (0, 0))
  have hc11 := heap_alloc_new w10 (.cells #[.string ⟨#[]⟩, .string ⟨sp.toArray⟩, .string ⟨nm.toArray⟩, .slice aB 0 bc, .slice kB 0 lc] 26 (0, 0))
  have hb91 := hb10.trans (hb11.mono hb10.size)
  have HB11 := Lib.hid (HB9.out.trans (hb91.mono HB9.out.size))
  have HC11 := Lib.hid ((hb91.block _ (xlt HC9.out)).trans HC9.out)
  have HQ9' := Lib.hid ((hb91.block _ (xlt HQ9.out)).trans HQ9.out)
  have HT9' := Lib.hid (HT9.out.below hb91)
  have HT11 := Lib.hid (ht10.below hb11)
  have HQ11 := Lib.hid hc11
  have HT0 : ∀ wx, TreeV wx (.mk [] sp nm [] []) none 0 none 0 := fun wx => ⟨TabP.nil _ _ _ _, TabP.nil _ _ _ _⟩
  have HS1 := Lib.hid (same_tree HT9'.out (HT0 _))
  have x0 := xat HC11.out 0
  have x1 := xat HC11.out 1
  have x2 := xat HC11.out 2
  have x3 := xat HC11.out 3
  have x4 := xat HC11.out 4
  simp only [List.getElem?_toArray, List.getElem?_cons_zero, List.getElem?_cons_succ] at x0 x1 x2 x3 x4
  have y0 := xat HQ9'.out 0
  have y1 := xat HQ9'.out 1
  have y2 := xat HQ9'.out 2
  have y3 := xat HQ9'.out 3
  have y4 := xat HQ9'.out 4
  simp only [List.getElem?_toArray, List.getElem?_cons_zero, List.getElem?_cons_succ] at y0 y1 y2 y3 y4
  have z0 := xat HQ11.out 0
  have z1 := xat HQ11.out 1
  have z2 := xat HQ11.out 2
  have z3 := xat HQ11.out 3
  have z4 := xat HQ11.out 4
  simp only [List.getElem?_toArray, List.getElem?_cons_zero, List.getElem?_cons_succ] at z0 z1 z2 z3 z4
  clear hb10 hb11 hc11 hb91 ht10 HP2 HB9 HC9 HQ9 HT9 HPa
  go_wp2_with fail
  generalize w10.alloc (.cells #[.string ⟨#[]⟩, .string ⟨sp.toArray⟩, .string ⟨nm.toArray⟩, .slice aB 0 bc, .slice kB 0 lc] 26 (0, 0)) = w11 at *
  obtain ⟨q10, hq10⟩ : ∃ q, q = w10.heap.size := ⟨_, rfl⟩
  rw [← hq10] at HQ11 ⊢
  clear hq10 x0 x1 x2 x3 x4 y0 y1 y2 y3 y4 z0 z1 z2 z3 z4
  refine HS1.out.mono ?_
  rintro e w12 ⟨rfl, hb12⟩
  have HS2 := Lib.hid (same_tree (HT11.out.below hb12) (HT0 _))
  have HC12 := (hb12.block _ (xlt HC11.out)).trans HC11.out
  have HQ12 := (hb12.block _ (xlt HQ11.out)).trans HQ11.out
  have HB12 := Lib.hid (HB11.out.trans (hb12.mono HB11.out.size))
  have x0 := xat HC12 0
  have x1 := xat HC12 1
  have x2 := xat HC12 2
  have x3 := xat HC12 3
  have x4 := xat HC12 4
  simp only [List.getElem?_toArray, List.getElem?_cons_zero, List.getElem?_cons_succ] at x0 x1 x2 x3 x4
  have z0 := xat HQ12 0
  have z1 := xat HQ12 1
  have z2 := xat HQ12 2
  have z3 := xat HQ12 3
  have z4 := xat HQ12 4
  simp only [List.getElem?_toArray, List.getElem?_cons_zero, List.getElem?_cons_succ] at z0 z1 z2 z3 z4
  clear hb12 HC12 HQ12
  go_wp2_with fail
  refine HS2.out.mono ?_
  rintro e w13 ⟨rfl, hb13⟩
  go_wp2
  rw [HEE.out]
  exact ⟨rfl, HB12.out.trans (hb13.mono HB12.out.size)⟩
end Go.Proofs.YtdnjiemclhbccaaGreatDoor
