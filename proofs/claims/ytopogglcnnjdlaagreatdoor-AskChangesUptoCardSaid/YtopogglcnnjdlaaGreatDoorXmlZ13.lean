/-
  Parts of the walks and plain laws of layer 10, joined: XmlT2 XmlU. Conditions: as each theorem states them.
-/
import Derived.Test.YtopogglcnnjdlaaGreatDoorXmlZ12
import Derived.Laws.Tables
import Derived.Laws.Rows
/-! XmlT2 -/
namespace Go.Proofs.YtopogglcnnjdlaaGreatDoor
set_option linter.unusedVariables false
set_option linter.unusedSimpArgs false
open Go.RowKit

theorem acells_one (a : AttrT) : ∀ u ∈ acells a, u.oneCell' = true := by
  intro u hu
  simp only [acells, List.mem_cons, List.not_mem_nil, or_false] at hu
  rcases hu with rfl | rfl <;> rfl
theorem qname_parts {s r : List UInt8} {pl : List UInt8 × List UInt8} (h : qnameX s = some (pl, r)) : pl.1.length ≤ s.length ∧ pl.2.length ≤ s.length := by
  unfold qnameX at h
  obtain ⟨a, q, h1, h⟩ := thenX_some h
  have l1 : a.length + q.length = s.length := by rw [(nameX_some h1).1, List.length_append]
  split at h
  · injection h with h
    injection h with h _
    subst h
    exact ⟨Nat.zero_le _, by show a.length ≤ _; omega⟩
  · rename_i u q2 he
    obtain ⟨a2, q3, h2, h⟩ := thenX_some h
    have l2 := eat_lenX he
    have l3 : a2.length + q3.length = q2.length := by rw [(nameX_some h2).1, List.length_append]
    injection h with h
    injection h with h _
    subst h
    exact ⟨by show a.length ≤ _; omega, by show a2.length ≤ _; omega⟩
theorem ScP.ptr {P : Nat → Prop} {w : World} {sc : Scope} {v : Value} (h : ScP P w v sc) : ∃ o, v = .pointer o := by
  rcases sc with _ | ⟨⟨p, s⟩, r⟩
  · exact ⟨none, h⟩
  · obtain ⟨k, up, hv, -⟩ := h
    exact ⟨_, hv⟩
theorem white_stay {s : List UInt8} (h : ¬ (whiteX s).length < s.length) : whiteX s = s := white_same h
set_option maxHeartbeats 32000000 in
set_option maxRecDepth 100000 in
set_option linter.unusedSimpArgs false in
theorem xattrs_any (b : Nat) (s : List UInt8) (sv : Value) (sc : Scope) (w : World) (h : PX w b s) (hs : s.length ≤ 1000000) (hE : XE w b) (hsc : ScP (· ≠ b) w sv sc) :
    Calls Tryz.prog 108 #[.pointer (some ⟨b, 0, none⟩), sv] w (XOut b (attrsS [] [] sc s) (AtV w.heap.size b) w) := by
  have hbw : b < w.heap.size := h.lt
  have hmm := @run_makeMap Tryz.prog
  have HW := Lib.hid (fun wx s (h : PX wx b s) => xwhite_any b s wx h)
  have HHp := Lib.hid (fun s p wx => xhasPrefix_any s p wx)
  have HQn := Lib.hid (fun wx s (h : PX wx b s) (hs : s.length ≤ 1000000) => xqname_any b s wx h (by omega))
  have HMu := Lib.hid (fun wx s word (h : PX wx b s) => xmust_any b s word wx h)
  have HVa := Lib.hid (fun wx s (h : PX wx b s) (hs : s.length ≤ 1000000) (hg : w.grownBy wx (some b)) => xvalue_any b s wx h hs (hE.step hg))
  obtain ⟨ANS, hA⟩ : ∃ A, attrsS [] [] sc s = A := ⟨_, rfl⟩
  rw [hA]
  have HA := Lib.hid hA
  have HP := Lib.hid (h.below ((Below.refl w.heap.size w).alloc (Nat.le_refl _) (.map #[] 0)))
  have HG0 := Lib.hid (Below.toGrown ((Below.refl w.heap.size w).alloc (Nat.le_refl _) (.map #[] 0)) (some b))
  have HS0 := Lib.hid (show AtS w.heap.size b w.heap.size 0 (w.alloc (.map #[] 0)) (.slice none 0 0) sv [] [] sc from
    ⟨OwnT.nil _ _ _ _, (hsc.with fun k _ _ _ hk _ => ⟨hk, by simp [Value.ownBlock]⟩ : ScP (fun k => k ≠ b ∧ some k ≠ (Value.slice none 0 0).ownBlock) w sv sc).move (Moves.below ((Below.refl w.heap.size w).alloc (Nat.le_refl _) (.map #[] 0)) fun _ hk _ => hk), Cnt.made w, Nat.le_refl _, hbw, by simp⟩)
  clear h hA hE hsc
  go_enter Tryz.func108, Tryz.ntmps108
  go_wp2_with fail
  generalize w.alloc (.map #[] 0) = w0 at *
  obtain ⟨B, hB⟩ : ∃ B, B = w.heap.size := ⟨_, rfl⟩
  rw [← hB] at HS0 hbw ⊢
  have HO := Lib.hid (fun (wx : World) (av sv' : Value) (seen : List (List UInt8)) (out : List AttrT) (sc : Scope) (n : Nat) (h : AtS B b B n wx av sv' seen out sc) => (hB ▸ h.out : AtV w.heap.size b wx (.tuple #[av, sv']) (out, sc)))
  have hBw : w.heap.size ≤ B := Nat.le_of_eq hB.symm
  clear hB hmm
  go_loopg [1, 6] s.length (fun g sv av wr => ∃ (s' : List UInt8) (seen : List (List UInt8)) (out : List AttrT) (sc : Scope) (n : Nat), s'.length ≤ g ∧ s'.length ≤ 1000000 ∧ n + s'.length ≤ 1000000 ∧ out.length + s'.length ≤ 1000000 ∧ PX wr b s' ∧ w.grownBy wr (some b) ∧ AtS B b B n wr av sv seen out sc ∧ Hid (attrsS seen out sc s' = ANS))
  case atStart => exact ⟨s, [], [], sc, 0, Nat.le_refl _, hs, by omega, by simp; omega, HP.out, HG0.out, HS0.out, HA⟩
  case round =>
    obtain ⟨s', seen, out, sc, n, hl, hl2, hln, hlo, hp, hg, hst, HK⟩ := hrel
    obtain ⟨up, rfl⟩ := hst.scope.ptr
    have HP1 := Lib.hid hp
    have HG1 := Lib.hid hg
    have HS1 := Lib.hid hst
    have hKe := attrsS_eq seen out sc s'
    rw [HK.out] at hKe
    have HKe := Lib.hid hKe
    clear hp hg hst HP HG0 HS0 HA hKe HK
    go_wp2_with fail
    refine (HW.out wr s' HP1.out).mono ?_
    rintro e w1 ⟨hg1, rfl, hp1⟩
    have HG2 := Lib.hid (grown_trans HG1.out hg1)
    have HS2 := Lib.hid (HS1.out.step hg1)
    have HP2 := Lib.hid hp1
    have hwl := white_le s'
    clear hg1 hp1 HG1 HS1 HP1
    by_cases hw : (whiteX s').length < s'.length
    case neg =>
      have hd : decide ((whiteX s').length < s'.length) = false := decide_eq_false hw
      have HK := Lib.hid (show ANS = some ((out, sc), whiteX s') by rw [HKe.out, if_neg (fun h => hw h.1)])
      rw [hd]
      clear hd HKe hw
      go_wp2
      go_ret2
      exact xout_ok HK.out HG2.out (HO.out _ _ _ _ _ _ _ HS2.out) HP2.out
    have hd : decide ((whiteX s').length < s'.length) = true := decide_eq_true hw
    rw [hd]
    clear hd
    obtain ⟨r0, hr0⟩ : ∃ r0, r0 = whiteX s' := ⟨_, rfl⟩
    rw [← hr0] at HKe HP2 hwl
    have hr0l : r0.length < s'.length := by rw [hr0]; exact hw
    have HR0 := Lib.hid hr0
    clear hr0 hw
    have x0 := HP2.out.c0
    go_wp2_with fail
    refine (HHp.out r0 [62] w1).mono ?_
    rintro e w2 ⟨rfl, rfl⟩
    cases h62 : [62].isPrefixOf r0
    case true =>
      have HK := Lib.hid (show ANS = some ((out, sc), r0) by rw [HKe.out, if_neg (fun h => by rw [h62] at h; cases h.2.1)])
      clear HKe h62
      go_wp2
      go_ret2
      exact xout_ok HK.out HG2.out (HO.out _ _ _ _ _ _ _ HS2.out) HP2.out
    go_wp2_with fail
    refine (HHp.out r0 [47, 62] w1).mono ?_
    rintro e w2 ⟨rfl, rfl⟩
    cases h47 : [47, 62].isPrefixOf r0
    case true =>
      have HK := Lib.hid (show ANS = some ((out, sc), r0) by rw [HKe.out, if_neg (fun h => by rw [h47] at h; cases h.2.2)])
      clear HKe h47 h62
      go_wp2
      go_ret2
      exact xout_ok HK.out HG2.out (HO.out _ _ _ _ _ _ _ HS2.out) HP2.out
    have HK1 := Lib.hid (show ANS = thenX (qnameX r0) fun pl r => thenX (eatX [61] (whiteX r)) fun _ r => thenX (valueX (whiteX r)) fun v r =>
        if pl.1 ++ 58 :: pl.2 ∈ seen then none
        else if pl.1 = [] ∧ pl.2 = wXmlns then attrsS ((pl.1 ++ 58 :: pl.2) :: seen) out (([], v) :: sc) r
        else if pl.1 = wXmlns then (if v = [] ∨ pl.2 = wXml ∨ pl.2 = wXmlns then none else attrsS ((pl.1 ++ 58 :: pl.2) :: seen) out ((pl.2, v) :: sc) r)
        else if pl.1 ≠ [] then none
        else attrsS ((pl.1 ++ 58 :: pl.2) :: seen) (out ++ [⟨pl.2, v⟩]) sc r by rw [HKe.out, if_pos ⟨hr0l, h62, h47⟩])
    clear HKe h47 h62 x0 HHp
    go_wp2_with fail
    refine (HQn.out w1 r0 HP2.out (by omega)).mono ?_
    rintro e w3 ⟨hg3, hx3⟩
    have HG3 := Lib.hid (grown_trans HG2.out hg3)
    have HS3 := Lib.hid (HS2.out.step hg3)
    clear hg3 HG2 HS2 HP2 HQn
    rcases h3 : qnameX r0 with _ | ⟨⟨p, l⟩, r1⟩
    · rw [h3] at hx3
      subst hx3
      exact ⟨rfl, xout_no (by rw [HK1.out, h3]; rfl) HG3.out⟩
    rw [h3] at hx3
    obtain ⟨_, rfl, rfl, hp3⟩ := hx3
    have hl3 := qnameX_len h3
    have HP3 := Lib.hid hp3
    have HK3 := Lib.hid (show ANS = thenX (eatX [61] (whiteX r1)) fun _ r => thenX (valueX (whiteX r)) fun v r =>
        if p ++ 58 :: l ∈ seen then none
        else if p = [] ∧ l = wXmlns then attrsS ((p ++ 58 :: l) :: seen) out (([], v) :: sc) r
        else if p = wXmlns then (if v = [] ∨ l = wXml ∨ l = wXmlns then none else attrsS ((p ++ 58 :: l) :: seen) out ((l, v) :: sc) r)
        else if p ≠ [] then none
        else attrsS ((p ++ 58 :: l) :: seen) (out ++ [⟨l, v⟩]) sc r by rw [HK1.out, h3]; rfl)
    have hpl : p.length ≤ 1000000 ∧ l.length ≤ 1000000 := by have := qname_parts h3; simp only at this; omega
    clear h3 hp3 HK1
    go_wp2_with fail
    refine (HW.out w3 r1 HP3.out).mono ?_
    rintro e w4 ⟨hg4, rfl, hp4⟩
    have HG4 := Lib.hid (grown_trans HG3.out hg4)
    have HS4 := Lib.hid (HS3.out.step hg4)
    have HP4 := Lib.hid hp4
    have hl4 := white_le r1
    clear hg4 hp4 HG3 HS3 HP3
    generalize whiteX r1 = r2 at *
    generalize decide (r2.length < r1.length) = b4
    go_wp2_with fail
    refine (HMu.out w4 r2 [61] HP4.out).mono ?_
    rintro e w5 ⟨hg5, hx5⟩
    have HG5 := Lib.hid (grown_trans HG4.out hg5)
    have HS5 := Lib.hid (HS4.out.step hg5)
    clear hg5 HG4 HS4 HP4 HMu
    rcases h5 : eatX [61] r2 with _ | ⟨u5, r3⟩
    · rw [h5] at hx5
      subst hx5
      exact ⟨rfl, xout_no (by rw [HK3.out, h5]; rfl) HG5.out⟩
    rw [h5] at hx5
    obtain ⟨_, rfl, rfl, hp5⟩ := hx5
    have hl5 := eat_lenX h5
    have HP5 := Lib.hid hp5
    have HK5 := Lib.hid (show ANS = thenX (valueX (whiteX r3)) fun v r =>
        if p ++ 58 :: l ∈ seen then none
        else if p = [] ∧ l = wXmlns then attrsS ((p ++ 58 :: l) :: seen) out (([], v) :: sc) r
        else if p = wXmlns then (if v = [] ∨ l = wXml ∨ l = wXmlns then none else attrsS ((p ++ 58 :: l) :: seen) out ((l, v) :: sc) r)
        else if p ≠ [] then none
        else attrsS ((p ++ 58 :: l) :: seen) (out ++ [⟨l, v⟩]) sc r by rw [HK3.out, h5]; rfl)
    clear h5 hp5 HK3
    go_wp2_with fail
    refine (HW.out w5 r3 HP5.out).mono ?_
    rintro e w6 ⟨hg6, rfl, hp6⟩
    have HG6 := Lib.hid (grown_trans HG5.out hg6)
    have HS6 := Lib.hid (HS5.out.step hg6)
    have HP6 := Lib.hid hp6
    have hl6 := white_le r3
    clear hg6 hp6 HG5 HS5 HP5 HW
    generalize whiteX r3 = r4 at *
    generalize decide (r4.length < r3.length) = b6
    go_wp2_with fail
    refine (HVa.out w6 r4 HP6.out (by omega) HG6.out).mono ?_
    rintro e w7 ⟨hg7, hx7⟩
    have HG7 := Lib.hid (grown_trans HG6.out hg7)
    have HS7 := Lib.hid (HS6.out.step hg7)
    clear hg7 HG6 HS6 HP6 HVa
    rcases h7 : valueX r4 with _ | ⟨v, r5⟩
    · rw [h7] at hx7
      subst hx7
      exact ⟨rfl, xout_no (by rw [HK5.out, h7]; rfl) HG7.out⟩
    rw [h7] at hx7
    obtain ⟨_, rfl, rfl, hp7⟩ := hx7
    have hl7 := (valueX_ok h7).1
    have HP7 := Lib.hid hp7
    have HK7 := Lib.hid (show ANS = 
        if p ++ 58 :: l ∈ seen then none
        else if p = [] ∧ l = wXmlns then attrsS ((p ++ 58 :: l) :: seen) out (([], v) :: sc) r5
        else if p = wXmlns then (if v = [] ∨ l = wXml ∨ l = wXmlns then none else attrsS ((p ++ 58 :: l) :: seen) out ((l, v) :: sc) r5)
        else if p ≠ [] then none
        else attrsS ((p ++ 58 :: l) :: seen) (out ++ [⟨l, v⟩]) sc r5 by rw [HK5.out, h7]; rfl)
    clear h7 hp7 HK5
    have hkl : (p ++ 58 :: l).length ≤ maxLen := by simp only [List.length_append, List.length_cons]; unfold maxLen; omega
    have hn7 : n < maxLen := by unfold maxLen; omega
    have tok1 : True := trivial
    by_cases hm : p ++ 58 :: l ∈ seen
    · have hcf := Lib.hid (show cntF seen (p ++ 58 :: l) = 1 from if_pos hm)
      have HK := Lib.hid (show ANS = none by rw [HK7.out, if_pos hm])
      clear hm HK7 HO
      go_wp2_with (first
        | (at_lookup; have _t := tok1; refine wpList_cnt_look _ rfl _ _ rfl B n (cntF seen) rfl HS7.out.cnt _ 1 hcf.out rfl hkl ?_; clear tok1 _t)
        | (at_mapUpdate; refine wpList_cnt_store _ rfl _ _ _ rfl B n (cntF seen) rfl HS7.out.cnt hn7 _ 2 rfl rfl hkl (by decide) (by decide) ?_; intro w8 hc8 hg8)
        | (at_lookup; refine wpList_cnt_look _ rfl _ _ rfl B (n + 1) _ rfl hc8 _ 2 (if_pos rfl) rfl hkl ?_))
      refine (xfail_any _).mono ?_
      rintro e w9 ⟨rfl, rfl⟩
      exact ⟨rfl, xout_no HK.out (grown_in HG7.out hg8 hBw)⟩
    · have hcf := Lib.hid (show cntF seen (p ++ 58 :: l) = 0 from if_neg hm)
      have HK := Lib.hid (show ANS =
        if p = [] ∧ l = wXmlns then attrsS ((p ++ 58 :: l) :: seen) out (([], v) :: sc) r5
        else if p = wXmlns then (if v = [] ∨ l = wXml ∨ l = wXmlns then none else attrsS ((p ++ 58 :: l) :: seen) out ((l, v) :: sc) r5)
        else if p ≠ [] then none
        else attrsS ((p ++ 58 :: l) :: seen) (out ++ [⟨l, v⟩]) sc r5 by rw [HK7.out, if_neg hm])
      clear hm HK7 HO
      go_upto_if 58 with (first
        | (at_lookup; have _t := tok1; refine wpList_cnt_look _ rfl _ _ rfl B n (cntF seen) rfl HS7.out.cnt _ 0 hcf.out rfl hkl ?_; clear tok1 _t)
        | (at_mapUpdate; refine wpList_cnt_store _ rfl _ _ _ rfl B n (cntF seen) rfl HS7.out.cnt hn7 _ 1 rfl rfl hkl (by decide) (by decide) ?_; intro w8 hc8 hg8)
        | (at_lookup; refine wpList_cnt_look _ rfl _ _ rfl B (n + 1) _ rfl hc8 _ 1 (if_pos rfl) rfl hkl ?_))
      have HS8 := Lib.hid (HS7.out.count hg8 hc8)
      have HG8 := Lib.hid (grown_in HG7.out hg8 hBw)
      have HP8 := Lib.hid (HP7.out.keep hg8 (by intro e; injection e with e; omega))
      clear hc8 hg8 HS7 HG7 HP7 hcf hn7 hkl
      have hr5 : r5.length < gk := by simp only [List.length_cons, List.length_nil] at hl5; omega
      have hr5b : r5.length ≤ 1000000 ∧ n + 1 + r5.length ≤ 1000000 ∧ out.length + 1 + r5.length ≤ 1000000 := by simp only [List.length_cons, List.length_nil] at hl5; omega
      clear hl hl2 hln hlo hwl hr0l hl3 hl4 hl5 hl6 hl7 HR0
      have happ := Lib.hid (show ((out.map acells).length + 1) * 32 ≤ 140737488355328 by rw [List.length_map]; omega)
      by_cases hp0 : p = []
      · subst hp0
        by_cases hlx : l = wXmlns
        · have HK2 := Lib.hid (show attrsS (([] ++ 58 :: l) :: seen) out (([], v) :: sc) r5 = ANS by rw [HK.out, if_pos ⟨rfl, hlx⟩])
          have HS9 := Lib.hid (HS8.out.push [] v)
          have HP9 := Lib.hid (HP8.out.below ((Below.refl _ _).alloc (Nat.le_refl _) (.cells #[.string ⟨([] : List UInt8).toArray⟩, .string ⟨v.toArray⟩, .pointer up] 207 (0, 0))))
          have HG9 := Lib.hid (grown_trans HG8.out (Below.toGrown ((Below.refl _ _).alloc (Nat.le_refl _) (.cells #[.string ⟨([] : List UInt8).toArray⟩, .string ⟨v.toArray⟩, .pointer up] 207 (0, 0))) (some b)))
          have b1 : (l == [120, 109, 108, 110, 115]) = true := by rw [hlx]; rfl
          clear hlx HK HS8 HP8 HG8
          go_wp2
          go_roundg r5.length
          case measure => omega
          case rel => exact ⟨r5, _, out, _, n + 1, Nat.le_refl _, by omega, by omega, by omega, HP9.out, HG9.out, HS9.out, HK2⟩
        · have HK2 := Lib.hid (show attrsS (([] ++ 58 :: l) :: seen) (out ++ [⟨l, v⟩]) sc r5 = ANS by rw [HK.out, if_neg (fun h => hlx h.2), if_neg (by decide), if_neg (fun h => h rfl)])
          have b1 : (l == [120, 109, 108, 110, 115]) = false := list_ne hlx
          clear hlx HK
          go_wp2_with (at_builtin; go_must (refine wpList_appRec elemA rfl (.tmp 52) (.tmp 56) rfl B (out.map acells) #[.string ⟨l.toArray⟩, .string ⟨v.toArray⟩] _ rfl HS8.out.own w8.heap.size rfl rfl rfl (acells_one ⟨l, v⟩) happ.out HS8.out.size ?_); intro v' w' hown' hb' hg' hn')
          have HS9 := Lib.hid (HS8.out.app (a := ⟨l, v⟩) hown' hg' hn')
          have HP9 := Lib.hid (HP8.out.low hb' hbw)
          have HG9 := Lib.hid (grown_low HG8.out hb' hBw)
          clear hown' hg' hn' hb' HS8 HP8 HG8
          go_roundg r5.length
          case measure => omega
          case rel => exact ⟨r5, _, _, sc, n + 1, Nat.le_refl _, by omega, by omega, by simp only [List.length_append, List.length_cons, List.length_nil]; omega, HP9.out, HG9.out, HS9.out, HK2⟩
      · have b0 : p.isEmpty = false := by cases p with | nil => exact absurd rfl hp0 | cons => rfl
        by_cases hpx : p = wXmlns
        · have b1 : (p == [120, 109, 108, 110, 115]) = true := by rw [hpx]; rfl
          have HK1 := Lib.hid (show ANS = if v = [] ∨ l = wXml ∨ l = wXmlns then none else attrsS ((p ++ 58 :: l) :: seen) out ((l, v) :: sc) r5 by rw [HK.out, if_neg (fun h => hp0 h.1), if_pos hpx])
          clear hp0 hpx HK
          by_cases hbad : v = [] ∨ l = wXml ∨ l = wXmlns
          · have HK2 := Lib.hid (show ANS = none by rw [HK1.out, if_pos hbad])
            by_cases hv0 : v = []
            · have b2 : v.isEmpty = true := by rw [hv0]; rfl
              clear hv0 hbad HK1
              go_wp2_with fail
              refine (xfail_any _).mono ?_
              rintro e w9 ⟨rfl, rfl⟩
              exact ⟨rfl, xout_no HK2.out HG8.out⟩
            · have b2 : v.isEmpty = false := by cases v with | nil => exact absurd rfl hv0 | cons => rfl
              by_cases hl1 : l = wXml
              · have b3 : (l == [120, 109, 108]) = true := by rw [hl1]; rfl
                clear hv0 hbad HK1 hl1
                go_wp2_with fail
                refine (xfail_any _).mono ?_
                rintro e w9 ⟨rfl, rfl⟩
                exact ⟨rfl, xout_no HK2.out HG8.out⟩
              · have b3 : (l == [120, 109, 108]) = false := list_ne hl1
                have b4' : (l == [120, 109, 108, 110, 115]) = true := by
                  rcases hbad with h | h | h
                  · exact absurd h hv0
                  · exact absurd h hl1
                  · rw [h]; rfl
                clear hv0 hbad HK1 hl1
                go_wp2_with fail
                refine (xfail_any _).mono ?_
                rintro e w9 ⟨rfl, rfl⟩
                exact ⟨rfl, xout_no HK2.out HG8.out⟩
          · have HK2 := Lib.hid (show attrsS ((p ++ 58 :: l) :: seen) out ((l, v) :: sc) r5 = ANS by rw [HK1.out, if_neg hbad])
            rw [not_or, not_or] at hbad
            have b2 : v.isEmpty = false := by cases v with | nil => exact absurd rfl hbad.1 | cons => rfl
            have b3 : (l == [120, 109, 108]) = false := list_ne hbad.2.1
            have b4' : (l == [120, 109, 108, 110, 115]) = false := list_ne hbad.2.2
            have HS9 := Lib.hid (HS8.out.push l v)
            have HP9 := Lib.hid (HP8.out.below ((Below.refl _ _).alloc (Nat.le_refl _) (.cells #[.string ⟨l.toArray⟩, .string ⟨v.toArray⟩, .pointer up] 207 (0, 0))))
            have HG9 := Lib.hid (grown_trans HG8.out (Below.toGrown ((Below.refl _ _).alloc (Nat.le_refl _) (.cells #[.string ⟨l.toArray⟩, .string ⟨v.toArray⟩, .pointer up] 207 (0, 0))) (some b)))
            clear hbad HK1 HS8 HP8 HG8
            go_wp2
            go_roundg r5.length
            case measure => omega
            case rel => exact ⟨r5, _, out, _, n + 1, Nat.le_refl _, by omega, by omega, by omega, HP9.out, HG9.out, HS9.out, HK2⟩
        · have b1 : (p == [120, 109, 108, 110, 115]) = false := list_ne hpx
          have HK2 := Lib.hid (show ANS = none by rw [HK.out, if_neg (fun h => hp0 h.1), if_neg hpx, if_pos hp0])
          clear hp0 hpx HK
          go_wp2_with fail
          refine (xfail_any _).mono ?_
          rintro e w9 ⟨rfl, rfl⟩
          exact ⟨rfl, xout_no HK2.out HG8.out⟩
end Go.Proofs.YtopogglcnnjdlaaGreatDoor
/-! XmlU -/
namespace Go.Proofs.YtopogglcnnjdlaaGreatDoor
set_option linter.unusedVariables false
set_option linter.unusedSimpArgs false
open Go.RowKit

theorem grown_row (w : World) (g : Nat) (cs : Array Value) : w.grownBy (w.setRow g cs) (some g) :=
  ⟨rfl, rfl, rfl, by simp, fun k _ hne => setRow_other w g k cs (fun e => hne (by rw [e]))⟩
theorem tab_shape {α : Type} {n : Nat} {R : World → List Value → α → Prop} {w : World} {v : Value} {l : List α} (h : Tab n R w v l) : ∃ A cap, v = .slice A l.length cap := by
  obtain ⟨A, cap, hv, -⟩ := h
  exact ⟨A, cap, hv⟩
/-- the blocks of a node that hang below: behind the result's block, not the parser's, not the node's own. -/
def bel (b e4 e12 : Nat) (k : Nat) : Prop := e4 < k ∧ k ≠ b ∧ k ≠ e12
structure ElS (b e4 e12 : Nat) (w : World) (sp l : List UInt8) (av kv : Value) (ats : List AttrT) (ks : List NodeT) : Prop where
  c4 : w.heap[e4]? = some (.cells #[.string ⟨#[]⟩, .string ⟨#[]⟩, .string ⟨#[]⟩, .slice none 0 0, .slice none 0 0] 26 (0, 0))
  c12 : w.heap[e12]? = some (.cells #[.string ⟨#[]⟩, .string ⟨sp.toArray⟩, .string ⟨l.toArray⟩, av, kv] 26 (0, 0))
  at_ : AttrsP (bel b e4 e12) w av ats
  ks_ : NodesP (bel b e4 e12) w kv ks
  lo : b < e4 ∧ e4 < e12
section
variable {b e4 e12 : Nat} {w w' : World} {sp l : List UInt8} {av kv : Value} {ats : List AttrT} {ks : List NodeT}
theorem ElS.step (h : ElS b e4 e12 w sp l av kv ats ks) (hg : w.grownBy w' (some b)) : ElS b e4 e12 w' sp l av kv ats ks := by
  have hm : Moves (bel b e4 e12) (bel b e4 e12) w w' := Moves.grown hg fun k hk _ => ⟨hk, fun e => by injection e with e; exact hk.2.1 e⟩
  exact ⟨(hg.block e4 (xlt h.c4) (fun e => by injection e with e; have := h.lo; omega)).trans h.c4, (hg.block e12 (xlt h.c12) (fun e => by injection e with e; have := h.lo; omega)).trans h.c12, h.at_.move hm, h.ks_.move hm, h.lo⟩
/-- the kids are laid into the node. -/
theorem ElS.kids {kv' : Value} {ks' : List NodeT} (h : ElS b e4 e12 w sp l av kv ats ks) (hk : NodesP (bel b e4 e12) w kv' ks') : ElS b e4 e12 (w.setCell ⟨e12, 4, none⟩ kv') sp l av kv' ats ks' := by
  have hg := xgrown_cell w e12 4 kv'
  have hm : Moves (bel b e4 e12) (bel b e4 e12) w (w.setCell ⟨e12, 4, none⟩ kv') := Moves.grown hg fun k hk _ => ⟨hk, fun e => by injection e with e; exact hk.2.2 e⟩
  exact ⟨(hg.block e4 (xlt h.c4) (fun e => by injection e with e; have := h.lo; omega)).trans h.c4, heap_setCell_same w e12 4 _ _ kv' h.c12, h.at_.move hm, hk.move hm, h.lo⟩
/-- what element hands back. -/
def ElV (B : Nat) (w : World) (v : Value) (n : NodeT) : Prop := ∃ av kv, v = nodeV n av kv ∧ AttrsP (B ≤ ·) w av n.attrs ∧ NodesP (B ≤ ·) w kv n.kids
theorem ElV.mono {B B' : Nat} {w : World} {v : Value} {n : NodeT} (h : ElV B w v n) (hB : B' ≤ B) : ElV B' w v n := by
  obtain ⟨av, kv, hv, ha, hk⟩ := h
  exact ⟨av, kv, hv, ha.move (Moves.same w fun k hk _ => Nat.le_trans hB hk), hk.move (Moves.same w fun k hk _ => Nat.le_trans hB hk)⟩
theorem ElS.out (h : ElS b e4 e12 w sp l av kv ats ks) {cs : Array Value} : ElV e4 (w.setRow e4 cs) (.agg #[.string ⟨#[]⟩, .string ⟨sp.toArray⟩, .string ⟨l.toArray⟩, av, kv]) (.mk [] sp l ats ks) := by
  have hg := grown_row w e4 cs
  have hm : Moves (bel b e4 e12) (e4 ≤ ·) w (w.setRow e4 cs) := Moves.grown hg fun k hk _ => ⟨Nat.le_of_lt hk.1, fun e => by injection e with e; have := hk.1; omega⟩
  exact ⟨av, kv, rfl, h.at_.move hm, h.ks_.move hm⟩
end
def KidsV (B : Nat) (w : World) (v : Value) (ks : List NodeT) : Prop := Kids B w v ks
/-- content's walk at all texts shorter than so many bytes. -/
def ContOk (m : Nat) : Prop := ∀ (b : Nat) (s : List UInt8) (sv : Value) (sc : Scope) (w : World), s.length < m → s.length ≤ 1000000 → PX w b s → XE w b → ScP (· ≠ b) w sv sc →
  Calls Tryz.prog 111 #[.pointer (some ⟨b, 0, none⟩), sv] w (XOut b (contX sc [] s) (KidsV w.heap.size) w)
theorem elem_start {w : World} {b : Nat} {s : List UInt8} {sv : Value} {sc : Scope} (h : PX w b s) (hsc : ScP (· ≠ b) w sv sc) : let w0 := w.alloc (.cells #[.string ⟨#[]⟩, .string ⟨#[]⟩, .string ⟨#[]⟩, .slice none 0 0, .slice none 0 0] 26 (0, 0))
    PX w0 b s ∧ ScP (· ≠ b) w0 sv sc ∧ w.grownBy w0 (some b) ∧ w0.heap[w.heap.size]? = some (.cells #[.string ⟨#[]⟩, .string ⟨#[]⟩, .string ⟨#[]⟩, .slice none 0 0, .slice none 0 0] 26 (0, 0)) ∧ w.heap.size < w0.heap.size := by
  have hb : Below w.heap.size w (w.alloc (.cells #[.string ⟨#[]⟩, .string ⟨#[]⟩, .string ⟨#[]⟩, .slice none 0 0, .slice none 0 0] 26 (0, 0))) := (Below.refl _ _).alloc (Nat.le_refl _) _
  exact ⟨h.below hb, hsc.move (Moves.below hb fun _ hk _ => hk), Below.toGrown hb _, heap_alloc_new w _, by simp⟩
/-- the node has just been laid. -/
theorem ElS.new {w : World} {b e4 : Nat} {sp l : List UInt8} {av : Value} {ats : List AttrT} {B2 : Nat} (h4 : w.heap[e4]? = some (.cells #[.string ⟨#[]⟩, .string ⟨#[]⟩, .string ⟨#[]⟩, .slice none 0 0, .slice none 0 0] 26 (0, 0))) (ha : AttrsP (B2 ≤ ·) w av ats) (hb : b < e4) (hB : e4 < B2) :
    ElS b e4 w.heap.size (w.alloc (.cells #[.string ⟨#[]⟩, .string ⟨sp.toArray⟩, .string ⟨l.toArray⟩, av, .slice none 0 0] 26 (0, 0))) sp l av (.slice none 0 0) ats [] := by
  have hbl : Below w.heap.size w (w.alloc (.cells #[.string ⟨#[]⟩, .string ⟨sp.toArray⟩, .string ⟨l.toArray⟩, av, .slice none 0 0] 26 (0, 0))) := (Below.refl _ _).alloc (Nat.le_refl _) _
  have h4l := xlt h4
  exact ⟨(hbl.block e4 h4l).trans h4, heap_alloc_new w _, ha.move (Moves.below hbl fun k hk hlt => ⟨by omega, by omega, by omega⟩), TabP.nil _ _ _ _, hb, h4l⟩
end Go.Proofs.YtopogglcnnjdlaaGreatDoor
