/-
  The walks of the laws UriBack and UriDots: they return true. Condition: the package variables hold what the row lists; for UriBack the target is at most a million bytes.
-/
import Derived.Test.YthfdhanhkanhhaaDoorUriN
namespace Go.Proofs.YthfdhanhkanhhaaDoor
open Go.RowKit

theorem text_bad {p : List (List UInt8)} (h : goodS p = false) : textS p = [] := by unfold textS; rw [h]; rfl
theorem good_fits {p : List (List UInt8)} (h : goodS p = true) : Fits p := fun j l hj => by
  have := (seg_facts ((List.all_eq_true.1 (good_facts h).1) l (List.mem_of_getElem? hj))).2.2.2.1
  unfold maxLen; omega
theorem parse_back {p : List (List UInt8)} (h : goodS p = true) (w : World) (hE : Env w) :
    Calls Tryd.prog 12 #[.string ⟨(textS p).toArray⟩] w fun e w' => ∃ v, e = .returned (.tuple #[v, .bool ((p.length : Int) == 0), .int .i64 0]) ∧ Strs w' v p ∧ Below w.heap.size w w' := by
  have := parse_any (textS p) w (Nat.le_trans text_len (by omega)) hE
  unfold Parsed at this
  rw [parse_text h] at this
  rw [show ((p.length : Int) == 0) = decide (p.length = 0) from by rw [Bool.eq_iff_iff]; simp]
  exact this

set_option maxHeartbeats 1000000 in
set_option maxRecDepth 100000 in
set_option linter.unusedSimpArgs false in
theorem law_back (vp : Value) (p : List (List UInt8)) (t : List UInt8) (w : World) (hp : Strs w vp p) (hf : Fits p) (hs : t.length ≤ 1048576) (hE : Env w) :
    Calls Tryd.prog 4 #[vp, .string ⟨t.toArray⟩] w (Ret (.bool true) w) := by
  have Hp := Lib.hid hp
  have HF := Lib.hid hf
  obtain ⟨pa, ca, rfl, -, -, -⟩ := hp
  have HPG := Lib.hid (parse_good t)
  have HPA := Lib.hid (fun w1 hE1 => parse_any t w1 hs hE1)
  unfold Parsed at HPA
  generalize hR : parseS t = R at HPG HPA
  clear hR
  generalize hg : goodS p = g
  have HG := Lib.hid hg
  clear hg hf hs
  obtain ⟨q, d, n⟩ := R
  go_enter Tryd.func4, Tryd.ntmps4
  go_wp2_with fail
  refine (fixed_any w hE).mono ?_
  rintro e w1 ⟨rfl, hb1⟩
  have Hp1 := Lib.hid (Hp.out.below hb1 (Nat.le_refl _))
  have hE1 := hE.below hb1
  go_wp2_with fail
  refine (good_any _ _ _ Hp1.out HF.out hE1).mono ?_
  rw [HG.out]
  rintro e w2 ⟨rfl, hb2⟩
  have Hp2 := Lib.hid (Hp1.out.below hb2 (Nat.le_refl _))
  have hE2 := hE1.below hb2
  have hbb2 := hb1.trans (hb2.mono hb1.size)
  clear hE hE1 hb1 hb2
  cases g
  case' false =>
    go_wp2_with fail
    refine (text_any _ _ _ Hp2.out HF.out hE2).mono ?_
    rw [text_bad HG.out]
    rintro e w5 ⟨rfl, hb5⟩
    have hbb5 := hbb2.trans (hb5.mono hbb2.size)
    have hE5 := hE2.below hb5
    clear hE2 hb5 hbb2
    go_wp2_with fail
  case' true =>
    go_wp2_with fail
    refine (text_any _ _ _ Hp2.out HF.out hE2).mono ?_
    rintro e w3 ⟨rfl, hb3⟩
    have hbb3 := hbb2.trans (hb3.mono hbb2.size)
    have hE3 := hE2.below hb3
    have Hp3 := Lib.hid (Hp2.out.below hb3 (Nat.le_refl _))
    clear hE2 hb3 hbb2
    go_wp2_with fail
    refine (parse_back HG.out _ hE3).mono ?_
    rintro e w4 ⟨v4, rfl, hv4, hb4⟩
    have hbb4 := hbb3.trans (hb4.mono hbb3.size)
    have hE4 := hE3.below hb4
    have Hp4 := Lib.hid (Hp3.out.below hb4 (Nat.le_refl _))
    clear hE3 hb4 hbb3
    go_wp2_with fail
    refine (same_any _ _ _ _ _ hv4 Hp4.out).mono ?_
    rw [decide_eq_true rfl]
    rintro e w5 ⟨rfl, hb5⟩
    have hbb5 := hbb4.trans (hb5.mono hbb4.size)
    have hE5 := hE4.below hb5
    clear hE4 hb5 hbb4
    go_wp2_with fail
  all_goals
    refine (HPA.out _ hE5).mono ?_
    rintro e w6 ⟨v6, rfl, hv6, hb6⟩
    have hbb6 := hbb5.trans (hb6.mono hbb5.size)
    have hE6 := hE5.below hb6
    clear hE5 hb6 hbb5
    have Hv6 := Lib.hid hv6
    obtain ⟨pq, cq, rfl, -, -, -⟩ := hv6
    by_cases hn : n = 0
    · subst hn
      have hgq : goodS q = true := HPG.out.1
      go_wp2_with fail
      refine (text_any _ _ _ Hv6.out (good_fits hgq) hE6).mono ?_
      rintro e w7 ⟨rfl, hb7⟩
      have hbb7 := hbb6.trans (hb7.mono hbb6.size)
      have hE7 := hE6.below hb7
      have Hv7 := Lib.hid (Hv6.out.below hb7 (Nat.le_refl _))
      clear hE6 hb7 hbb6
      go_wp2_with fail
      refine (parse_back hgq _ hE7).mono ?_
      rintro e w8 ⟨v8, rfl, hv8, hb8⟩
      have hbb8 := hbb7.trans (hb8.mono hbb7.size)
      have hE8 := hE7.below hb8
      have Hv8 := Lib.hid (Hv7.out.below hb8 (Nat.le_refl _))
      clear hE7 hb8 hbb7
      go_wp2_with fail
      refine (good_any _ _ _ Hv8.out (good_fits hgq) hE8).mono ?_
      rw [hgq]
      rintro e w9 ⟨rfl, hb9⟩
      have hbb9 := hbb8.trans (hb9.mono hbb8.size)
      have Hv9 := Lib.hid (Hv8.out.below hb9 (Nat.le_refl _))
      have Hw9 := Lib.hid (hv8.below hb9 (Nat.le_refl _))
      clear hE8 hb9 hbb8 hv8
      go_wp2_with fail
      refine (same_any _ _ _ _ _ Hv9.out Hw9.out).mono ?_
      rw [decide_eq_true rfl]
      rintro e w10 ⟨rfl, hb10⟩
      have hbb10 := hbb9.trans (hb10.mono hbb9.size)
      have Hv10 := Lib.hid (Hv9.out.below hb10 (Nat.le_refl _))
      have Hw10 := Lib.hid (Hw9.out.below hb10 (Nat.le_refl _))
      go_wp2_with fail
      refine (within_any _ _ _ _ _ Hv10.out Hw10.out).mono ?_
      rw [within_refl]
      rintro e w11 ⟨rfl, rfl⟩
      go_wp2_with fail
      refine (within_any _ _ _ _ _ Hv10.out (strs_nil _)).mono ?_
      rw [within_nil]
      rintro e w12 ⟨rfl, rfl⟩
      go_wp2
      go_ret
      exact ⟨retb (by simp), hbb10⟩
    · have hq : q = [] := HPG.out.2 hn
      subst hq
      have h1 : (n == 0) = false := by simpa using hn
      have h2 : (n != 0) = true := by simpa using hn
      go_wp2
      go_ret
      exact ⟨retb (by simp), hbb6⟩
theorem parse_arr (A : Array UInt8) (p : List (List UInt8)) (d : Bool) (n : Int) (w : World) (hs : A.size ≤ 1048576) (hE : Env w) (h : parseS A.toList = (p, d, n)) :
    Calls Tryd.prog 12 #[.string ⟨A⟩] w fun e w' => ∃ v, e = .returned (.tuple #[v, .bool d, .int .i64 n]) ∧ Strs w' v p ∧ Below w.heap.size w w' := by
  obtain ⟨l⟩ := A
  exact parse_val l p d n w hs hE h

set_option maxHeartbeats 1000000 in
set_option maxRecDepth 100000 in
set_option linter.unusedSimpArgs false in
theorem law_dots (vp : Value) (p : List (List UInt8)) (x : List UInt8) (w : World) (hp : Strs w vp p) (hf : Fits p) (hs : x.length ≤ maxLen) (hE : Env w) :
    Calls Tryd.prog 5 #[vp, .string ⟨x.toArray⟩] w (Ret (.bool true) w) := by
  have Hp := Lib.hid hp
  have HF := Lib.hid hf
  have HX := Lib.hid hs
  obtain ⟨pa, ca, rfl, -, -, -⟩ := hp
  generalize hg : goodS p = g
  have HG := Lib.hid hg
  clear hg hf hs
  go_enter Tryd.func5, Tryd.ntmps5
  go_wp2_with fail
  refine (fixed_any w hE).mono ?_
  rintro e w1 ⟨rfl, hb1⟩
  have Hp1 := Lib.hid (Hp.out.below hb1 (Nat.le_refl _))
  have hE1 := hE.below hb1
  go_wp2_with fail
  refine (good_any _ _ _ Hp1.out HF.out hE1).mono ?_
  rw [HG.out]
  rintro e w2 ⟨rfl, hb2⟩
  have Hp2 := Lib.hid (Hp1.out.below hb2 (Nat.le_refl _))
  have hE2 := hE1.below hb2
  have hbb2 := hb1.trans (hb2.mono hb1.size)
  clear hE hE1 hb1 hb2
  cases g with
  | false =>
    go_wp2_with fail
    refine (fixed_any _ hE2).mono ?_
    rintro e w3 ⟨rfl, hb3⟩
    go_wp2
    go_ret
    exact ⟨rfl, hbb2.trans (hb3.mono hbb2.size)⟩
  | true =>
    go_wp2_with fail
    have hal : Below w2.heap.size w2 (w2.alloc (.cells (vstrs [x]).toArray 9)) := (Below.refl _ _).alloc (Nat.le_refl _) _
    have h3 := good_any _ [x] _ (strs_lit w2 [x] 1 rfl (by omega)) (fun j l hj => by cases j with
      | zero => simp at hj; subst hj; exact HX.out
      | succ j => simp at hj) (hE2.below hal)
    refine h3.mono ?_
    generalize hgx : goodS [x] = gx
    have HGX := Lib.hid hgx
    clear hgx
    rintro e w3 ⟨rfl, hb3⟩
    have hb23 : Below w2.heap.size w2 w3 := hal.trans (hb3.mono (by simp))
    have Hp3 := Lib.hid (Hp2.out.below hb23 (Nat.le_refl _))
    have hE3 := hE2.below hb23
    have hbb3 := hbb2.trans (hb23.mono hbb2.size)
    clear h3 hal hb23 hb3 hE2 hbb2
    cases gx with
    | false =>
      go_wp2_with fail
      refine (fixed_any _ hE3).mono ?_
      rintro e w4 ⟨rfl, hb4⟩
      go_wp2
      go_ret
      exact ⟨rfl, hbb3.trans (hb4.mono hbb3.size)⟩
    | true =>
      by_cases h11 : p.length > 11
      · go_wp2_with fail
        refine (fixed_any _ hE3).mono ?_
        rintro e w4 ⟨rfl, hb4⟩
        go_wp2
        go_ret
        exact ⟨rfl, hbb3.trans (hb4.mono hbb3.size)⟩
      · have hl11 : p.length ≤ 11 := by omega
        have hgp := HG.out
        have hall := (good_facts hgp).1
        have hxs : segS x = true := by have := (good_facts HGX.out).1; simpa using this
        have hgx : goodS [x] = true := HGX.out
        have HTX := Lib.hid (show textS [x] = formS [x] by unfold textS; rw [hgx, if_pos rfl, if_neg (by simp)])
        have HXL := Lib.hid (show (textS [x]).length ≤ 4000 from text_len)
        rw [HTX.out] at HXL
        have hSL : (formS p).length ≤ 4000 := by
          by_cases h0 : p = []
          · rw [h0]; decide
          · have := text_len (p := p); unfold textS at this; rw [hgp, if_pos rfl, if_neg h0] at this; exact this
        have HDB := Lib.hid (dots_back hall (by omega) hxs)
        have HUP := Lib.hid (ups_out hall)
        generalize hFS : formS p = S at HDB HUP hSL
        generalize hFX : formS [x] = X at HDB HTX HXL
        have hi11 : ((p.length : Int) > 11) = False := by simp; omega
        clear hall hxs hgx hFX h11
        have HS := Lib.hid hSL
        clear hSL
        obtain ⟨SS, hSS⟩ : ∃ SS : List UInt8, SS = S := ⟨_, rfl⟩
        rw [← hSS] at HUP
        have HSS := Lib.hid hSS
        clear hSS
        by_cases h0 : p = []
        case' pos =>
          have hS0 : S = [] := by rw [← hFS, h0]; rfl
          subst hS0
          have HTP := Lib.hid (show textS p = [47] by rw [h0]; decide)
          clear h0 hFS hgp
          go_wp2_with fail
          refine (text_any _ _ _ Hp3.out HF.out hE3).mono ?_
          rw [HTP.out]
          rintro e w4 ⟨rfl, hb4⟩
          have Hp4 := Lib.hid (Hp3.out.below hb4 (Nat.le_refl _))
          have hE4 := hE3.below hb4
          have hbb4 := hbb3.trans (hb4.mono hbb3.size)
          clear hE3 hb4 hbb3
          go_wp2_with fail
        case' neg =>
          have hne : S ≠ [47] := by
            rw [← hFS]
            intro e
            cases p with
            | nil => exact h0 rfl
            | cons a r =>
              rw [form_cons] at e
              have := (seg_facts (show segS a = true from (List.all_eq_true.1 (good_facts hgp).1) a (by simp))).1
              cases a with
              | nil => exact this rfl
              | cons c l => simp [encS, encB] at e; split at e <;> simp at e
          have HTP := Lib.hid (show textS p = S by unfold textS; rw [hgp, if_pos rfl, if_neg h0, hFS])
          have hq1 : (S == [47]) = false := by simpa using hne
          clear h0 hFS hgp hne
          go_wp2_with fail
          refine (text_any _ _ _ Hp3.out HF.out hE3).mono ?_
          rw [HTP.out]
          rintro e w4 ⟨rfl, hb4⟩
          have Hp4 := Lib.hid (Hp3.out.below hb4 (Nat.le_refl _))
          have hE4 := hE3.below hb4
          have hbb4 := hbb3.trans (hb4.mono hbb3.size)
          clear hE3 hb4 hbb3
          go_wp2_with fail
        all_goals
          have hal : Below w4.heap.size w4 (w4.alloc (.cells (vstrs [x]).toArray 9)) := (Below.refl _ _).alloc (Nat.le_refl _) _
          have h5 := text_any _ [x] _ (strs_lit w4 [x] 1 rfl (by omega)) (fun j l hj => by cases j with
            | zero => simp at hj; subst hj; exact HX.out
            | succ j => simp at hj) (hE4.below hal)
          rw [HTX.out] at h5
          refine h5.mono ?_
          rintro e w5 ⟨rfl, hb5⟩
          have hb45 : Below w4.heap.size w4 w5 := hal.trans (hb5.mono (by simp))
          have Hp5 := Lib.hid (Hp4.out.below hb45 (Nat.le_refl _))
          have hE5 := hE4.below hb45
          have hbb5 := hbb4.trans (hb45.mono hbb4.size)
          clear h5 hal hb45 hb5 hE4 hbb4
          have hlen := HXL.out
          have hlen2 := HS.out
          have k1 : ¬ 9223372036854775807 < X.length := by omega
          have k2 : ¬ 9223372036854775807 < X.length + 7 := by omega
          have k3 : ¬ 9223372036854775807 < SS.length + X.length := by rw [HSS.out]; omega
          have k4 : ¬ 9223372036854775807 < SS.length + X.length + 7 := by rw [HSS.out]; omega
          try rw [HSS.out] at k3 k4
          go_wp2_with fail
          have hd := HDB.out
          try simp only [List.nil_append] at hd
          refine (parse_arr _ p true 0 _ ?_ hE5 ?_).mono ?_
          · simp only [List.size_toArray, List.length_append, List.length_cons, List.length_nil]; omega
          · simp only [List.append_assoc]; exact hd
          rintro e w6 ⟨v6, rfl, hv6, hb6⟩
          clear hlen hlen2 k1 k2 k3 k4
          have Hp6 := Lib.hid (Hp5.out.below hb6 (Nat.le_refl _))
          have hE6 := hE5.below hb6
          have hbb6 := hbb5.trans (hb6.mono hbb5.size)
          have Hv6 := Lib.hid hv6
          clear hv6 hb6 hE5 hbb5
          go_wp2_with fail
          go_loopw [9, 10] (fun u i wr => ∃ k : Nat, k ≤ p.length + 1 ∧ i = .int .i64 k ∧ (∃ UU : List UInt8, u = .string ⟨UU.toArray⟩ ∧ Hid (SS ++ ups k = UU)) ∧ wr = w6) (fun _ i _ => p.length + 1 - (intOf i).toNat)
          case atStart => first | exact ⟨0, by omega, rfl, ⟨[], rfl, Lib.hid (by rw [HSS.out]; rfl)⟩, rfl⟩ | exact ⟨0, by omega, rfl, ⟨S, rfl, Lib.hid (by rw [HSS.out]; exact List.append_nil S)⟩, rfl⟩
          case round =>
            obtain ⟨k, hk, rfl, ⟨UU, rfl, HU⟩, rfl⟩ := hrel
            by_cases hkp : k = p.length + 1
            · subst hkp
              go_wp2_with fail
              have hlen := HS.out
              rw [← HSS.out] at hlen
              refine (parse_val UU [] false 20 _ (by rw [← HU.out, List.length_append, ups_len]; omega) hE6 (by rw [← HU.out]; exact HUP.out)).mono ?_
              rintro e w7 ⟨v7, rfl, hv7, hb7⟩
              clear hlen
              have Hp7 := Lib.hid (Hp6.out.below hb7 (Nat.le_refl _))
              have Hv7 := Lib.hid (Hv6.out.below hb7 (Nat.le_refl _))
              have hbb7 := hbb6.trans (hb7.mono hbb6.size)
              go_wp2_with fail
              refine (same_any _ _ _ _ _ Hv7.out Hp7.out).mono ?_
              rw [decide_eq_true rfl]
              rintro e w8 ⟨rfl, hb8⟩
              go_wp2
              go_ret
              exact ⟨retb (by simp), hbb7.trans (hb8.mono hbb7.size)⟩
            · have hkl : k ≤ p.length := by omega
              have hul : UU.length ≤ 4100 := by
                have hlen := HS.out
                rw [← HSS.out] at hlen
                rw [← HU.out, List.length_append, ups_len]
                omega
              have k5 : ¬ 9223372036854775807 < UU.length + 5 := by omega
              go_wp2
              go_roundw
              case rel => exact ⟨k + 1, by omega, by go_num, ⟨UU ++ [47, 37, 50, 101, 46], rfl, Lib.hid (by rw [← HU.out, List.append_assoc, ups_snoc])⟩, by first | rfl | trivial⟩
              case measure => simp [intOf]; omega
end Go.Proofs.YthfdhanhkanhhaaDoor
