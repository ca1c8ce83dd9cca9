/-
  The walk of the reference's Parse. Condition: the target is at most a million bytes.
-/
import Derived.Test.YthfdhanhkanhhaaDoorUriJ
import Derived.Deep.DeepCutAuto
namespace Go.Proofs.YthfdhanhkanhhaaDoor
open Go.RowKit

theorem index_drop (c : UInt8) : ∀ (l : List UInt8) (k : Nat), (∀ (j : Nat) b, j < k → l[j]? = some b → b ≠ c) → k ≤ l.length →
    (l.drop k = [] → Lib.indexByte l c = -1) ∧ (∀ r, l.drop k = c :: r → Lib.indexByte l c = k)
  | [], k, _, hk => by
    obtain rfl : k = 0 := by simpa using hk
    exact ⟨fun _ => rfl, fun r h => by simp at h⟩
  | b :: l, 0, _, _ => by
    refine ⟨fun h => by simp at h, fun r h => ?_⟩
    simp only [List.drop_zero] at h
    injection h with h1 h2
    subst h1
    simp [Lib.indexByte]
  | b :: l, k + 1, hn, hk => by
    have hb : b ≠ c := hn 0 b (by omega) rfl
    have hb' : (b == c) = false := by simpa using hb
    have ih := index_drop c l k (fun j x hj hx => hn (j + 1) x (by omega) (by simpa using hx)) (by simpa using hk)
    refine ⟨fun h => ?_, fun r h => ?_⟩
    · have := ih.1 (by simpa using h)
      simp [Lib.indexByte, hb', this]
    · have := ih.2 r (by simpa using h)
      have h3 : ((k : Int) == -1) = false := by rw [beq_eq_false_iff_ne]; omega
      simp [Lib.indexByte, hb', this, h3]

theorem plain_http (t : List UInt8) (h : t.take 7 = [104, 116, 116, 112, 58, 47, 47]) : plainS t = plainS (t.drop 7) := by
  conv => lhs; rw [← List.take_append_drop 7 t, h]
  rfl
theorem local_none1 {t : List UInt8} (hp : Lib.hasPrefix t [104, 116, 116, 112, 58, 47, 47] = true) (h : t.drop 7 = [] ∨ Lib.indexByte (t.drop 7) 47 = 0) : localS t = none := by
  unfold localS
  rw [if_pos (show httpS.isPrefixOf t = true from hp), if_pos h]
theorem local_minus {t : List UInt8} (hp : Lib.hasPrefix t [104, 116, 116, 112, 58, 47, 47] = true) (h0 : t.drop 7 ≠ []) (h : Lib.indexByte (t.drop 7) 47 = -1) : localS t = if plainS (t.drop 7) then some [47] else none := by
  unfold localS
  rw [if_pos (show httpS.isPrefixOf t = true from hp), if_neg (by rw [h]; intro hh; rcases hh with hh | hh; exact h0 hh; omega), if_pos (by omega)]
theorem local_at {t : List UInt8} (hp : Lib.hasPrefix t [104, 116, 116, 112, 58, 47, 47] = true) (h0 : t.drop 7 ≠ []) (n : Nat) (hn : n ≠ 0) (h : Lib.indexByte (t.drop 7) 47 = n) : localS t = some (t.drop (7 + n)) := by
  unfold localS
  rw [if_pos (show httpS.isPrefixOf t = true from hp), if_neg (by rw [h]; intro hh; rcases hh with hh | hh; exact h0 hh; omega), if_neg (by omega), h, List.drop_drop]
  rfl
theorem local_plain {t : List UInt8} (hp : Lib.hasPrefix t [104, 116, 116, 112, 58, 47, 47] = false) : localS t = some t := by
  unfold localS
  rw [if_neg (by rw [Bool.not_eq_true]; exact hp)]
theorem parse_none {t : List UInt8} (h : localS t = none) : parseS t = ([], false, 20) := by unfold parseS; rw [h]
theorem parse_some {t s : List UInt8} (h : localS t = some s) : parseS t = if plainS s && s.head? == some 47 then goS (piecesS (s.drop 1)) [] false else ([], false, 20) := by unfold parseS; rw [h]
theorem pre_of_take {t : List UInt8} (h : t.take 7 = [104, 116, 116, 112, 58, 47, 47]) : Lib.hasPrefix t [104, 116, 116, 112, 58, 47, 47] = true := by
  unfold Lib.hasPrefix
  rw [List.isPrefixOf_iff_prefix, List.prefix_iff_eq_take]
  exact h.symm
theorem take_of_pre {t : List UInt8} (h : Lib.hasPrefix t [104, 116, 116, 112, 58, 47, 47] = true) : 7 ≤ t.length ∧ t.take 7 = [104, 116, 116, 112, 58, 47, 47] := by
  unfold Lib.hasPrefix at h
  rw [List.isPrefixOf_iff_prefix] at h
  exact ⟨h.length_le, (List.prefix_iff_eq_take.1 h).symm⟩
set_option maxHeartbeats 1000000 in
set_option maxRecDepth 100000 in
set_option linter.unusedSimpArgs false in
theorem rparse_any (t : List UInt8) (w : World) (hs : t.length ≤ 1048576) :
    Calls Tryd.prog 13 #[.string ⟨t.toArray⟩] w (Parsed t w) := by
  have HSM := Lib.hid (show t.length ≤ maxLen by unfold maxLen; omega)
  go_enter Tryd.func13, Tryd.ntmps13
  go_upto_region 1 with (fail)
  go_cut [19] (fun b wc => w = wc ∧ b = .bool (Lib.hasPrefix t [104, 116, 116, 112, 58, 47, 47]))
  case first =>
    cases hp : Lib.hasPrefix t [104, 116, 116, 112, 58, 47, 47] with
    | false =>
      by_cases h7 : 7 ≤ t.length
      · have ht : (List.take 7 t == [104, 116, 116, 112, 58, 47, 47]) = false := by
          rw [beq_eq_false_iff_ne]; intro h; rw [pre_of_take h] at hp; cases hp
        have HP := Lib.hid hp
        clear hp
        go_wp2
        go_meet
        exact ⟨rfl, by rw [HP.out]⟩
      · have HP := Lib.hid hp
        clear hp
        go_wp2
        go_meet
        exact ⟨rfl, by rw [HP.out]⟩
    | true =>
      obtain ⟨h7, ht'⟩ := take_of_pre hp
      have ht : (List.take 7 t == [104, 116, 116, 112, 58, 47, 47]) = true := by rw [ht']; rfl
      have HP := Lib.hid hp
      clear hp ht'
      go_wp2
      go_meet
      exact ⟨rfl, by rw [HP.out]⟩
  case rest =>
  obtain ⟨rfl, rfl⟩ := hcut
  go_upto_if 19 with (fail)
  go_cut [0] (fun s0 wc => w = wc ∧ ∃ s : List UInt8, s0 = .string ⟨s.toArray⟩ ∧ s.length ≤ 1048576 ∧ Hid (localS t = some s))
  case first =>
    cases hp : Lib.hasPrefix t [104, 116, 116, 112, 58, 47, 47] with
    | false =>
      have HL := Lib.hid (local_plain hp)
      clear hp
      go_wp2
      go_meet
      exact ⟨rfl, t, rfl, hs, HL.out⟩
    | true =>
      obtain ⟨h7, ht'⟩ := take_of_pre hp
      have HP := Lib.hid hp
      have HT := Lib.hid ht'
      clear hp ht'
      go_wp2
      go_loop [5] (fun i => ∃ n : Nat, 7 + n ≤ t.length ∧ i = .int .i64 ((7 + n : Nat) : Int) ∧ Hid (∀ (j : Nat) b, j < n → (t.drop 7)[j]? = some b → b ≠ 47)) (fun i => t.length - (intOf i).toNat)
      case atStart => exact ⟨0, by omega, rfl, fun j b h => by omega⟩
      case round =>
        obtain ⟨n, hn, rfl, H⟩ := hrel
        obtain ⟨k, hk⟩ : ∃ k, k = 7 + n := ⟨_, rfl⟩
        rw [← hk] at hn ⊢
        have HK := Lib.hid hk
        have h7k : 7 ≤ k := by omega
        have HI := Lib.hid (index_drop 47 (t.drop 7) n H.out (by rw [List.length_drop]; omega))
        have HDD := Lib.hid (show (t.drop 7).drop n = t.drop k by rw [List.drop_drop, hk])
        clear hk
        rcases hd : t.drop k with _ | ⟨x, r⟩
        · have hkl : k = t.length := by have := drop_nil hd; omega
          have HX := Lib.hid (HI.out.1 (by rw [HDD.out, hd]))
          subst hkl
          clear hd
          by_cases h0 : t.length = 7
          · have HN := Lib.hid (parse_none (local_none1 HP.out (.inl (List.drop_eq_nil_of_le (by omega)))))
            have h0z : ((t.length : Int) == 7) = true := by rw [beq_iff_eq]; omega
            clear h0
            go_wp2
            go_ret3
            exact parsed_err HN.out (Below.refl _ _)
          · have HL := Lib.hid (local_minus HP.out (by intro h; have := List.drop_eq_nil_iff.1 h; omega) HX.out)
            have HPP := Lib.hid (plain_http t HT.out)
            have h0z : ((t.length : Int) == 7) = false := by rw [beq_eq_false_iff_ne]; omega
            clear h0
            cases hpl : plainS t with
            | false =>
              have HN := Lib.hid (show localS t = none by rw [HL.out, ← HPP.out, hpl]; rfl)
              have HPL := Lib.hid hpl
              clear hpl
              go_wp2_with (go_at_call 30; refine (visible_any _ _ HSM.out).mono ?_; rw [HPL.out]; rintro e w' ⟨rfl, rfl⟩)
              go_ret3
              exact parsed_err (parse_none HN.out) (Below.refl _ _)
            | true =>
              have HN := Lib.hid (show localS t = some [47] by rw [HL.out, ← HPP.out, hpl]; rfl)
              have HPL := Lib.hid hpl
              clear hpl
              go_wp2_with (go_at_call 30; refine (visible_any _ _ HSM.out).mono ?_; rw [HPL.out]; rintro e w' ⟨rfl, rfl⟩)
              go_meet
              exact ⟨rfl, [47], rfl, by simp, HN.out⟩
        · obtain ⟨hlt, hb, hr⟩ := drop_cons hd
          have hx := x.toNat_lt
          by_cases hx47 : x = 47
          · subst hx47
            have HX := Lib.hid (HI.out.2 r (by rw [HDD.out, hd]))
            clear hd hr
            by_cases h0 : k = 7
            · have HN := Lib.hid (parse_none (local_none1 HP.out (.inr (by rw [HX.out]; have := HK.out; omega))))
              have h0z : ((k : Int) == 7) = true := by rw [beq_iff_eq]; omega
              clear h0
              go_wp2
              go_ret3
              exact parsed_err HN.out (Below.refl _ _)
            · have HN := Lib.hid (show localS t = some (t.drop k) by
                have hk := HK.out
                rw [hk]
                exact local_at HP.out (by intro h; have := List.drop_eq_nil_iff.1 h; omega) n (by omega) HX.out)
              have h0z : ((k : Int) == 7) = false := by rw [beq_eq_false_iff_ne]; omega
              have h1z : ((k : Int) == (t.length : Int)) = false := by rw [beq_eq_false_iff_ne]; omega
              have h2z : (k == t.length) = false := by rw [beq_eq_false_iff_ne]; omega
              clear h0
              go_wp2
              go_meet
              exact ⟨rfl, t.drop k, rfl, by simp; omega, HN.out⟩
          · have hne : ((x.toNat : Int) != 47) = true := by
              rw [bne_iff_ne]; intro h; exact hx47 (UInt8.toNat_inj.1 (by show x.toNat = 47; omega))
            have HN := Lib.hid (show ∀ (j : Nat) b, j < n + 1 → (t.drop 7)[j]? = some b → b ≠ 47 from fun j b hj hjb => by
              by_cases e : j = n
              · subst e
                have h2 : (t.drop k)[0]? = some x := by rw [hd]; rfl
                rw [← HDD.out, List.getElem?_drop, Nat.add_zero, hjb] at h2
                injection h2 with h2
                subst h2
                exact hx47
              · exact H.out j b (by omega) hjb)
            have HX47 := Lib.hid hx47
            clear hd hr hx47
            go_wp2
            go_round
            case rel => exact ⟨n + 1, by have := HK.out; omega, by have := HK.out; go_num, HN.out⟩
            case measure => simp [intOf]; omega
  case rest =>
    obtain ⟨rfl, s, rfl, hsl, HL⟩ := hcut
    have HP' := parse_some HL.out
    have HSL := Lib.hid (show s.length ≤ maxLen by unfold maxLen; omega)
    clear HL
    cases hpl : plainS s with
    | false =>
      have HP := Lib.hid (show parseS t = ([], false, 20) by rw [HP', hpl]; rfl)
      have HPL := Lib.hid hpl
      clear HP' hpl
      go_wp2_with (go_at_call 30; refine (visible_any _ _ HSL.out).mono ?_; rw [HPL.out]; rintro e w' ⟨rfl, rfl⟩)
      go_ret3
      exact parsed_err HP.out (Below.refl _ _)
    | true =>
      cases s with
      | nil =>
        have HP := Lib.hid (show parseS t = ([], false, 20) by rw [HP', hpl]; rfl)
        have HPL := Lib.hid hpl
        clear HP' hpl
        go_wp2_with (go_at_call 30; refine (visible_any _ _ HSL.out).mono ?_; rw [HPL.out]; rintro e w' ⟨rfl, rfl⟩)
        go_ret3
        exact parsed_err HP.out (Below.refl _ _)
      | cons x r =>
        have hxl := x.toNat_lt
        have hb0 : ∀ h, (⟨(x :: r).toArray⟩ : ByteArray)[0]'h = x := fun _ => rfl
        by_cases hx : x = 47
        · subst hx
          have HP := Lib.hid (show parseS t = goS (piecesS r) [] false by rw [HP', hpl]; rfl)
          have HPL := Lib.hid hpl
          have hrl : r.length ≤ 1048576 := by simp at hsl; omega
          have HRL := Lib.hid hrl
          have hpc : (piecesS r).length ≤ 1048577 := by have := pieces_count r; omega
          have HPLEN := Lib.hid (show ∀ (j : Nat) p, (piecesS r)[j]? = some p → p.length ≤ 1048576 from fun j p h => by
            have := piece_len r p (List.mem_of_getElem? h); omega)
          clear HP' hpl hrl
          go_wp2_with (first
            | (go_at_call 30; refine (visible_any _ _ HSL.out).mono ?_; rw [HPL.out]; rintro e w' ⟨rfl, rfl⟩)
            | (go_at_call 31; refine (pieces_any r _ HRL.out).mono ?_; rintro e w2 ⟨sv, rfl, hsv, hb2⟩; have hsv' := hsv; obtain ⟨sa, sc, rfl, hs1, hs2, -⟩ := hsv'))
          generalize hpcs : piecesS r = pcs at HP hpc HPLEN hsv hs1
          have HSV := Lib.hid hsv
          have hsz := hb2.size
          clear hpcs hsv
          obtain ⟨R, hR⟩ : ∃ R, goS pcs [] false = R := ⟨_, rfl⟩
          rw [hR] at HP
          go_loopw [6, 7, 9, 10, 11] (fun v d i _ _ wr => ∃ k path dd, k ≤ pcs.length ∧ path.length ≤ k ∧ i = .int .i64 (k : Nat) ∧ d = .bool dd ∧ Strs wr v path ∧ Below w2.heap.size w2 wr ∧ Hid (goS (pcs.drop k) path dd = R)) (fun _ _ i _ _ _ => pcs.length - (intOf i).toNat)
          case atStart => exact ⟨0, [], false, Nat.zero_le _, Nat.zero_le _, rfl, rfl, strs_nil _, Below.refl _ _, hR⟩
          case round =>
            obtain ⟨k, path, dd, hk, hpk, rfl, rfl, hOw, hbw2, H⟩ := hrel
            clear hR
            have hbw : Below w.heap.size w wr := hb2.trans (hbw2.mono hsz)
            obtain ⟨sa', sc', hva, _, _, hac⟩ := HSV.out.below hbw2 (Nat.le_refl _)
            injection hva with e1 e2 e3
            subst e1 e3
            clear e2
            have HO := Lib.hid hOw
            have hWB : w2.heap.size ≤ wr.heap.size := hbw2.size
            clear hOw
            obtain ⟨pa, pcap, hpv, hpc1, hpc2⟩ : ∃ pa pcap, u6 = .slice pa path.length pcap ∧ path.length ≤ pcap ∧ pcap ≤ 9223372036854775807 := by
              obtain ⟨A, cap, h, h1, h2, _⟩ := HO.out
              unfold maxLen at h2
              exact ⟨A, cap, h, h1, by omega⟩
            subst hpv
            rcases hd : pcs.drop k with _ | ⟨p, q⟩
            · have hk2 : k = pcs.length := by have := drop_nil hd; omega
              rw [hd] at H
              subst hk2
              clear hd hac
              by_cases h12 : 12 < path.length
              · have HF := Lib.hid (show parseS t = ([], false, 5) by rw [HP.out, ← H.out, goS, if_pos h12])
                go_wp2
                go_ret3
                exact parsed_err HF.out hbw
              · have HF := Lib.hid (show parseS t = (path, dd, 0) by rw [HP.out, ← H.out, goS, if_neg h12])
                go_wp2
                go_ret3
                exact parsed_ok HF.out HO.out hbw
            · obtain ⟨hlt, hp, hq⟩ := drop_consA hd
              obtain ⟨ba, oa, rfl, _, hca⟩ := hac _ _ hp
              have HPL2 := Lib.hid (HPLEN.out _ _ hp)
              rw [hd, goS] at H
              have Hq := Lib.hid hq
              clear hd hp hq hac
              have H' := H.out
              have hsay : ∀ wx e wy, Say p wx e wy → Ret (.tuple #[.string ⟨(sayS p).1.toArray⟩, .bool (sayS p).2]) wx e wy := fun _ _ _ h => h
              generalize sayS p = xo at H' hsay
              obtain ⟨x, ok⟩ := xo
              have H := Lib.hid H'
              have HSAY := Lib.hid hsay
              clear H' hsay
              simp only at H HSAY
              have H' := H.out
              cases ok with
              | false =>
                have HF := Lib.hid (show parseS t = ([], false, 20) by rw [HP.out, ← H', if_pos rfl])
                clear H'
                go_wp2_with (go_at_call 32; refine (says_any p _ HPL2.out).mono ?_; rintro e w3 hsy; obtain ⟨rfl, hb3⟩ := HSAY.out _ _ _ hsy; clear hsy; have HB3 := Lib.hid hb3; have HO3 := Lib.hid (HO.out.below hb3 (Nat.le_refl _)); have HBT := Lib.hid (hbw.trans (hb3.mono hbw.size)); have HBT2 := Lib.hid (hbw2.trans (hb3.mono hWB)))
                go_ret3
                exact parsed_err HF.out HBT.out
              | true =>
                rw [if_neg (by decide)] at H'
                by_cases h64 : 64 < x.length
                · have HF := Lib.hid (show parseS t = ([], false, 5) by rw [HP.out, ← H', if_pos h64])
                  clear H'
                  go_wp2_with (go_at_call 32; refine (says_any p _ HPL2.out).mono ?_; rintro e w3 hsy; obtain ⟨rfl, hb3⟩ := HSAY.out _ _ _ hsy; clear hsy; have HB3 := Lib.hid hb3; have HO3 := Lib.hid (HO.out.below hb3 (Nat.le_refl _)); have HBT := Lib.hid (hbw.trans (hb3.mono hbw.size)); have HBT2 := Lib.hid (hbw2.trans (hb3.mono hWB)))
                  go_ret3
                  exact parsed_err HF.out HBT.out
                · rw [if_neg h64] at H'
                  by_cases hdd : x = [46, 46]
                  · subst hdd
                    rw [if_pos rfl] at H'
                    by_cases hp0 : path = []
                    · have HF := Lib.hid (show parseS t = ([], false, 20) by rw [HP.out, ← H', if_pos hp0])
                      have hz : ((path.length : Int) == 0) = true := by rw [hp0]; rfl
                      clear H' hp0
                      go_wp2_with (go_at_call 32; refine (says_any p _ HPL2.out).mono ?_; rintro e w3 hsy; obtain ⟨rfl, hb3⟩ := HSAY.out _ _ _ hsy; clear hsy; have HB3 := Lib.hid hb3; have HO3 := Lib.hid (HO.out.below hb3 (Nat.le_refl _)); have HBT := Lib.hid (hbw.trans (hb3.mono hbw.size)); have HBT2 := Lib.hid (hbw2.trans (hb3.mono hWB)))
                      go_ret3
                      exact parsed_err HF.out HBT.out
                    · rw [if_neg hp0] at H'
                      obtain ⟨m, hm⟩ : ∃ m, path.length = m + 1 := ⟨path.length - 1, by have := List.length_pos_iff.2 hp0; omega⟩
                      have HF := Lib.hid H'
                      have HM := Lib.hid hm
                      have hz : ((path.length : Int) == 0) = false := by rw [beq_eq_false_iff_ne]; omega
                      have hm1 : 1 ≤ path.length := by omega
                      clear H' hp0 hm
                      go_wp2_with (go_at_call 32; refine (says_any p _ HPL2.out).mono ?_; rintro e w3 hsy; obtain ⟨rfl, hb3⟩ := HSAY.out _ _ _ hsy; clear hsy; have HB3 := Lib.hid hb3; have HO3 := Lib.hid (HO.out.below hb3 (Nat.le_refl _)); have HBT := Lib.hid (hbw.trans (hb3.mono hbw.size)); have HBT2 := Lib.hid (hbw2.trans (hb3.mono hWB)))
                      go_roundw
                      case rel =>
                        have hm2 := HM.out
                        refine ⟨k + 1, path.dropLast, true, by omega, by rw [List.length_dropLast]; omega, by go_num, rfl, ?_, HBT2.out, by rw [Hq.out]; exact HF.out⟩
                        rw [List.dropLast_eq_take]
                        exact HO3.out.take (by omega)
                      case measure => simp [intOf]; omega
                  · rw [if_neg hdd] at H'
                    have n3 : (x == [46, 46]) = false := by simpa using hdd
                    by_cases hz : x = [] ∨ x = [46]
                    · rw [if_pos hz] at H'
                      have HF := Lib.hid H'
                      clear H' hdd
                      rcases hz with rfl | rfl
                      all_goals
                        go_wp2_with (go_at_call 32; refine (says_any p _ HPL2.out).mono ?_; rintro e w3 hsy; obtain ⟨rfl, hb3⟩ := HSAY.out _ _ _ hsy; clear hsy; have HB3 := Lib.hid hb3; have HO3 := Lib.hid (HO.out.below hb3 (Nat.le_refl _)); have HBT := Lib.hid (hbw.trans (hb3.mono hbw.size)); have HBT2 := Lib.hid (hbw2.trans (hb3.mono hWB)))
                        go_roundw
                        case rel => exact ⟨k + 1, path, true, by omega, by omega, by go_num, rfl, HO3.out, HBT2.out, by rw [Hq.out]; exact HF.out⟩
                        case measure => simp [intOf]; omega
                    · rw [if_neg hz] at H'
                      have HF := Lib.hid H'
                      have n1 : x.isEmpty = false := by cases x with
                        | nil => exact absurd (.inl rfl) hz
                        | cons _ _ => rfl
                      have n2 : (x == [46]) = false := by
                        rw [beq_eq_false_iff_ne]; exact fun h => hz (.inr h)
                      have HBD1 := Lib.hid (show (([] : List Value).length + (vstrs path).length) * 16 ≤ 140737488355328 by rw [vstrs_len]; simp; omega)
                      have HBD := Lib.hid (show ((vstrs path).length + 1) * 16 ≤ 140737488355328 by rw [vstrs_len]; omega)
                      clear H' hdd hz
                      go_wp2_with (first
                        | (go_at_call 32; refine (says_any p _ HPL2.out).mono ?_; rintro e w3 hsy; obtain ⟨rfl, hb3⟩ := HSAY.out _ _ _ hsy; clear hsy; have HB3 := Lib.hid hb3; have HO3 := Lib.hid (HO.out.below hb3 (Nat.le_refl _)); have HBT := Lib.hid (hbw.trans (hb3.mono hbw.size)); have HBT2 := Lib.hid (hbw2.trans (hb3.mono hWB)))
                        | (at_builtin; refine wpList_app elemS rfl (.tmp 101) (.tmp 102) rfl w3.heap.size [] (vstrs path) (.slice (some ⟨w3.heap.size, 0, none⟩) 0 0) (.slice pa path.length pcap) rfl (Own.made 9 w3 #[] (Nat.le_refl _) (Nat.zero_le _)) rfl (rd_of_strs (HO3.out.alloc _)) (vstrs_one _) HBD1.out (by simp) ?_; intro v4 w4 hown4 hb4 hg4; have hWB4 : w3.heap.size ≤ w4.heap.size := Nat.le_trans (by simp) hb4.size; have HOW4 := Lib.hid hown4; have HB4 := Lib.hid hb4; clear hown4 hb4 hg4)
                        | (at_builtin; refine wpList_appLit elemS rfl (.tmp 103) (.tmp 105) rfl w3.heap.size (vstrs path) #[.string ⟨x.toArray⟩] v4 rfl HOW4.out 1 rfl rfl (one1s _) HBD.out hWB4 ?_; intro v5 w5 hown5 hb5 hg5))
                      go_roundw
                      case rel =>
                        have hb35 : Below w3.heap.size w3 w5 := (((Below.refl w3.heap.size w3).alloc (Nat.le_refl _) _).trans HB4.out).trans hb5
                        refine ⟨k + 1, path ++ [x], false, by omega, by simp; omega, by go_num, rfl, ?_, HBT2.out.trans (hb35.mono (Nat.le_trans hWB HB3.out.size)), by rw [Hq.out]; exact HF.out⟩
                        apply strs_of_rd
                        rw [vstrs_app]
                        exact hown5.rd
                      case measure => simp [intOf]; omega
        · have hne : (x :: r).head? ≠ some 47 := by simpa using hx
          have HP := Lib.hid (show parseS t = ([], false, 20) by rw [HP', hpl]; simp [hx])
          have HPL := Lib.hid hpl
          have hne2 : ((x.toNat : Int) != 47) = true := by
            rw [bne_iff_ne]; intro h; exact hx (UInt8.toNat_inj.1 (by show x.toNat = 47; omega))
          clear HP' hpl hne
          go_wp2_with (go_at_call 30; refine (visible_any _ _ HSL.out).mono ?_; rw [HPL.out]; rintro e w' ⟨rfl, rfl⟩)
          go_ret3
          exact parsed_err HP.out (Below.refl _ _)
end Go.Proofs.YthfdhanhkanhhaaDoor
