/-
  The walk of uri.Parse. Condition: the target is at most a million bytes.
-/
import Derived.Test.YthfdhanhkanhhaaDoorUriI
namespace Go.Proofs.YthfdhanhkanhhaaDoor
open Go.RowKit

theorem piece_len : ∀ (l : List UInt8) (p : List UInt8), p ∈ piecesS l → p.length ≤ l.length
  | [], p, h => by simp [piecesS] at h; simp [h]
  | x :: r, p, h => by
    unfold piecesS at h
    split at h
    · rcases List.mem_cons.1 h with h | h
      · simp [h]
      · have := piece_len r p h; simp; omega
    · split at h
      · rename_i a t he
        rcases List.mem_cons.1 h with h | h
        · have := piece_len r a (by rw [he]; simp); subst h; simp; omega
        · have := piece_len r p (by rw [he]; simp [h]); simp; omega
      · rename_i he
        exact absurd he (piecesS_ne r)
theorem pieces_count : ∀ l : List UInt8, (piecesS l).length ≤ l.length + 1
  | [] => by simp [piecesS]
  | x :: r => by
    have ih := pieces_count r
    unfold piecesS
    split
    · simp; omega
    · split
      · rename_i he; rw [he] at ih; simp at ih ⊢; omega
      · simp
/-- what Parse hands back. -/
def Parsed (t : List UInt8) (w : World) (e : Ending) (w' : World) : Prop :=
  ∃ v, e = .returned (.tuple #[v, .bool (parseS t).2.1, .int .i64 (parseS t).2.2]) ∧ Strs w' v (parseS t).1 ∧ Below w.heap.size w w'
theorem strs_nil (w : World) : Strs w (.slice none 0 0) [] := ⟨none, 0, rfl, Nat.le_refl _, by unfold maxLen; omega, fun j l h => by simp at h⟩
theorem parsed_err {t : List UInt8} {w w' : World} {n : Int} (h : parseS t = ([], false, n)) (hb : Below w.heap.size w w') : Parsed t w (.returned (.tuple #[.slice none 0 0, .bool false, .int .i64 n])) w' :=
  ⟨.slice none 0 0, by rw [h], by rw [h]; exact strs_nil _, hb⟩
theorem parsed_ok {t : List UInt8} {w w' : World} {p : List (List UInt8)} {d : Bool} {v : Value} (h : parseS t = (p, d, 0)) (hv : Strs w' v p) (hb : Below w.heap.size w w') : Parsed t w (.returned (.tuple #[v, .bool d, .int .i64 0])) w' :=
  ⟨v, by rw [h], by rw [h]; exact hv, hb⟩

set_option maxHeartbeats 1000000 in
set_option maxRecDepth 100000 in
set_option linter.unusedSimpArgs false in
theorem parse_any (t : List UInt8) (w : World) (hs : t.length ≤ 1048576) (hE : Env w) :
    Calls Tryd.prog 12 #[.string ⟨t.toArray⟩] w (Parsed t w) := by
  have hsm : t.length ≤ maxLen := by unfold maxLen; omega
  have HSM := Lib.hid hsm
  have HPS := Lib.hid (show parseS t = match localS t with
    | none => ([], false, 20)
    | some s => if plainS s && s.head? == some 47 then goS (piecesS (s.drop 1)) [] false else ([], false, 20) from rfl)
  have hLen : ∀ s, localS t = some s → s.length ≤ 1048576 := by
    intro s h
    unfold localS at h
    split at h
    · split at h
      · cases h
      · split at h
        · split at h
          · injection h with h; subst h; simp
          · cases h
        · injection h with h; subst h; simp; omega
    · injection h with h; subst h; exact hs
  have HLEN := Lib.hid hLen
  clear hsm hLen
  go_enter Tryd.func12, Tryd.ntmps12
  go_wp2_with fail
  refine (local_any t _ HSM.out).mono ?_
  rintro e w1 ⟨s, ok, rfl, hn, hy, rfl⟩
  have HPS' := HPS.out
  cases hloc : localS t with
  | none =>
    obtain rfl := hn hloc
    rw [hloc] at HPS'
    have HP := Lib.hid HPS'
    clear hn hy HPS' hloc
    go_wp2
    go_ret3
    exact parsed_err HP.out (Below.refl _ _)
  | some s' =>
    obtain ⟨rfl, rfl⟩ := hy s' hloc
    have hsl := HLEN.out s hloc
    rw [hloc] at HPS'
    have HP := Lib.hid HPS'
    have HSL := Lib.hid (show s.length ≤ maxLen by unfold maxLen; omega)
    clear hn hy HPS' hloc
    simp only at HP
    have HP' := HP.out
    cases hpl : plainS s with
    | false =>
      rw [hpl] at HP'
      have HP := Lib.hid HP'
      have HPL := Lib.hid hpl
      clear HP' hpl
      go_wp2_with (go_at_call 26; refine (plain_any _ _ HSL.out).mono ?_; rw [HPL.out]; rintro e w' ⟨rfl, rfl⟩)
      go_ret3
      exact parsed_err HP.out (Below.refl _ _)
    | true =>
      cases s with
      | nil =>
        rw [hpl] at HP'
        have HP := Lib.hid HP'
        have HPL := Lib.hid hpl
        clear HP' hpl
        go_wp2_with (first
          | (go_at_call 26; refine (plain_any _ _ HSL.out).mono ?_; rw [HPL.out]; rintro e w' ⟨rfl, rfl⟩)
          | (go_at_call 27; refine (Tryd.strings_HasPrefix _ _ _).mono ?_; rintro e w' ⟨rfl, hw⟩; obtain rfl := hw.symm))
        go_ret3
        exact parsed_err HP.out (Below.refl _ _)
      | cons x r =>
        by_cases hx : x = 47
        · subst hx
          have HP := Lib.hid (show parseS t = goS (piecesS r) [] false by rw [HP', hpl]; rfl)
          have HPL := Lib.hid hpl
          have hrl : r.length ≤ 1048576 := by simp at hsl; omega
          have HRL := Lib.hid hrl
          have hpx : Lib.hasPrefix (47 :: r) [47] = true := by simp [Lib.hasPrefix, List.isPrefixOf]
          have HPX := Lib.hid hpx
          have hpc : (piecesS r).length ≤ 1048577 := by have := pieces_count r; omega
          have HPLEN := Lib.hid (show ∀ (j : Nat) p, (piecesS r)[j]? = some p → p.length ≤ 1048576 from fun j p h => by
            have := piece_len r p (List.mem_of_getElem? h); omega)
          clear HP' hpl hpx hsl hrl
          go_wp2_with (first
            | (go_at_call 26; refine (plain_any _ _ HSL.out).mono ?_; rw [HPL.out]; rintro e w' ⟨rfl, rfl⟩)
            | (go_at_call 27; refine (Tryd.strings_HasPrefix _ _ _).mono ?_; rw [show Lib.hasPrefix (⟨(47 :: r).toArray⟩ : ByteArray).data.toList (⟨#[47]⟩ : ByteArray).data.toList = true from HPX.out]; rintro e w' ⟨rfl, hw⟩; obtain rfl := hw.symm)
            | (go_at_call 28; refine (split_any r _ HRL.out hE).mono ?_; rintro e w2 ⟨sv, rfl, hsv, hb2⟩; have hsv' := hsv; obtain ⟨sa, sc, rfl, hs1, hs2, -⟩ := hsv'))
          generalize hpcs : piecesS r = pcs at HP hpc HPLEN hsv hs1
          have HSV := Lib.hid hsv
          have hsz := hb2.size
          clear hpcs hsv
          obtain ⟨R, hR⟩ : ∃ R, goS pcs [] false = R := ⟨_, rfl⟩
          rw [hR] at HP
          go_loopw [7, 8, 10, 11, 12, 34] (fun v d _ _ _ i wr => ∃ k path dd, k ≤ pcs.length ∧ path.length ≤ k ∧ i = .int .i64 (k : Nat) ∧ d = .bool dd ∧ Own 9 w2.heap.size (vstrs path) v wr ∧ Below w2.heap.size w2 wr ∧ Hid (goS (pcs.drop k) path dd = R)) (fun _ _ _ _ _ i _ => pcs.length - (intOf i).toNat)
          case atStart => exact ⟨0, [], false, Nat.zero_le _, Nat.zero_le _, rfl, rfl, Own.nil _ _ _, Below.refl _ _, hR⟩
          case round =>
            obtain ⟨k, path, dd, hk, hpk, rfl, rfl, hOw, hbw2, H⟩ := hrel
            clear hR
            have hbw : Below w.heap.size w wr := hb2.trans (hbw2.mono hsz)
            obtain ⟨sa', sc', hva, _, _, hac⟩ := HSV.out.below hbw2 (Nat.le_refl _)
            injection hva with e1 e2 e3
            subst e1 e3
            clear e2
            have hEr := hE.below hbw
            have HO := Lib.hid hOw
            have hWB : w2.heap.size ≤ wr.heap.size := hbw2.size
            clear hOw
            have hlen0 : (vstrs path).length = path.length := vstrs_len path
            have HVL := Lib.hid hlen0
            clear hlen0
            obtain ⟨pa, pcap, hpv, hpc1, hpc2⟩ : ∃ pa pcap, u7 = .slice pa path.length pcap ∧ path.length ≤ pcap ∧ pcap ≤ 9223372036854775807 := by
              obtain ⟨A, cap, h, h1, h2, _⟩ := HO.out.rd
              rw [HVL.out] at h h1
              unfold maxLen at h2
              exact ⟨A, cap, h, h1, by omega⟩
            subst hpv
            rcases hd : pcs.drop k with _ | ⟨p, q⟩
            · have hk2 : k = pcs.length := by have := drop_nil hd; omega
              rw [hd] at H
              subst hk2
              clear hd hac
              by_cases h12 : 12 < path.length
              · have HF := Lib.hid (show parseS t = ([], false, 5) by rw [HP.out, ← H.out, goS, if_pos h12])
                go_wp2
                go_ret3
                exact parsed_err HF.out hbw
              · have HF := Lib.hid (show parseS t = (path, dd, 0) by rw [HP.out, ← H.out, goS, if_neg h12])
                go_wp2
                go_ret3
                exact parsed_ok HF.out (strs_of_rd HO.out.rd) hbw
            · obtain ⟨hlt, hp, hq⟩ := drop_consA hd
              obtain ⟨ba, oa, rfl, _, hca⟩ := hac _ _ hp
              have HPL2 := Lib.hid (HPLEN.out _ _ hp)
              rw [hd, goS] at H
              have Hq := Lib.hid hq
              clear hd hp hq hac
              have H' := H.out
              have hsay : ∀ wx e wy, Say p wx e wy → Ret (.tuple #[.string ⟨(sayS p).1.toArray⟩, .bool (sayS p).2]) wx e wy := fun _ _ _ h => h
              generalize sayS p = xo at H' hsay
              obtain ⟨x, ok⟩ := xo
              have H := Lib.hid H'
              have HSAY := Lib.hid hsay
              clear H' hsay
              simp only at H HSAY
              have H' := H.out
              cases ok with
              | false =>
                have HF := Lib.hid (show parseS t = ([], false, 20) by rw [HP.out, ← H', if_pos rfl])
                clear H'
                go_wp2_with (go_at_call 29; refine (decode_any p _ HPL2.out hEr).mono ?_; rintro e w3 hsy; obtain ⟨rfl, hb3⟩ := HSAY.out _ _ _ hsy; clear hsy; have HB3 := Lib.hid hb3; have HO3 := Lib.hid (HO.out.below hb3); have hWB3 := Nat.le_trans hWB hb3.size; have HBT := Lib.hid (hbw.trans (hb3.mono hbw.size)); have HBT2 := Lib.hid (hbw2.trans (hb3.mono hWB)))
                go_ret3
                exact parsed_err HF.out HBT.out
              | true =>
                rw [if_neg (by decide)] at H'
                by_cases h64 : 64 < x.length
                · have HF := Lib.hid (show parseS t = ([], false, 5) by rw [HP.out, ← H', if_pos h64])
                  clear H'
                  go_wp2_with (go_at_call 29; refine (decode_any p _ HPL2.out hEr).mono ?_; rintro e w3 hsy; obtain ⟨rfl, hb3⟩ := HSAY.out _ _ _ hsy; clear hsy; have HB3 := Lib.hid hb3; have HO3 := Lib.hid (HO.out.below hb3); have hWB3 := Nat.le_trans hWB hb3.size; have HBT := Lib.hid (hbw.trans (hb3.mono hbw.size)); have HBT2 := Lib.hid (hbw2.trans (hb3.mono hWB)))
                  go_ret3
                  exact parsed_err HF.out HBT.out
                · rw [if_neg h64] at H'
                  by_cases hdd : x = [46, 46]
                  · subst hdd
                    rw [if_pos rfl] at H'
                    by_cases hp0 : path = []
                    · have HF := Lib.hid (show parseS t = ([], false, 20) by rw [HP.out, ← H', if_pos hp0])
                      have hz : ((path.length : Int) == 0) = true := by rw [hp0]; rfl
                      clear H' hp0
                      go_wp2_with (go_at_call 29; refine (decode_any p _ HPL2.out hEr).mono ?_; rintro e w3 hsy; obtain ⟨rfl, hb3⟩ := HSAY.out _ _ _ hsy; clear hsy; have HB3 := Lib.hid hb3; have HO3 := Lib.hid (HO.out.below hb3); have hWB3 := Nat.le_trans hWB hb3.size; have HBT := Lib.hid (hbw.trans (hb3.mono hbw.size)); have HBT2 := Lib.hid (hbw2.trans (hb3.mono hWB)))
                      go_ret3
                      exact parsed_err HF.out HBT.out
                    · rw [if_neg hp0] at H'
                      obtain ⟨m, hm⟩ : ∃ m, path.length = m + 1 := ⟨path.length - 1, by have := List.length_pos_iff.2 hp0; omega⟩
                      have HF := Lib.hid H'
                      have HV0 := Lib.hid (show vstrs path ≠ [] by intro h; apply hp0; exact List.map_eq_nil_iff.1 h)
                      have HM := Lib.hid hm
                      have hz : ((path.length : Int) == 0) = false := by rw [beq_eq_false_iff_ne]; omega
                      have hm1 : 1 ≤ path.length := by omega
                      clear H' hp0 hm
                      go_wp2_with (go_at_call 29; refine (decode_any p _ HPL2.out hEr).mono ?_; rintro e w3 hsy; obtain ⟨rfl, hb3⟩ := HSAY.out _ _ _ hsy; clear hsy; have HB3 := Lib.hid hb3; have HO3 := Lib.hid (HO.out.below hb3); have hWB3 := Nat.le_trans hWB hb3.size; have HBT := Lib.hid (hbw.trans (hb3.mono hbw.size)); have HBT2 := Lib.hid (hbw2.trans (hb3.mono hWB)))
                      go_roundw
                      case rel =>
                        have hm2 := HM.out
                        have hmn : ((path.length : Int) - 1).toNat = m := by omega
                        refine ⟨k + 1, path.dropLast, true, by omega, by rw [List.length_dropLast]; omega, by go_num, rfl, ?_, HBT2.out, by rw [Hq.out]; exact HF.out⟩
                        have hdl : vstrs path.dropLast = (vstrs path).take (path.length - 1) := by
                          unfold vstrs
                          rw [List.dropLast_eq_take, List.map_take]
                        rw [hdl]
                        exact HO3.out.pop (path.length - 1) (by rw [HVL.out]; omega) HV0.out
                      case measure => simp [intOf]; omega
                  · rw [if_neg hdd] at H'
                    have n3 : (x == [46, 46]) = false := by simpa using hdd
                    by_cases hz : x = [] ∨ x = [46]
                    · rw [if_pos hz] at H'
                      have HF := Lib.hid H'
                      clear H' hdd
                      rcases hz with rfl | rfl
                      all_goals
                        go_wp2_with (go_at_call 29; refine (decode_any p _ HPL2.out hEr).mono ?_; rintro e w3 hsy; obtain ⟨rfl, hb3⟩ := HSAY.out _ _ _ hsy; clear hsy; have HB3 := Lib.hid hb3; have HO3 := Lib.hid (HO.out.below hb3); have hWB3 := Nat.le_trans hWB hb3.size; have HBT := Lib.hid (hbw.trans (hb3.mono hbw.size)); have HBT2 := Lib.hid (hbw2.trans (hb3.mono hWB)))
                        go_roundw
                        case rel => exact ⟨k + 1, path, true, by omega, by omega, by go_num, rfl, HO3.out, HBT2.out, by rw [Hq.out]; exact HF.out⟩
                        case measure => simp [intOf]; omega
                    · rw [if_neg hz] at H'
                      have HF := Lib.hid H'
                      have n1 : x.isEmpty = false := by cases x with
                        | nil => exact absurd (.inl rfl) hz
                        | cons _ _ => rfl
                      have n2 : (x == [46]) = false := by
                        rw [beq_eq_false_iff_ne]; exact fun h => hz (.inr h)
                      have HBD := Lib.hid (show ((vstrs path).length + 1) * 16 ≤ 140737488355328 by rw [HVL.out]; omega)
                      clear H' hdd hz
                      go_wp2_with (first
                        | (go_at_call 29; refine (decode_any p _ HPL2.out hEr).mono ?_; rintro e w3 hsy; obtain ⟨rfl, hb3⟩ := HSAY.out _ _ _ hsy; clear hsy; have HB3 := Lib.hid hb3; have HO3 := Lib.hid (HO.out.below hb3); have hWB3 := Nat.le_trans hWB hb3.size; have HBT := Lib.hid (hbw.trans (hb3.mono hbw.size)); have HBT2 := Lib.hid (hbw2.trans (hb3.mono hWB)))
                        | (at_builtin; refine wpList_appLit elemS rfl (.tmp 49) (.tmp 51) rfl w2.heap.size (vstrs path) #[.string ⟨x.toArray⟩] (.slice pa path.length pcap) rfl HO3.out 1 rfl rfl (one1s _) HBD.out hWB3 ?_; intro v' w4 hown' hb4 hg4))
                      go_roundw
                      case rel => exact ⟨k + 1, path ++ [x], false, by omega, by simp; omega, by go_num, rfl, by rw [vstrs_app]; exact hown', HBT2.out.trans hb4, by rw [Hq.out]; exact HF.out⟩
                      case measure => simp [intOf]; omega
        · have hne : (x :: r).head? ≠ some 47 := by simpa using hx
          have HP := Lib.hid (show parseS t = ([], false, 20) by rw [HP', hpl]; simp [hx])
          have HPL := Lib.hid hpl
          have HPX := Lib.hid (show Lib.hasPrefix (x :: r) [47] = false by simp [Lib.hasPrefix, List.isPrefixOf]; exact fun h => hx h.symm)
          clear HP' hpl hne
          go_wp2_with (first
            | (go_at_call 26; refine (plain_any _ _ HSL.out).mono ?_; rw [HPL.out]; rintro e w' ⟨rfl, rfl⟩)
            | (go_at_call 27; refine (Tryd.strings_HasPrefix _ _ _).mono ?_; rw [show Lib.hasPrefix (⟨(x :: r).toArray⟩ : ByteArray).data.toList (⟨#[47]⟩ : ByteArray).data.toList = false from HPX.out]; rintro e w' ⟨rfl, hw⟩; obtain rfl := hw.symm))
          go_ret3
          exact parsed_err HP.out (Below.refl _ _)
end Go.Proofs.YthfdhanhkanhhaaDoor
