/-
  The walk of the reference's Text. Condition: each text is no longer than an int can say.
-/
import Derived.Test.YtilmgfkpgkpmeaaDoorUriK
import Derived.Deep.RegionLaw
namespace Go.Proofs.YtilmgfkpgkpmeaaDoor
open Go.RowKit

theorem hexU_get (k : Nat) (h : k < 16) : ∀ h', (⟨#[48, 49, 50, 51, 52, 53, 54, 55, 56, 57, 65, 66, 67, 68, 69, 70]⟩ : ByteArray)[k]'h' = hexU k := by
  intro h'
  match k, h with
  | 0, _ | 1, _ | 2, _ | 3, _ | 4, _ | 5, _ | 6, _ | 7, _ | 8, _ | 9, _ | 10, _ | 11, _ | 12, _ | 13, _ | 14, _ | 15, _ => rfl
  | k + 16, h => omega
theorem bare_cases {c : Int} (h : bareB c = true) : (97 ≤ c ∧ c ≤ 122) ∨ (65 ≤ c ∧ c ≤ 90) ∨ (48 ≤ c ∧ c ≤ 57) ∨ c = 45 ∨ c = 46 ∨ c = 95 ∨ c = 126 := by
  unfold bareB at h; simpa using h
theorem form_ne {p : List (List UInt8)} (h : p ≠ []) : formS p ≠ [] := by
  cases p with
  | nil => exact absurd rfl h
  | cons a r => simp [formS]

set_option maxHeartbeats 1000000 in
set_option maxRecDepth 100000 in
theorem rtext_any (v : Value) (p : List (List UInt8)) (w : World) (hp : Strs w v p) (hf : Fits p) :
    Calls Tryd.prog 16 #[v] w (Ret (.string ⟨(textS p).toArray⟩) w) := by
  have Hp := Lib.hid hp
  have HF := Lib.hid hf
  obtain ⟨pa, ca, rfl, ha1, ha2, -⟩ := hp
  unfold maxLen at ha2
  cases hg : goodS p with
  | false =>
    have HG := Lib.hid hg
    have HT := Lib.hid (show textS p = [] by unfold textS; rw [hg]; rfl)
    clear hg hf
    go_enter Tryd.func16, Tryd.ntmps16
    go_wp2_with (go_at_call 14; refine (rgood_any _ _ _ Hp.out HF.out).mono ?_; rw [HG.out]; rintro e w1 ⟨rfl, rfl⟩)
    go_ret
    exact ⟨rets HT.out.symm, Below.refl _ _⟩
  | true =>
    have HG := Lib.hid hg
    have hl12 : p.length ≤ 12 := by unfold goodS at hg; simp at hg; exact hg.2
    have h64 : ∀ (j : Nat) l, p[j]? = some l → l.length ≤ 64 := fun j l hj => by
      unfold goodS at hg
      rw [Bool.and_eq_true, List.all_eq_true] at hg
      have := hg.1 l (List.mem_of_getElem? hj)
      unfold segS at this
      simp at this
      omega
    have H64 := Lib.hid h64
    have HT := Lib.hid (show textS p = if p = [] then [47] else formS p by unfold textS; rw [hg, if_pos rfl])
    have HNE := Lib.hid (fun h : p ≠ [] => form_ne h)
    have HEM := Lib.hid (show p = [] → formS p = [] from fun h => by rw [h]; rfl)
    clear hg hf h64
    obtain ⟨F, hF⟩ : ∃ F, formS p = F := ⟨_, rfl⟩
    rw [hF] at HT HNE HEM
    go_enter Tryd.func16, Tryd.ntmps16
    go_wp2_with (go_at_call 14; refine (rgood_any _ _ _ Hp.out HF.out).mono ?_; rw [HG.out]; rintro e w1 ⟨rfl, rfl⟩)
    go_loopw [3, 4, 5, 6] (fun v i _ _ wr => ∃ k acc, k ≤ p.length ∧ acc.length ≤ 200 * k ∧ i = .int .i64 (k : Nat) ∧ Own 5 w.heap.size (vbytes acc) v wr ∧ Below w.heap.size w wr ∧ Hid (acc ++ formS (p.drop k) = F)) (fun _ i _ _ _ => p.length - (intOf i).toNat)
    case atStart => exact ⟨0, [], Nat.zero_le _, Nat.zero_le _, rfl, Own.nil _ _ _, Below.refl _ _, hF⟩
    case round =>
      obtain ⟨k, acc, hk, hak, rfl, hOw, hbw, H⟩ := hrel
      clear hF
      obtain ⟨pa', ca', hva, _, _, hac⟩ := Hp.out.below hbw (Nat.le_refl _)
      injection hva with e1 e2 e3
      subst e1 e3
      clear e2
      have HO := Lib.hid hOw
      have hWB : w.heap.size ≤ wr.heap.size := hbw.size
      clear hOw
      rcases hd : p.drop k with _ | ⟨x, r⟩
      · have hk2 : k = p.length := by have := drop_nil hd; omega
        rw [hd] at H
        have hFa : F = acc := by rw [← H.out]; exact List.append_nil acc
        have HFA := Lib.hid hFa
        have hcv := conv_bytes wr _ acc HO.out.rd
        obtain ⟨va, vcap, hvv⟩ : ∃ va vcap, u3 = .slice va acc.length vcap := by
          obtain ⟨A, cap, h, _⟩ := HO.out.rd
          exact ⟨A, cap, by rw [h, vbytes_len]⟩
        subst hvv
        subst hk2
        clear hd hac hFa
        by_cases h0 : p = []
        · have hacc : acc = [] := by rw [← HFA.out]; exact HEM.out h0
          have hz : ((acc.length : Int) == 0) = true := by rw [hacc]; rfl
          have HR := Lib.hid (show textS p = [47] by rw [HT.out, if_pos h0])
          clear hacc h0
          go_wp2
          go_ret
          exact ⟨rets HR.out.symm, hbw⟩
        · have hacc : acc ≠ [] := by rw [← HFA.out]; exact HNE.out h0
          have hz : ((acc.length : Int) == 0) = false := by
            rw [beq_eq_false_iff_ne]; have := List.length_pos_iff.2 hacc; omega
          have HR := Lib.hid (show textS p = acc by rw [HT.out, if_neg h0, HFA.out])
          clear hacc h0
          go_wp2
          go_ret
          exact ⟨rets HR.out.symm, hbw⟩
      · obtain ⟨hlt, hx, hr⟩ := drop_consA hd
        obtain ⟨ba, oa, hpa, hbl, hca⟩ := hac _ _ hx
        subst hpa
        have hx64 := H64.out _ _ hx
        rw [hd] at H
        have Hr := Lib.hid hr
        have HI := Lib.hid (show (acc ++ [47]) ++ (encS x ++ formS r) = F by rw [← H.out]; simp [formS])
        have HBD := Lib.hid (show ((vbytes acc).length + 1) * 1 ≤ 140737488355328 by rw [vbytes_len]; omega)
        have HCA := Lib.hid hca
        have HX := Lib.hid hx
        clear hd hr hx hac hca
        go_wp2_with (at_builtin; refine wpList_appLit elemB rfl (.tmp 16) (.tmp 17) rfl w.heap.size (vbytes acc) #[.int .u8 47] u3 rfl HO.out 1 rfl rfl (one1 _ _) HBD.out hWB ?_; intro v2 w2 hown2 hb2 hg2)
        obtain ⟨wo, rfl⟩ : ∃ wo : World, wo = wr := ⟨_, rfl⟩
        go_loopw [3, 5, 6] (fun vi i _ wi => ∃ m ac, m ≤ x.length ∧ ac.length ≤ 200 * k + 1 + 3 * m ∧ i = .int .i64 (m : Nat) ∧ Own 5 w.heap.size (vbytes ac) vi wi ∧ Below w.heap.size w wi ∧ Hid (ac ++ (encS (x.drop m) ++ formS r) = F)) (fun _ i _ _ => x.length - (intOf i).toNat)
        case atStart => exact ⟨0, acc ++ [47], Nat.zero_le _, by simp; omega, rfl, by rw [vbytes_app]; exact hown2, hbw.trans hb2, HI.out⟩
        case round =>
          obtain ⟨m, ac, hm, ham, rfl, hOm, hbm, HM⟩ := hrel
          obtain ⟨pa'', ca'', hva2, _, _, hac2⟩ := Hp.out.below hbm (Nat.le_refl _)
          injection hva2 with f1 f2 f3
          subst f1 f3
          clear f2
          obtain ⟨ba2, oa2, hpa2, _, hca2⟩ := hac2 _ _ HX.out
          injection hpa2 with hpa2
          injection hpa2 with g1 g2
          subst g1 g2
          have HOm := Lib.hid hOm
          have hWBm : w.heap.size ≤ wr.heap.size := hbm.size
          clear hOm hac2 hown2 hb2 hg2
          rcases hdm : x.drop m with _ | ⟨c, q⟩
          · have hm2 : m = x.length := by have := drop_nil hdm; omega
            rw [hdm] at HM
            subst hm2
            clear hdm
            go_wp2
            go_roundw
            case rel => exact ⟨k + 1, ac, by omega, by omega, by go_num, HOm.out, hbm, by rw [Hr.out, ← HM.out]; rfl⟩
            case measure => simp [intOf]; omega
          · obtain ⟨hltm, hcb, hq⟩ := drop_cons hdm
            have hcx := c.toNat_lt
            rw [hdm] at HM
            have Hq := Lib.hid hq
            have HBD2 := Lib.hid (show ((vbytes ac).length + 1) * 1 ≤ 140737488355328 by rw [vbytes_len]; omega)
            have HBD3 := Lib.hid (show ((vbytes ac).length + 3) * 1 ≤ 140737488355328 by rw [vbytes_len]; omega)
            clear hdm hq
            cases hbare : bareB c.toNat with
            | true =>
              have Hb := Lib.hid hbare
              have hcs := bare_cases hbare
              clear hbare
              rcases hcs with ⟨j1, j2⟩ | ⟨j1, j2⟩ | ⟨j1, j2⟩ | j1 | j1 | j1 | j1
              all_goals
                go_wp2_with (at_builtin; refine wpList_appLit elemB rfl (.tmp 72) (.tmp 74) rfl w.heap.size (vbytes ac) _ u3 rfl HOm.out 1 rfl rfl (one1 _ _) HBD2.out hWBm ?_; intro v3 w3 hown3 hb3 hg3)
                go_roundw
                case rel => exact ⟨m + 1, ac ++ [c], by omega, by simp; omega, by go_num, by rw [vbytes_app]; first | exact hown3 | (rw [show vbytes [c] = [.int .u8 c.toNat] from rfl, j1]; exact hown3), hbm.trans hb3, Lib.hid (by rw [Hq.out, ← HM.out]; simp [encS, encB, Hb.out])⟩
                case measure => simp [intOf]; omega
            | false =>
              have Hb := Lib.hid hbare
              have hnb : ¬ (97 ≤ (c.toNat : Int) ∧ (c.toNat : Int) ≤ 122 ∨ 65 ≤ (c.toNat : Int) ∧ (c.toNat : Int) ≤ 90 ∨ 48 ≤ (c.toNat : Int) ∧ (c.toNat : Int) ≤ 57 ∨ (c.toNat : Int) = 45 ∨ (c.toNat : Int) = 46 ∨ (c.toNat : Int) = 95 ∨ (c.toNat : Int) = 126) := by
                intro h; rw [bare_yes h] at hbare; cases hbare
              clear hbare
              obtain ⟨n, hn, hn16⟩ : ∃ n, c.toNat / 16 = n ∧ n < 16 := ⟨_, rfl, by omega⟩
              obtain ⟨d, hd, hd16⟩ : ∃ d, c.toNat % 16 = d ∧ d < 16 := ⟨_, rfl, by omega⟩
              have HE := Lib.hid (show encB c = [37, hexU n, hexU d] by unfold encB; rw [Hb.out, hn, hd]; rfl)
              have f1 : (c.toNat : Int) / 16 = (n : Int) := by omega
              have f2 : (c.toNat : Int) % 16 = (d : Int) := by omega
              have f3 : (c.toNat : Int).tdiv 16 = (n : Int) := by rw [Int.tdiv_eq_ediv_of_nonneg (by omega)]; omega
              have f4 : (c.toNat : Int).tmod 16 = (d : Int) := by rw [Int.tmod_eq_emod_of_nonneg (by omega)]; omega
              have f5 : IntKind.u8.wrap (n : Int) = (n : Int) := wrap_u8 _ (by omega) (by omega)
              have f6 : IntKind.u8.wrap (d : Int) = (d : Int) := wrap_u8 _ (by omega) (by omega)
              have y1 : (n : Int) < 16 := by omega
              have y2 : (d : Int) < 16 := by omega
              have y3 : (0 : Int) ≤ (n : Int) := by omega
              have y4 : (0 : Int) ≤ (d : Int) := by omega
              have x1 := hexU_get n hn16
              have x2 := hexU_get d hd16
              have t1 : ((c.toNat : Int) == 45) = false := by rw [beq_eq_false_iff_ne]; omega
              have t2 : ((c.toNat : Int) == 46) = false := by rw [beq_eq_false_iff_ne]; omega
              have t3 : ((c.toNat : Int) == 95) = false := by rw [beq_eq_false_iff_ne]; omega
              have t4 : ((c.toNat : Int) == 126) = false := by rw [beq_eq_false_iff_ne]; omega
              have hcs : (c.toNat : Int) < 48 ∨ (57 < (c.toNat : Int) ∧ (c.toNat : Int) < 65) ∨ (90 < (c.toNat : Int) ∧ (c.toNat : Int) < 97) ∨ 122 < (c.toNat : Int) := by omega
              obtain ⟨wx, hwx⟩ : ∃ wx : World, wx = (wr.alloc (.cells #[.int .u8 37, .int .u8 (hexU n).toNat, .int .u8 (hexU d).toNat] 5)).drew := ⟨_, rfl⟩
              have HOx := Lib.hid (show Own 5 w.heap.size (vbytes ac) u3 ((wr.alloc (.cells #[.int .u8 37, .int .u8 (hexU n).toNat, .int .u8 (hexU d).toNat] 5)).drew) from HOm.out.alloc _)
              have HRx := Lib.hid (show RdL ((wr.alloc (.cells #[.int .u8 37, .int .u8 (hexU n).toNat, .int .u8 (hexU d).toNat] 5)).drew) (.slice (some ⟨wr.heap.size, 0, none⟩) 3 3) [.int .u8 37, .int .u8 (hexU n).toNat, .int .u8 (hexU d).toNat] from (Own.lit (B := 0) 5 wr #[.int .u8 37, .int .u8 (hexU n).toNat, .int .u8 (hexU d).toNat] (Nat.zero_le _) (by show 3 ≤ maxLen; unfold maxLen; omega)).rd)
              have hWx : w.heap.size ≤ ((wr.alloc (.cells #[.int .u8 37, .int .u8 (hexU n).toNat, .int .u8 (hexU d).toNat] 5)).drew).heap.size := Nat.le_trans hWBm (by simp)
              clear hn hd hnb hwx
              rcases hcs with j1 | ⟨j1, j2⟩ | ⟨j1, j2⟩ | j1
              all_goals
                go_wp2
                go_region_law (refine step_app elemB rfl (.tmp 76) (.tmp 83) rfl w.heap.size (vbytes ac) [.int .u8 37, .int .u8 (hexU n).toNat, .int .u8 (hexU d).toNat] u3 (.slice (some ⟨wr.heap.size, 0, none⟩) 3 3) (by simp [Act.eval, Act.put]) HOx.out (by simp [Act.eval, Act.put]) HRx.out (one3 _ _ _ _) HBD3.out hWx ?_; intro v3 w3 hown3 hb3 hg3)
                all_goals
                  go_wp2
                  go_roundw
                  case rel => exact ⟨m + 1, ac ++ [37, hexU n, hexU d], by omega, by simp; omega, by go_num, by rw [vbytes_app]; exact hown3, ((hbm.alloc hWBm _).drew).trans hb3, Lib.hid (by rw [Hq.out, ← HM.out]; simp [encS, HE.out])⟩
                  case measure => simp [intOf]; omega
end Go.Proofs.YtilmgfkpgkpmeaaDoor
