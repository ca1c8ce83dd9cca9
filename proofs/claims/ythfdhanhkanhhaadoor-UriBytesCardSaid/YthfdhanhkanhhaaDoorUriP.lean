/-
  The walk of the law UriBytes: it returns true. Condition: the package variables hold what the row lists.
-/
import Derived.Test.YthfdhanhkanhhaaDoorUriO
import Derived.Test.YthfdhanhkanhhaaDoorGrip
import Derived.Deep.RegionLaw
namespace Go.Proofs.YthfdhanhkanhhaaDoor
open Go.RowKit

def hexL (n : Nat) : UInt8 := UInt8.ofNat (if n < 10 then 48 + n else 87 + n)
theorem digs_low : Digs hexL := by
  intro n hn
  have key : ∀ m : Fin 16, digV (hexL m.val).toNat = m.val ∧ seenB (hexL m.val).toNat = true ∧ hexL m.val ≠ 47 := by decide +kernel
  exact key ⟨n, hn⟩
theorem hexL_get (k : Nat) (h : k < 16) : ∀ h', (⟨#[48, 49, 50, 51, 52, 53, 54, 55, 56, 57, 97, 98, 99, 100, 101, 102]⟩ : ByteArray)[k]'h' = hexL k := by
  intro h'
  match k, h with
  | 0, _ | 1, _ | 2, _ | 3, _ | 4, _ | 5, _ | 6, _ | 7, _ | 8, _ | 9, _ | 10, _ | 11, _ | 12, _ | 13, _ | 14, _ | 15, _ => rfl
  | k + 16, h => omega
theorem good_one (s : List UInt8) : goodS [s] = segS s := by unfold goodS; simp
theorem fits_one {s : List UInt8} (h : s.length ≤ 400) : Fits [s] := fun j l hj => by
  cases j with
  | zero => simp at hj; subst hj; unfold maxLen; omega
  | succ j => simp at hj

set_option maxHeartbeats 1000000 in
set_option maxRecDepth 100000 in
set_option linter.unusedSimpArgs false in
theorem law_bytes (s : List UInt8) (small : Bool) (w : World) (hs : s.length ≤ maxLen) (hE : Env w) :
    Calls Tryd.prog 6 #[.string ⟨s.toArray⟩, .bool small] w (Ret (.bool true) w) := by
  unfold maxLen at hs
  by_cases h400 : s.length > 400
  · go_enter Tryd.func6, Tryd.ntmps6
    go_wp2_with fail
    refine (fixed_any w hE).mono ?_
    rintro e w1 ⟨rfl, hb1⟩
    have hE1 := hE.below hb1
    go_wp2_with fail
    refine (fixed_any _ hE1).mono ?_
    rintro e w2 ⟨rfl, hb2⟩
    go_wp2
    go_ret
    exact ⟨rfl, hb1.trans (hb2.mono hb1.size)⟩
  · have h4 : s.length ≤ 400 := by omega
    have H4 := Lib.hid h4
    have h41 : ¬ ((s.length : Int) > 400) := by omega
    have hgo := good_one s
    cases small
    case' false => obtain ⟨h, hDG, hget⟩ : ∃ h, Digs h ∧ ∀ k, k < 16 → ∀ h', (⟨#[48, 49, 50, 51, 52, 53, 54, 55, 56, 57, 65, 66, 67, 68, 69, 70]⟩ : ByteArray)[k]'h' = h k := ⟨hexU, digs_up, hexU_get⟩
    case' true => obtain ⟨h, hDG, hget⟩ : ∃ h, Digs h ∧ ∀ k, k < 16 → ∀ h', (⟨#[48, 49, 50, 51, 52, 53, 54, 55, 56, 57, 97, 98, 99, 100, 101, 102]⟩ : ByteArray)[k]'h' = h k := ⟨hexL, digs_low, hexL_get⟩
    all_goals
      have HPL := Lib.hid (pct_len h s)
      have HDG := Lib.hid hDG
      have HGET := Lib.hid hget
      have HGO := Lib.hid hgo
      obtain ⟨F, hF⟩ : ∃ F, 47 :: pctS h s = F := ⟨_, rfl⟩
      have HF := Lib.hid hF
      clear hDG hget hgo hF
      go_enter Tryd.func6, Tryd.ntmps6
      go_wp2_with fail
      refine (fixed_any w hE).mono ?_
      rintro e w1 ⟨rfl, hb1⟩
      have hE1 := hE.below hb1
      have hcv0 := conv_const #[.int .u8 47] 1 w1
      simp only [List.size_toArray, List.length_cons, List.length_nil, Nat.zero_add, Nat.reduceAdd] at hcv0
      have hO1 : Grip 5 w1.heap.size (vbytes [47]) (.slice (some ⟨w1.heap.size, 0, none⟩) 1 1) (w1.alloc (.cells #[.int .u8 47] 5 (1, 2))) := grip_const [.int .u8 47] w1 (1, 2) (by show 1 ≤ maxLen; unfold maxLen; omega)
      have hA1 : Below w1.heap.size w1 (w1.alloc (.cells #[.int .u8 47] 5 (1, 2))) := (Below.refl _ _).alloc (Nat.le_refl _) _
      go_wp2_with fail
      go_loopw [6, 7] (fun v i wr => ∃ k acc, k ≤ s.length ∧ acc.length = 1 + 3 * k ∧ i = .int .i64 (k : Nat) ∧ Grip 5 w1.heap.size (vbytes acc) v wr ∧ Below w1.heap.size w1 wr ∧ Hid (acc ++ pctS h (s.drop k) = F)) (fun _ i _ => s.length - (intOf i).toNat)
      case atStart => exact ⟨0, [47], Nat.zero_le _, rfl, rfl, hO1, hA1, HF⟩
      case round =>
        obtain ⟨k, ac, hk, hak, rfl, hOm, hbm, HM⟩ := hrel
        have HOm := Lib.hid hOm
        have hWBm : w1.heap.size ≤ wr.heap.size := hbm.size
        clear hOm hO1 hA1
        rcases hdm : s.drop k with _ | ⟨c, q⟩
        · have hk2 : k = s.length := by have := drop_nil hdm; omega
          rw [hdm] at HM
          subst hk2
          have hFa : ac = F := by rw [← HM.out]; exact (List.append_nil ac).symm
          subst hFa
          have hcv := conv_bytes wr _ ac HOm.out.rd
          have hE2 := hE1.below hbm
          have hbb2 := hb1.trans (hbm.mono hb1.size)
          have hl : ac.length ≤ 1048576 := by omega
          clear hdm hE hE1 hb1 hbm HM
          cases hsg : segS s with
          | true =>
            have HSG := Lib.hid (show goodS [s] = true by rw [HGO.out, hsg])
            have HPR := Lib.hid (show parseS ac = ([s], false, 0) by rw [← HF.out]; exact pct_seg HDG.out hsg)
            clear hsg
            go_wp2_with fail
            refine (parse_val ac [s] false 0 _ hl hE2 HPR.out).mono ?_
            rintro e w3 ⟨v3, rfl, hv3, hb3⟩
            have hE3 := hE2.below hb3
            have hbb3 := hbb2.trans (hb3.mono hbb2.size)
            have Hv3 := Lib.hid hv3
            obtain ⟨pa, ca, rfl, -, -, -⟩ := hv3
            clear hE2 hb3 hbb2
            go_wp2_with fail
            have hal : Below w3.heap.size w3 (w3.alloc (.cells (vstrs [s]).toArray 9)) := (Below.refl _ _).alloc (Nat.le_refl _) _
            have h5 := good_any _ [s] _ (strs_lit w3 [s] 1 rfl (by omega)) (fits_one H4.out) (hE3.below hal)
            rw [HSG.out] at h5
            refine h5.mono ?_
            rintro e w5 ⟨rfl, hb5⟩
            have hb35 : Below w3.heap.size w3 w5 := hal.trans (hb5.mono (by simp))
            have hv5 := Hv3.out.below hb35 (Nat.le_refl _)
            obtain ⟨pa', ca', hva, -, -, hac⟩ := hv5
            injection hva with e1 e2 e3
            subst e1 e3
            clear e2 h5 hal
            obtain ⟨b, o, hpa, hblt, hcell⟩ := hac 0 s rfl
            subst hpa
            simp only [Nat.add_zero] at hcell
            go_wp2
            go_ret
            exact ⟨retb (by simp), hbb3.trans (hb35.mono hbb3.size)⟩
          | false =>
            have HSG := Lib.hid (show goodS [s] = false by rw [HGO.out, hsg])
            by_cases hz : s = [] ∨ s = [46]
            · have HPR := Lib.hid (show parseS ac = ([], true, 0) by rw [← HF.out]; exact pct_dot HDG.out hz)
              clear hsg
              go_wp2_with fail
              refine (parse_val ac [] true 0 _ hl hE2 HPR.out).mono ?_
              rintro e w3 ⟨v3, rfl, hv3, hb3⟩
              have hE3 := hE2.below hb3
              have hbb3 := hbb2.trans (hb3.mono hbb2.size)
              have Hv3 := Lib.hid hv3
              obtain ⟨pa, ca, rfl, -, -, -⟩ := hv3
              clear hE2 hb3 hbb2
              go_wp2_with fail
              have hal : Below w3.heap.size w3 (w3.alloc (.cells (vstrs [s]).toArray 9)) := (Below.refl _ _).alloc (Nat.le_refl _) _
              have h5 := good_any _ [s] _ (strs_lit w3 [s] 1 rfl (by omega)) (fits_one H4.out) (hE3.below hal)
              rw [HSG.out] at h5
              refine h5.mono ?_
              rintro e w5 ⟨rfl, hb5⟩
              have hb35 : Below w3.heap.size w3 w5 := hal.trans (hb5.mono (by simp))
              clear h5 hal
              rcases hz with hz | hz
              · have z1 : (s == []) = true := by simpa using hz
                have z2 : s.isEmpty = true := by simpa using hz
                go_wp2
                go_ret
                exact ⟨retb (by simp), hbb3.trans (hb35.mono hbb3.size)⟩
              · have z1 : (s == []) = false := by rw [hz]; rfl
                have z2 : s.isEmpty = false := by rw [hz]; rfl
                have z3 : (s == [46]) = true := by rw [hz]; rfl
                go_wp2
                go_ret
                exact ⟨retb (by simp), hbb3.trans (hb35.mono hbb3.size)⟩
            · have hPR := pct_bad HDG.out hsg hz
              have z1 : (s == []) = false := by rw [beq_eq_false_iff_ne]; exact fun e => hz (.inl e)
              have z2 : s.isEmpty = false := by cases s with | nil => exact absurd (.inl rfl) hz | cons _ _ => rfl
              have z3 : (s == [46]) = false := by rw [beq_eq_false_iff_ne]; exact fun e => hz (.inr e)
              clear hsg hz
              rw [HF.out] at hPR
              obtain ⟨n, hn, hPV⟩ : ∃ n : Int, (n = 20 ∨ n = 5 ∧ 64 < s.length) ∧ parseS ac = ([], false, n) := by
                obtain ⟨p1, p2, p3⟩ := hPR
                exact ⟨_, p3, Prod.ext p1 (Prod.ext p2 rfl)⟩
              have HPV := Lib.hid hPV
              have HN := Lib.hid hn
              clear hPR hPV hn
              go_wp2_with fail
              refine (parse_val ac [] false n _ hl hE2 HPV.out).mono ?_
              rintro e w3 ⟨v3, rfl, hv3, hb3⟩
              have hE3 := hE2.below hb3
              have hbb3 := hbb2.trans (hb3.mono hbb2.size)
              obtain ⟨pa, ca, rfl, -, -, -⟩ := hv3
              clear hE2 hb3 hbb2
              go_wp2_with fail
              have hal : Below w3.heap.size w3 (w3.alloc (.cells (vstrs [s]).toArray 9)) := (Below.refl _ _).alloc (Nat.le_refl _) _
              have h5 := good_any _ [s] _ (strs_lit w3 [s] 1 rfl (by omega)) (fits_one H4.out) (hE3.below hal)
              rw [HSG.out] at h5
              refine h5.mono ?_
              rintro e w5 ⟨rfl, hb5⟩
              have hb35 : Below w3.heap.size w3 w5 := hal.trans (hb5.mono (by simp))
              clear h5 hal
              rcases HN.out with rfl | ⟨rfl, h64⟩
              · go_wp2
                go_ret
                exact ⟨retb (by simp), hbb3.trans (hb35.mono hbb3.size)⟩
              · have h65 : ((s.length : Int) > 64) := by omega
                go_wp2
                go_ret
                exact ⟨retb (by simp), hbb3.trans (hb35.mono hbb3.size)⟩
        · obtain ⟨hltm, hcb, hq⟩ := drop_cons hdm
          have hcx := c.toNat_lt
          rw [hdm] at HM
          have Hq := Lib.hid hq
          have HBD3 := Lib.hid (show ((vbytes ac).length + 3) * 1 ≤ 140737488355328 by rw [vbytes_len]; omega)
          clear hdm hq
          obtain ⟨n, hn, hn16⟩ : ∃ n, c.toNat / 16 = n ∧ n < 16 := ⟨_, rfl, by omega⟩
          obtain ⟨d, hd, hd16⟩ : ∃ d, c.toNat % 16 = d ∧ d < 16 := ⟨_, rfl, by omega⟩
          have HM2 := Lib.hid (show (ac ++ [37, h n, h d]) ++ pctS h q = F by rw [← HM.out, pct_cons, hn, hd]; simp)
          have f1 : (c.toNat : Int) / 16 = (n : Int) := by omega
          have f2 : (c.toNat : Int) % 16 = (d : Int) := by omega
          have f3 : (c.toNat : Int).tdiv 16 = (n : Int) := by rw [Int.tdiv_eq_ediv_of_nonneg (by omega)]; omega
          have f4 : (c.toNat : Int).tmod 16 = (d : Int) := by rw [Int.tmod_eq_emod_of_nonneg (by omega)]; omega
          have f5 : IntKind.u8.wrap (n : Int) = (n : Int) := wrap_u8 _ (by omega) (by omega)
          have f6 : IntKind.u8.wrap (d : Int) = (d : Int) := wrap_u8 _ (by omega) (by omega)
          have y1 : (n : Int) < 16 := by omega
          have y2 : (d : Int) < 16 := by omega
          have y3 : (0 : Int) ≤ (n : Int) := by omega
          have y4 : (0 : Int) ≤ (d : Int) := by omega
          have x1 := HGET.out n hn16
          have x2 := HGET.out d hd16
          have HOx := Lib.hid (show Grip 5 w1.heap.size (vbytes ac) u6 ((wr.alloc (.cells #[.int .u8 37, .int .u8 (h n).toNat, .int .u8 (h d).toNat] 5)).drew) from HOm.out.alloc _)
          have HRx := Lib.hid (show RdL ((wr.alloc (.cells #[.int .u8 37, .int .u8 (h n).toNat, .int .u8 (h d).toNat] 5)).drew) (.slice (some ⟨wr.heap.size, 0, none⟩) 3 3) [.int .u8 37, .int .u8 (h n).toNat, .int .u8 (h d).toNat] from (Own.lit (B := 0) 5 wr #[.int .u8 37, .int .u8 (h n).toNat, .int .u8 (h d).toNat] (Nat.zero_le _) (by show 3 ≤ maxLen; unfold maxLen; omega)).rd)
          have hWx : w1.heap.size ≤ ((wr.alloc (.cells #[.int .u8 37, .int .u8 (h n).toNat, .int .u8 (h d).toNat] 5)).drew).heap.size := Nat.le_trans hWBm (by simp)
          clear hn hd
          go_wp2
          go_region_law (refine step_grip elemB rfl (.tmp 28) (.tmp 41) rfl w1.heap.size (vbytes ac) [.int .u8 37, .int .u8 (h n).toNat, .int .u8 (h d).toNat] u6 (.slice (some ⟨wr.heap.size, 0, none⟩) 3 3) (by simp [Act.eval, Act.put]) HOx.out (by simp [Act.eval, Act.put]) HRx.out (by simp) (one3 _ _ _ _) HBD3.out hWx ?_; intro v3 w3 hown3 hb3 hg3)
          all_goals
            go_wp2
            go_roundw
            case rel => exact ⟨k + 1, ac ++ [37, h n, h d], by omega, by simp; omega, by go_num, by rw [vbytes_app]; exact .inl hown3, ((hbm.alloc hWBm _).drew).trans hb3, Lib.hid (by rw [Hq.out]; exact HM2.out)⟩
            case measure => simp [intOf]; omega
end Go.Proofs.YthfdhanhkanhhaaDoor
