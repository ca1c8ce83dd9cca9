/-
  The walks of the reference's Top and Write. Conditions: the status is one of the chapter's; the headers' form is shorter than a thousand million bytes.
-/
import Derived.Test.YtlkbfehdiopkbaaGreatDoorRepG
import Derived.Test.YtlkbfehdiopkbaaGreatDoorRepTop
namespace Go.Proofs.YtlkbfehdiopkbaaGreatDoor
open Go.RowKit

theorem codes_len : ∀ n ∈ codes, (reasonS n).length ≤ 31 := by decide
theorem codes_pos : ∀ n ∈ codes, 200 ≤ n ∧ n ≤ 507 := by decide
/-- a form's bytes down to its headers' end. -/
def upS (r : RespT) : List UInt8 := [72, 84, 84, 80, 47, 49, 46, 49, 32] ++ (digS r.status.toNat ++ ([32] ++ (reasonS r.status ++ (crlf ++ r.hdrs.flatMap hdrF))))
theorem top_up (r : RespT) (n : Nat) : topS r n = upS r ++ ((if r.status = 204 then [] else lenF n) ++ ((if r.close then closeF else []) ++ crlf)) := by
  unfold topS upS
  simp only [List.append_assoc]
theorem digS_len (n : Nat) (h : n ≤ 1000000000) : (digS n).length ≤ 10 := by
  have h2 := digR_mono (n + 1) 1000000001 n 1000000000 (by omega) (by omega) h
  have h3 : (digR 1000000001 1000000000).length = 10 := by
    rw [digR_fuel 1000000001 1000000001 1000000000 (by omega) (by omega)]
    simp [digR]
  unfold digS
  rw [List.length_reverse]
  omega
set_option maxHeartbeats 2000000 in
set_option maxRecDepth 100000 in
set_option linter.unusedSimpArgs false in
theorem rtop_any (r : RespT) (n : Nat) (hv : Value) (w : World) (hh : Hdrs w hv r.hdrs) (hc : r.status ∈ codes) (hl : (r.hdrs.flatMap hdrF).length ≤ 1000000000) (hn : n ≤ 1000000000) :
    Calls Tryz.prog 29 #[respV r hv, .int .i64 n] w (Ret (.string ⟨(topS r n).toArray⟩) w) := by
  have HH := Lib.hid hh
  obtain ⟨A, cap, rfl, hcap, hcm, -⟩ := hh
  unfold maxLen at hcm
  have HTop := Lib.hid (top_up r n)
  have hup : (upS r).length ≤ 1000001000 := by
    have h1 := codes_len _ hc
    have h2 := codes_dig _ hc
    unfold upS
    simp only [List.length_append, crlf, List.length_cons, List.length_nil]
    omega
  obtain ⟨M, hM⟩ : ∃ M, upS r = M := ⟨_, rfl⟩
  have hM2 := hM
  rw [hM] at HTop hup
  unfold upS at hM2
  generalize topS r n = TOP at *
  have hd3 := (codes_dig _ hc).1
  have hr3 := codes_len _ hc
  obtain ⟨hst0, hst1⟩ := codes_pos _ hc
  obtain ⟨st, hdrs, body, hd, cl⟩ := r
  unfold respV
  simp only at *
  obtain ⟨c0, c1, -, -, c4⟩ := cell5 w (.int .i64 st) (.slice A hdrs.length cap) (.string ⟨body.toArray⟩) (.bool hd) (.bool cl) 49
  have hA : Below w.heap.size w (w.alloc (.cells #[.int .i64 st, .slice A hdrs.length cap, .string ⟨body.toArray⟩, .bool hd, .bool cl] 49)) := (Below.refl _ w).alloc (Nat.le_refl _) _
  have hsz : w.heap.size < (w.alloc (.cells #[.int .i64 st, .slice A hdrs.length cap, .string ⟨body.toArray⟩, .bool hd, .bool cl] 49)).heap.size := by simp
  have HHa := Lib.hid (HH.out.below hA (Nat.le_refl _))
  obtain ⟨sn, rfl⟩ := Int.eq_ofNat_of_zero_le (show 0 ≤ st by omega)
  rw [Int.toNat_natCast] at hd3 hM2
  have HDg := Lib.hid (fun w => rdigits_any sn w (by omega))
  have HDn := Lib.hid (fun w => rdigits_any n w (by omega))
  have HRs := Lib.hid (rreason_any sn)
  generalize digS sn = D at *
  generalize reasonS sn = R at *
  have s1 : ¬ 9223372036854775807 < 9 + D.length := by omega
  have s2 : ¬ 9223372036854775807 < D.length + 1 + 1 + 1 + 1 + 1 + 1 + 1 + 1 + 1 + 1 := by omega
  have s3 : ¬ 9223372036854775807 < D.length + 1 + 1 + 1 + 1 + 1 + 1 + 1 + 1 + 1 + 1 + R.length := by omega
  have s4 : ¬ 9223372036854775807 < D.length + (R.length + 1) + 1 + 1 + 1 + 1 + 1 + 1 + 1 + 1 + 1 + 2 := by omega
  have HM2 := Lib.hid hM2
  clear HH hM hM2 hd3 hc hl hr3
  go_enter Tryz.func29, Tryz.ntmps29
  go_wp2_with fail
  generalize (w.alloc (.cells #[.int .i64 sn, .slice A hdrs.length cap, .string ⟨body.toArray⟩, .bool hd, .bool cl] 49)) = wa at *
  have hS0 : wa.drew.cell? ⟨w.heap.size, 0, none⟩ = some (.int .i64 sn) ∧ Below wa.heap.size wa wa.drew := ⟨c0, below_draws (Below.refl _ _) 1⟩
  have Hk := Lib.hid (fun (wx wy : World) (h : wx.cell? ⟨w.heap.size, 0, none⟩ = some (.int .i64 sn) ∧ Below wa.heap.size wa wx) (hb : Below wx.heap.size wx wy) =>
    (⟨(hb.cell (World.block_lt_of_cell? wx _ h.1)).trans h.1, h.2.trans (hb.mono h.2.size)⟩ : wy.cell? ⟨w.heap.size, 0, none⟩ = some (.int .i64 sn) ∧ Below wa.heap.size wa wy))
  go_region_held3 (fun w' => w'.cell? ⟨w.heap.size, 0, none⟩ = some (.int .i64 sn) ∧ Below wa.heap.size wa w')
    (first | exact hS0 | assumption | exact Hk.out _ _ (by assumption) (by assumption))
    (first
      | (go_at_call 49; refine (HDg.out _).mono ?_; rintro e w' ⟨rfl, hb1⟩)
      | (go_at_call 26; refine (HRs.out _).mono ?_; rintro e w'' ⟨rfl, rfl⟩))
  have hfin : w'.cell? ⟨w.heap.size, 0, none⟩ = some (.int .i64 sn) ∧ Below wa.heap.size wa w' := by assumption
  obtain ⟨-, hbw⟩ := hfin
  clear hS0 Hk hb1 HDg HRs
  go_wp2
  clear s1 s2 s3 s4
  have HP : Hid ((72 :: 84 :: 84 :: 80 :: 47 :: 49 :: 46 :: 49 :: 32 :: (D ++ 32 :: (R ++ [13, 10]))) ++ hdrs.flatMap hdrF = M) := Lib.hid (by have := HM2.out; simpa [crlf] using this)
  clear HM2
  generalize (72 :: 84 :: 84 :: 80 :: 47 :: 49 :: 46 :: 49 :: 32 :: (D ++ 32 :: (R ++ [13, 10]))) = P0 at *
  go_loopw [5, 6] (fun t i wr => ∃ (k : Nat) (acc : List UInt8), k ≤ hdrs.length ∧ i = .int .i64 k ∧ t = .string ⟨acc.toArray⟩ ∧ Hid (acc ++ (hdrs.drop k).flatMap hdrF = M) ∧ Below wa.heap.size wa wr) (fun _ i _ => hdrs.length - (intOf i).toNat)
  case atStart => exact ⟨0, P0, Nat.zero_le _, rfl, rfl, HP, hbw⟩
  case round =>
    obtain ⟨k, acc, hk, rfl, rfl, HK, hb⟩ := hrel
    clear HP hbw
    have d0 := (hb.cell (p := ⟨w.heap.size, 0, none⟩) hsz).trans c0
    have d1 := (hb.cell (p := ⟨w.heap.size, 1, none⟩) hsz).trans c1
    have d4 := (hb.cell (p := ⟨w.heap.size, 4, none⟩) hsz).trans c4
    have hAr : Below w.heap.size w wr := hA.trans (hb.mono hA.size)
    clear c0 c1 c4
    rcases hd' : hdrs.drop k with _ | ⟨x, q⟩
    · have hk2 : k = hdrs.length := by have := drop_nil hd'; omega
      rw [hd'] at HK
      obtain rfl : acc = M := by have := HK.out; simpa using this
      clear hd' HK HHa
      subst hk2
      by_cases h2 : (sn : Int) = 204
      · rw [if_pos h2] at HTop
        have b2 : ((sn : Int) == 204) = true := by simpa using h2
        have b2' : ((sn : Int) != 204) = false := by simpa using h2
        clear h2 HDn
        cases cl
        · have HT2 := Lib.hid (show acc ++ [13, 10] = TOP by rw [HTop.out]; rfl)
          clear HTop
          go_wp2
          go_ret
          exact ⟨rets HT2.out, hAr⟩
        · have HT2 := Lib.hid (show acc ++ (closeF ++ crlf) = TOP by rw [HTop.out]; rfl)
          clear HTop
          go_wp2
          go_ret
          exact ⟨rets HT2.out, hAr⟩
      · rw [if_neg h2] at HTop
        have b2 : ((sn : Int) == 204) = false := by simpa using h2
        have b2' : ((sn : Int) != 204) = true := by simpa using h2
        have hdn := digS_len n hn
        unfold lenF at HTop
        generalize digS n = DN at *
        clear h2
        cases cl
        · have HT2 := Lib.hid (show acc ++ ([67, 111, 110, 116, 101, 110, 116, 45, 76, 101, 110, 103, 116, 104, 58, 32] ++ (DN ++ crlf) ++ crlf) = TOP by rw [HTop.out]; rfl)
          clear HTop
          go_wp2_with fail
          refine (HDn.out _).mono ?_
          rintro e w3 ⟨rfl, hb3⟩
          have d4' := (hb3.cell (p := ⟨w.heap.size, 4, none⟩) (Nat.lt_of_lt_of_le hsz hb.size)).trans d4
          go_wp2
          go_ret
          refine ⟨rets ?_, hAr.trans (hb3.mono hAr.size)⟩
          rw [← HT2.out]
          simp [crlf]
        · have HT2 := Lib.hid (show acc ++ ([67, 111, 110, 116, 101, 110, 116, 45, 76, 101, 110, 103, 116, 104, 58, 32] ++ (DN ++ crlf) ++ (closeF ++ crlf)) = TOP by rw [HTop.out]; rfl)
          clear HTop
          go_wp2_with fail
          refine (HDn.out _).mono ?_
          rintro e w3 ⟨rfl, hb3⟩
          have d4' := (hb3.cell (p := ⟨w.heap.size, 4, none⟩) (Nat.lt_of_lt_of_le hsz hb.size)).trans d4
          go_wp2
          go_ret
          refine ⟨rets ?_, hAr.trans (hb3.mono hAr.size)⟩
          rw [← HT2.out]
          simp [crlf, closeF]
    · obtain ⟨hlt, hx, hr⟩ := drop_consA hd'
      obtain ⟨A', cap', hva, _, _, hac⟩ := (HHa.out.below hb (Nat.le_refl _)).at
      injection hva with e1 e2 e3
      subst e1 e3
      clear e2
      obtain ⟨b, o, rfl, hbl, e0, e1⟩ := hac k x hx
      rw [hd', List.flatMap_cons] at HK
      have Hr := Lib.hid hr
      clear hd' hr hx hac
      obtain ⟨nm, vl⟩ := x
      simp only at e0 e1
      have HK2 : Hid ((acc ++ (nm ++ 58 :: 32 :: (vl ++ [13, 10]))) ++ q.flatMap hdrF = M) := Lib.hid (by have := HK.out; rw [← List.append_assoc] at this; exact this)
      have hlen : acc.length + nm.length + vl.length + 4 ≤ 1000001000 := by
        have := congrArg List.length HK2.out
        simp only [List.length_append, List.length_cons, List.length_nil] at this
        omega
      clear HK
      have k1 : (k : Int) < hdrs.length := by omega
      have k2 : (0 : Int) ≤ k := by omega
      go_wp2
      go_quiet (fail)
      go_wp2
      go_roundw
      case rel => exact ⟨k + 1, _, by omega, by go_num, rfl, by rw [Hr.out]; exact HK2, below_draws hb _⟩
      case measure => simp [intOf]; omega

/-- what Write hands back. -/
def wV : Option (List UInt8) → Value
  | some f => .tuple #[.string ⟨f.toArray⟩, .int .i64 0]
  | none => .tuple #[.string ⟨#[]⟩, .int .i64 1]
theorem hsmall_of {l : List HdrT} {n : Nat} (h : (l.flatMap hdrF).length ≤ n) : HSmall l n := by
  intro x hx
  induction l with
  | nil => cases hx
  | cons y l ih =>
    rw [List.flatMap_cons, List.length_append] at h
    rcases List.mem_cons.1 hx with rfl | hx
    · unfold hdrF at h
      simp only [List.length_append] at h
      omega
    · exact ih (by omega) hx
theorem good_code {r : RespT} (h : goodR r = true) : r.status ∈ codes := reason_codes (good_parts h).2.1
theorem writeS_no {r : RespT} (h : goodR r = false) : writeS r = none := by unfold writeS; rw [h]; rfl
theorem writeS_yes {r : RespT} (h : goodR r = true) : writeS r = some (topS r r.body.length ++ (if r.head then [] else r.body)) := by unfold writeS; rw [h]; rfl
theorem top_len {r : RespT} {n : Nat} (hc : r.status ∈ codes) (hl : (r.hdrs.flatMap hdrF).length ≤ 1000000000) (hn : n ≤ 1000000000) : (topS r n).length ≤ 1000002000 := by
  have h1 := codes_len _ hc
  have h2 := (codes_dig _ hc).1
  have h3 := digS_len n hn
  rw [top_up]
  unfold upS
  have h4 : (if r.status = 204 then [] else lenF n).length ≤ 28 := by
    split
    · simp
    · unfold lenF; simp [crlf]; omega
  have h5 : (if r.close then closeF else []).length ≤ 19 := by split <;> simp [closeF, crlf]
  simp only [List.length_append, crlf, List.length_cons, List.length_nil]
  omega
set_option maxHeartbeats 1000000 in
set_option maxRecDepth 100000 in
set_option linter.unusedSimpArgs false in
theorem rwrite_any (r : RespT) (hv : Value) (w : World) (hh : Hdrs w hv r.hdrs) (hl : (r.hdrs.flatMap hdrF).length ≤ 1000000000) :
    Calls Tryz.prog 22 #[respV r hv] w (Ret (wV (writeS r)) w) := by
  have HH := Lib.hid hh
  obtain ⟨A, cap, rfl, hcap, hcm, -⟩ := hh
  unfold maxLen at hcm
  have HG := Lib.hid (fun w h => rgood_any r (.slice A r.hdrs.length cap) w h (hsmall_of hl))
  have HW0 := Lib.hid (@writeS_no r)
  have HW1 := Lib.hid (@writeS_yes r)
  have HTp := Lib.hid (fun w h h1 h2 => rtop_any r r.body.length (.slice A r.hdrs.length cap) w h h1 hl h2)
  have HTl := Lib.hid (fun h1 h2 => @top_len r r.body.length h1 hl h2)
  have HCd := Lib.hid (@good_code r)
  have HBd := Lib.hid (fun h => (@good_parts r h).2.2.1)
  generalize writeS r = WS at *
  generalize goodR r = G at *
  generalize topS r r.body.length = TP at *
  obtain ⟨st, hdrs, body, hd, cl⟩ := r
  unfold respV at *
  simp only at *
  obtain ⟨c0, c1, c2, c3, c4⟩ := cell5 w (.int .i64 st) (.slice A hdrs.length cap) (.string ⟨body.toArray⟩) (.bool hd) (.bool cl) 49
  have hA : Below w.heap.size w (w.alloc (.cells #[.int .i64 st, .slice A hdrs.length cap, .string ⟨body.toArray⟩, .bool hd, .bool cl] 49)) := (Below.refl _ w).alloc (Nat.le_refl _) _
  have hsz : w.heap.size < (w.alloc (.cells #[.int .i64 st, .slice A hdrs.length cap, .string ⟨body.toArray⟩, .bool hd, .bool cl] 49)).heap.size := by simp
  go_enter Tryz.func22, Tryz.ntmps22
  go_wp2_with fail
  generalize (w.alloc (.cells #[.int .i64 st, .slice A hdrs.length cap, .string ⟨body.toArray⟩, .bool hd, .bool cl] 49)) = wa at *
  refine (HG.out _ (HH.out.below hA (Nat.le_refl _))).mono ?_
  rintro e w1 ⟨rfl, hb1⟩
  have d0 := (hb1.cell (p := ⟨w.heap.size, 0, none⟩) hsz).trans c0
  have d1 := (hb1.cell (p := ⟨w.heap.size, 1, none⟩) hsz).trans c1
  have d2 := (hb1.cell (p := ⟨w.heap.size, 2, none⟩) hsz).trans c2
  have d3 := (hb1.cell (p := ⟨w.heap.size, 3, none⟩) hsz).trans c3
  have d4 := (hb1.cell (p := ⟨w.heap.size, 4, none⟩) hsz).trans c4
  have hA1 : Below w.heap.size w w1 := hA.trans (hb1.mono hA.size)
  have hsz1 : w.heap.size < w1.heap.size := Nat.lt_of_lt_of_le hsz hb1.size
  clear c0 c1 c2 c3 c4 HG hA hb1 hsz
  cases G
  · have HW := Lib.hid (HW0.out rfl)
    clear HW0 HW1 HTp HTl HCd HBd
    go_wp2
    go_ret2
    refine ⟨?_, hA1⟩
    rw [HW.out]
    rfl
  · have HW := Lib.hid (HW1.out rfl)
    have hbl := HBd.out rfl
    have HT2 := Lib.hid (fun w h => HTp.out w h (HCd.out rfl) (by omega))
    have htl := HTl.out (HCd.out rfl) (by omega)
    clear HW0 HW1 HTp HTl HCd HBd
    go_wp2_with fail
    refine (HT2.out _ (HH.out.below hA1 (Nat.le_refl _))).mono ?_
    rintro e w2 ⟨rfl, hb2⟩
    have f2 := (hb2.cell (p := ⟨w.heap.size, 2, none⟩) hsz1).trans d2
    have f3 := (hb2.cell (p := ⟨w.heap.size, 3, none⟩) hsz1).trans d3
    have hA2 : Below w.heap.size w w2 := hA1.trans (hb2.mono hA1.size)
    have s1 : ¬ 9223372036854775807 < TP.length + body.length := by omega
    clear d0 d1 d2 d3 d4
    cases hd
    · go_wp2
      go_ret2
      refine ⟨?_, hA2⟩
      rw [HW.out]
      rfl
    · go_wp2
      go_ret2
      refine ⟨?_, hA2⟩
      rw [HW.out]
      show _ = Ending.returned (wV (some (TP ++ [])))
      rw [List.append_nil]
      rfl
end Go.Proofs.YtlkbfehdiopkbaaGreatDoor
