/-
  The walk of the reference's Good. Conditions: texts are shorter than a thousand million bytes.
-/
import Derived.Test.YtlkbfehdiopkbaaGreatDoorRepF
namespace Go.Proofs.YtlkbfehdiopkbaaGreatDoor
open Go.RowKit

/-- a header's tests, all but those of its value's bytes. -/
def preH (n v : List UInt8) : Bool := tokS n && !(decide (lowS n = wLength) || decide (lowS n = wConn) || decide (lowS n = wCoding)) && decide (trimW v = v)
theorem hdrS_pre (n v : List UInt8) : hdrS ⟨n, v⟩ = (preH n v && v.all fun c => valC c.toNat) := rfl
theorem preH_1 {n v : List UInt8} (h : tokS n = false) : preH n v = false := by unfold preH; rw [h]; rfl
theorem preH_2 {n v : List UInt8} (h : lowS n = wLength ∨ lowS n = wConn ∨ lowS n = wCoding) : preH n v = false := by unfold preH; rcases h with h | h | h <;> simp [h]
theorem preH_3 {n v : List UInt8} (h : ¬ trimW v = v) : preH n v = false := by unfold preH; simp [h]
theorem preH_4 {n v : List UInt8} (h1 : tokS n = true) (h2 : ¬ lowS n = wLength) (h3 : ¬ lowS n = wConn) (h4 : ¬ lowS n = wCoding) (h5 : trimW v = v) : preH n v = true := by unfold preH; simp [h1, h2, h3, h4, h5]
set_option maxHeartbeats 2000000 in
set_option maxRecDepth 100000 in
set_option linter.unusedSimpArgs false in
theorem rgood_any (r : RespT) (hv : Value) (w : World) (hh : Hdrs w hv r.hdrs) (hs : HSmall r.hdrs 1000000000) :
    Calls Tryz.prog 24 #[respV r hv] w (Ret (.bool (goodR r)) w) := by
  have HH := Lib.hid hh
  have HSm := Lib.hid hs
  obtain ⟨A, cap, rfl, hcap, hcm, -⟩ := hh
  unfold maxLen at hcm
  clear hs
  have HG := Lib.hid (goodR_eq r)
  generalize goodR r = ANS at *
  obtain ⟨V, hV⟩ : ∃ V, r.hdrs.all hdrS = V := ⟨_, rfl⟩
  rw [hV] at HG
  have E1 := Lib.hid (@endR_1 r)
  have E2 := Lib.hid (@endR_2 r)
  have E3 := Lib.hid (@endR_3 r)
  have E4 := Lib.hid (@endR_4 r)
  have E5 := Lib.hid (@endR_5 r)
  have E6 := Lib.hid (@endR_6 r)
  generalize endR r = En at *
  obtain ⟨st, hdrs, body, hd, cl⟩ := r
  unfold respV
  simp only at *
  obtain ⟨c0, c1, c2, -, -⟩ := cell5 w (.int .i64 st) (.slice A hdrs.length cap) (.string ⟨body.toArray⟩) (.bool hd) (.bool cl) 49
  have hA : Below w.heap.size w (w.alloc (.cells #[.int .i64 st, .slice A hdrs.length cap, .string ⟨body.toArray⟩, .bool hd, .bool cl] 49)) := (Below.refl _ w).alloc (Nat.le_refl _) _
  have hsz : w.heap.size < (w.alloc (.cells #[.int .i64 st, .slice A hdrs.length cap, .string ⟨body.toArray⟩, .bool hd, .bool cl] 49)).heap.size := by simp
  have HRs := Lib.hid (rreason_any st)
  generalize reasonS st = R at *
  have HHa := Lib.hid (HH.out.below hA (Nat.le_refl _))
  clear HH
  go_enter Tryz.func24, Tryz.ntmps24
  go_wp2_with fail
  generalize (w.alloc (.cells #[.int .i64 st, .slice A hdrs.length cap, .string ⟨body.toArray⟩, .bool hd, .bool cl] 49)) = wa at *
  refine (HRs.out _).mono ?_
  rintro e w2 ⟨rfl, rfl⟩
  have hfirst : (En = false ∧ ((R = [] ∨ ¬ hdrs.length ≤ 32 ∨ ¬ body.length ≤ 65536) ∨ (st = 204 ∧ ¬ body = []))) ∨ (En = true ∧ ¬ R = [] ∧ hdrs.length ≤ 32 ∧ body.length ≤ 65536 ∧ (¬ st = 204 ∨ body = [])) := by
    by_cases hR : R = []
    · exact .inl ⟨E1.out hR, .inl (.inl hR)⟩
    by_cases h32 : hdrs.length ≤ 32
    · by_cases hb6 : body.length ≤ 65536
      · by_cases h4 : st = 204
        · by_cases h5 : body = []
          · exact .inr ⟨E5.out hR h32 hb6 h5, hR, h32, hb6, .inr h5⟩
          · exact .inl ⟨E6.out h4 h5, .inr ⟨h4, h5⟩⟩
        · exact .inr ⟨E4.out hR h32 hb6 h4, hR, h32, hb6, .inl h4⟩
      · exact .inl ⟨E3.out hb6, .inl (.inr (.inr hb6))⟩
    · exact .inl ⟨E2.out h32, .inl (.inr (.inl h32))⟩
  clear E1 E2 E3 E4 E5 E6
  rcases hfirst with ⟨rfl, hno⟩ | ⟨rfl, hR, h32, hb6, h45⟩
  · rw [Bool.and_false] at HG
    obtain rfl : ANS = false := HG.out
    clear HG HHa
    by_cases hR : R = []
    · subst hR
      clear hno
      go_wp2
      go_ret
      exact ⟨rfl, hA⟩
    have hR2 : R.isEmpty = false := by simpa using hR
    by_cases h32 : hdrs.length ≤ 32
    · have h32' : decide (32 < (hdrs.length : Int)) = false := by simp; omega
      by_cases hb6 : body.length ≤ 65536
      · have hb6' : decide (65536 < (body.length : Int)) = false := by simp; omega
        have h4 : st = 204 ∧ ¬ body = [] := by
          rcases hno with (h | h | h) | h
          · exact absurd h hR
          · exact absurd h32 h
          · exact absurd hb6 h
          · exact h
        have b4 : (st == 204) = true := by simpa using h4.1
        have h5b : body.isEmpty = false := by simpa using h4.2
        clear hno hR h4
        go_wp2
        go_ret
        exact ⟨rfl, hA⟩
      · have hb6' : decide (65536 < (body.length : Int)) = true := by simp; omega
        clear hno hR
        go_wp2
        go_ret
        exact ⟨rfl, hA⟩
    · have h32' : decide (32 < (hdrs.length : Int)) = true := by simp; omega
      clear hno hR
      go_wp2
      go_ret
      exact ⟨rfl, hA⟩
  · rw [Bool.and_true] at HG
    obtain rfl : V = ANS := HG.out.symm
    clear HG
    have hR2 : R.isEmpty = false := by simpa using hR
    have h32' : decide (32 < (hdrs.length : Int)) = false := by simp; omega
    have hb6' : decide (65536 < (body.length : Int)) = false := by simp; omega
    have HV0 := Lib.hid hV
    clear hV
    rcases h45 with h4 | rfl
    case' inl =>
      have b4 : (st == 204) = false := by simpa using h4
      clear h4 hR
      go_wp2_with fail
      clear b4
    case' inr =>
      clear hR
      have hb5 : ([] : List UInt8).isEmpty = true := rfl
      by_cases h4 : st = 204
      case' pos =>
        have b4 : (st == 204) = true := by simpa using h4
        clear h4
        go_wp2_with fail
        clear b4
      case' neg =>
        have b4 : (st == 204) = false := by simpa using h4
        clear h4
        go_wp2_with fail
        clear b4
    all_goals
      clear hR2 h32' hb6' c0 c2
      go_loopw [3] (fun i wr => ∃ k : Nat, k ≤ hdrs.length ∧ i = .int .i64 k ∧ Hid ((hdrs.drop k).all hdrS = V) ∧ Below wa.heap.size wa wr) (fun i _ => hdrs.length - (intOf i).toNat)
      case atStart => exact ⟨0, Nat.zero_le _, rfl, HV0, Below.refl _ _⟩
      case round =>
        obtain ⟨k, hk, rfl, HK, hb⟩ := hrel
        clear HV0
        have d1 := (hb.cell (p := ⟨w.heap.size, 1, none⟩) hsz).trans c1
        have hAr : Below w.heap.size w wr := hA.trans (hb.mono hA.size)
        clear c1
        rcases hd' : hdrs.drop k with _ | ⟨x, q⟩
        · have hk2 : k = hdrs.length := by have := drop_nil hd'; omega
          rw [hd'] at HK
          obtain rfl : true = V := HK.out
          clear hd' HK HHa
          subst hk2
          go_wp2
          go_ret
          exact ⟨rfl, hAr⟩
        · obtain ⟨hlt, hx, hr⟩ := drop_consA hd'
          obtain ⟨A', cap', hva, _, _, hac⟩ := (HHa.out.below hb (Nat.le_refl _)).at
          injection hva with e1 e2 e3
          subst e1 e3
          clear e2
          obtain ⟨b, o, rfl, hbl, e0, e1⟩ := hac k x hx
          rw [hd', List.all_cons] at HK
          obtain ⟨hn1, hv1⟩ := HSm.out x (List.mem_of_getElem? hx)
          have Hr := Lib.hid hr
          clear hd' hr hx hac
          obtain ⟨n, v⟩ := x
          simp only at e0 e1 hn1 hv1
          rw [hdrS_pre] at HK
          have hba : Below wa.heap.size wa (wr.alloc (.cells #[.string ⟨n.toArray⟩, .string ⟨v.toArray⟩] 38)) := hb.alloc hb.size _
          have HLw := Lib.hid (rlower_any n (wr.alloc (.cells #[.string ⟨n.toArray⟩, .string ⟨v.toArray⟩] 38)) (by unfold maxLen; omega))
          have HTk := Lib.hid (fun w => rtoken_any n w (by unfold maxLen; omega))
          have HTr := Lib.hid (fun w => rtrim_any v w (by unfold maxLen; omega))
          obtain ⟨f0, f1⟩ := cell2 wr (.string ⟨n.toArray⟩) (.string ⟨v.toArray⟩) 38
          have hsw : wr.heap.size < (wr.alloc (.cells #[.string ⟨n.toArray⟩, .string ⟨v.toArray⟩] 38)).heap.size := by simp
          have P1 := Lib.hid (@preH_1 n v)
          have P2 := Lib.hid (@preH_2 n v)
          have P3 := Lib.hid (@preH_3 n v)
          have P4 := Lib.hid (@preH_4 n v)
          generalize tokS n = T at *
          generalize lowS n = L at *
          generalize trimW v = tv at *
          generalize preH n v = PH at *
          go_wp2_with fail
          refine HLw.out.mono ?_
          rintro e w3 ⟨rfl, hb3⟩
          have g0 := (hb3.cell (p := ⟨wr.heap.size, 0, none⟩) hsw).trans f0
          have g1 := (hb3.cell (p := ⟨wr.heap.size, 1, none⟩) hsw).trans f1
          have hb3' := hba.trans (hb3.mono hba.size)
          clear HLw f0 f1 hb3 hba e0 e1 d1 hsw
          cases T
          · obtain rfl := P1.out rfl
            rw [Bool.false_and, Bool.false_and] at HK
            obtain rfl : false = V := HK.out
            clear HK P1 P2 P3 P4
            go_wp2_with fail
            go_quiet ((first | (go_at_call 40; exact quiet0 (HTk.out _)) | (go_at_call 41; exact quiet0 (HTr.out _))))
            go_wp2
            go_ret
            exact ⟨rfl, below_draws (hA.trans (hb3'.mono hA.size)) _⟩
          · by_cases q1 : L = wLength
            · obtain rfl := P2.out (.inl q1)
              rw [Bool.false_and, Bool.false_and] at HK
              obtain rfl : false = V := HK.out
              subst q1
              clear HK P1 P2 P3 P4
              unfold wLength
              go_wp2_with fail
              go_quiet ((first | (go_at_call 40; exact quiet0 (HTk.out _)) | (go_at_call 41; exact quiet0 (HTr.out _))))
              go_wp2
              go_ret
              exact ⟨rfl, below_draws (hA.trans (hb3'.mono hA.size)) _⟩
            by_cases q2 : L = wConn
            · obtain rfl := P2.out (.inr (.inl q2))
              rw [Bool.false_and, Bool.false_and] at HK
              obtain rfl : false = V := HK.out
              subst q2
              clear HK P1 P2 P3 P4 q1
              unfold wConn
              go_wp2_with fail
              go_quiet ((first | (go_at_call 40; exact quiet0 (HTk.out _)) | (go_at_call 41; exact quiet0 (HTr.out _))))
              go_wp2
              go_ret
              exact ⟨rfl, below_draws (hA.trans (hb3'.mono hA.size)) _⟩
            by_cases q3 : L = wCoding
            · obtain rfl := P2.out (.inr (.inr q3))
              rw [Bool.false_and, Bool.false_and] at HK
              obtain rfl : false = V := HK.out
              subst q3
              clear HK P1 P2 P3 P4 q1 q2
              unfold wCoding
              go_wp2_with fail
              go_quiet ((first | (go_at_call 40; exact quiet0 (HTk.out _)) | (go_at_call 41; exact quiet0 (HTr.out _))))
              go_wp2
              go_ret
              exact ⟨rfl, below_draws (hA.trans (hb3'.mono hA.size)) _⟩
            have e1 : (L == [99, 111, 110, 116, 101, 110, 116, 45, 108, 101, 110, 103, 116, 104]) = false := by rw [beq_eq_false_iff_ne]; exact q1
            have e2 : (L == [99, 111, 110, 110, 101, 99, 116, 105, 111, 110]) = false := by rw [beq_eq_false_iff_ne]; exact q2
            have e3 : (L == [116, 114, 97, 110, 115, 102, 101, 114, 45, 101, 110, 99, 111, 100, 105, 110, 103]) = false := by rw [beq_eq_false_iff_ne]; exact q3
            by_cases q4 : tv = v
            · obtain rfl := P4.out rfl q1 q2 q3 q4
              subst q4
              rw [Bool.true_and] at HK
              clear P1 P2 P3 P4 q1 q2 q3
              go_wp2_with fail
              go_quiet ((first | (go_at_call 40; exact quiet0 (HTk.out _)) | (go_at_call 41; exact quiet0 (HTr.out _))))
              go_wp2
              clear e1 e2 e3 HTk HTr
              obtain ⟨W, hW⟩ : ∃ W, (tv.all fun c => valC c.toNat) = W := ⟨_, rfl⟩
              rw [hW] at HK
              have htb : tv.length ≤ 9223372036854775807 := by omega
              go_loop [6] (fun i => ∃ j : Nat, j ≤ tv.length ∧ i = .int .i64 j ∧ Hid (((tv.drop j).all fun c => valC c.toNat) = W)) (fun i => tv.length - (intOf i).toNat)
              case atStart => exact ⟨0, Nat.zero_le _, rfl, hW⟩
              case round =>
                obtain ⟨j, hj, rfl, HJ⟩ := hrel
                clear hW
                rcases hd2 : tv.drop j with _ | ⟨y, z⟩
                · have hk2 : j = tv.length := by have := drop_nil hd2; omega
                  rw [hd2] at HJ
                  obtain rfl : true = W := HJ.out
                  rw [Bool.true_and] at HK
                  clear hd2 HJ
                  subst hk2
                  go_wp2
                  refine ⟨⟨k + 1, by omega, by go_num, by rw [Hr.out]; exact HK.out, below_draws hb3' _⟩, ?_⟩
                  simp [intOf]; omega
                · obtain ⟨hlt2, hx2, hq2⟩ := drop_cons hd2
                  rw [hd2, List.all_cons] at HJ
                  have Hq := Lib.hid hq2
                  clear hd2 hq2
                  have HYes := Lib.hid (fun (h : (y.toNat : Int) = 9 ∨ 32 ≤ (y.toNat : Int) ∧ (y.toNat : Int) ≠ 127) => (show valC y.toNat = true from decide_eq_true h))
                  have HNo := Lib.hid (fun (h : ¬ ((y.toNat : Int) = 9 ∨ 32 ≤ (y.toNat : Int) ∧ (y.toNat : Int) ≠ 127)) => (show valC y.toNat = false from decide_eq_false h))
                  by_cases r9 : (y.toNat : Int) = 9
                  · have HY := Lib.hid (HYes.out (.inl r9))
                    rw [HY.out, Bool.true_and] at HJ
                    have b9 : ((y.toNat : Int) == 9) = true := by simpa using r9
                    have b9' : ((y.toNat : Int) != 9) = false := by simpa using r9
                    have b1 : ((y.toNat : Int) == 127) = false := by rw [beq_eq_false_iff_ne]; omega
                    clear HY HYes HNo r9
                    go_wp2
                    go_round
                    case rel => exact ⟨j + 1, by omega, by go_num, by rw [Hq.out]; exact HJ.out⟩
                    case measure => simp [intOf]; omega
                  · have b9 : ((y.toNat : Int) == 9) = false := by simpa using r9
                    have b9' : ((y.toNat : Int) != 9) = true := by simpa using r9
                    by_cases r32 : (y.toNat : Int) < 32
                    · have HY := Lib.hid (HNo.out (by omega))
                      rw [HY.out, Bool.false_and] at HJ
                      obtain rfl : false = W := HJ.out
                      rw [Bool.false_and] at HK
                      obtain rfl : false = V := HK.out
                      clear HY HYes HNo r9 HJ HK
                      go_wp2
                      go_ret
                      exact ⟨rfl, below_draws (hA.trans (hb3'.mono hA.size)) _⟩
                    · by_cases r127 : (y.toNat : Int) = 127
                      · have HY := Lib.hid (HNo.out (by omega))
                        rw [HY.out, Bool.false_and] at HJ
                        obtain rfl : false = W := HJ.out
                        rw [Bool.false_and] at HK
                        obtain rfl : false = V := HK.out
                        have b1 : ((y.toNat : Int) == 127) = true := by simpa using r127
                        clear HY HYes HNo r9 HJ HK r127
                        go_wp2
                        go_ret
                        exact ⟨rfl, below_draws (hA.trans (hb3'.mono hA.size)) _⟩
                      · have HY := Lib.hid (HYes.out (by omega))
                        rw [HY.out, Bool.true_and] at HJ
                        have b1 : ((y.toNat : Int) == 127) = false := by simpa using r127
                        clear HY HYes HNo r9 r127
                        go_wp2
                        go_round
                        case rel => exact ⟨j + 1, by omega, by go_num, by rw [Hq.out]; exact HJ.out⟩
                        case measure => simp [intOf]; omega
            · obtain rfl := P3.out q4
              rw [Bool.false_and, Bool.false_and] at HK
              obtain rfl : false = V := HK.out
              have b4 : (tv == v) = false := by rw [beq_eq_false_iff_ne]; exact q4
              have b4' : (tv != v) = true := by rw [bne_iff_ne]; exact q4
              clear P1 P2 P3 P4 q1 q2 q3 q4 HK
              go_wp2_with fail
              go_quiet ((first | (go_at_call 40; exact quiet0 (HTk.out _)) | (go_at_call 41; exact quiet0 (HTr.out _))))
              go_wp2
              go_ret
              exact ⟨rfl, below_draws (hA.trans (hb3'.mono hA.size)) _⟩
end Go.Proofs.YtlkbfehdiopkbaaGreatDoor
