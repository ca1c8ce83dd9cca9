/-
  The walk of reply.Good. Conditions: what the listed variables hold; texts are shorter than a thousand million bytes.
-/
import Derived.Test.YtlkbfehdiopkbaaGreatDoorRepE
import Derived.Test.YtlkbfehdiopkbaaGreatDoorRepA
namespace Go.Proofs.YtlkbfehdiopkbaaGreatDoor
open Go.RowKit

/-- no text of these headers is longer than so. -/
def HSmall (l : List HdrT) (n : Nat) : Prop := ∀ h ∈ l, h.name.length ≤ n ∧ h.value.length ≤ n
theorem goodR_hdr {r : RespT} (h : r.hdrs.all hdrS = false) : goodR r = false := by unfold goodR; rw [h]; rfl
/-- the last test of a good response. -/
def endR (r : RespT) : Bool := !decide (reasonS r.status = []) && decide (r.hdrs.length ≤ 32) && decide (r.body.length ≤ 65536) && !(decide (r.status = 204) && !decide (r.body = []))
theorem goodR_eq (r : RespT) : goodR r = (r.hdrs.all hdrS && endR r) := by
  unfold goodR endR
  simp only [Bool.and_assoc]
theorem endR_1 {r : RespT} (h : reasonS r.status = []) : endR r = false := by unfold endR; simp [h]
theorem endR_2 {r : RespT} (h : ¬ r.hdrs.length ≤ 32) : endR r = false := by unfold endR; simp [h]
theorem endR_3 {r : RespT} (h : ¬ r.body.length ≤ 65536) : endR r = false := by unfold endR; simp [h]
theorem endR_4 {r : RespT} (h1 : ¬ reasonS r.status = []) (h2 : r.hdrs.length ≤ 32) (h3 : r.body.length ≤ 65536) (h4 : ¬ r.status = 204) : endR r = true := by unfold endR; simp [h1, h2, h3, h4]
theorem endR_5 {r : RespT} (h1 : ¬ reasonS r.status = []) (h2 : r.hdrs.length ≤ 32) (_ : r.body.length ≤ 65536) (h4 : r.body = []) : endR r = true := by unfold endR; simp [h1, h2, h4]
theorem endR_6 {r : RespT} (h4 : r.status = 204) (h5 : ¬ r.body = []) : endR r = false := by unfold endR; simp [h4, h5]
set_option maxHeartbeats 400000 in
set_option maxRecDepth 100000 in
set_option linter.unusedSimpArgs false in
theorem good_any (r : RespT) (hv : Value) (w : World) (hh : Hdrs w hv r.hdrs) (hs : HSmall r.hdrs 1000000000) (hE : Env w) :
    Calls Tryz.prog 23 #[respV r hv] w (Ret (.bool (goodR r)) w) := by
  have HH := Lib.hid hh
  have HSm := Lib.hid hs
  obtain ⟨A, cap, rfl, hcap, hcm, -⟩ := hh
  unfold maxLen at hcm
  clear hs
  have HG := Lib.hid (goodR_eq r)
  generalize goodR r = ANS at *
  obtain ⟨V, hV⟩ : ∃ V, r.hdrs.all hdrS = V := ⟨_, rfl⟩
  rw [hV] at HG
  have E1 := Lib.hid (@endR_1 r)
  have E2 := Lib.hid (@endR_2 r)
  have E3 := Lib.hid (@endR_3 r)
  have E4 := Lib.hid (@endR_4 r)
  have E5 := Lib.hid (@endR_5 r)
  have E6 := Lib.hid (@endR_6 r)
  generalize endR r = En at *
  obtain ⟨st, hdrs, body, hd, cl⟩ := r
  unfold respV
  simp only at *
  obtain ⟨c0, c1, c2, -, -⟩ := cell5 w (.int .i64 st) (.slice A hdrs.length cap) (.string ⟨body.toArray⟩) (.bool hd) (.bool cl) 49
  have hA : Below w.heap.size w (w.alloc (.cells #[.int .i64 st, .slice A hdrs.length cap, .string ⟨body.toArray⟩, .bool hd, .bool cl] 49)) := (Below.refl _ w).alloc (Nat.le_refl _) _
  have hsz : w.heap.size < (w.alloc (.cells #[.int .i64 st, .slice A hdrs.length cap, .string ⟨body.toArray⟩, .bool hd, .bool cl] 49)).heap.size := by simp
  go_enter Tryz.func23, Tryz.ntmps23
  go_wp2_with fail
  generalize (w.alloc (.cells #[.int .i64 st, .slice A hdrs.length cap, .string ⟨body.toArray⟩, .bool hd, .bool cl] 49)) = wa at *
  have HHa := Lib.hid (HH.out.below hA (Nat.le_refl _))
  have HE := Lib.hid (hE.below hA)
  clear HH
  go_loopw [8] (fun i wr => ∃ k : Nat, k ≤ hdrs.length ∧ i = .int .i64 k ∧ Hid ((hdrs.drop k).all hdrS = V) ∧ Below wa.heap.size wa wr) (fun i _ => hdrs.length - (intOf i).toNat)
  case atStart => exact ⟨0, Nat.zero_le _, rfl, hV, Below.refl _ _⟩
  case round =>
    obtain ⟨k, hk, rfl, HK, hb⟩ := hrel
    clear hV
    have d0 := (hb.cell (p := ⟨w.heap.size, 0, none⟩) hsz).trans c0
    have d1 := (hb.cell (p := ⟨w.heap.size, 1, none⟩) hsz).trans c1
    have d2 := (hb.cell (p := ⟨w.heap.size, 2, none⟩) hsz).trans c2
    have hAr : Below w.heap.size w wr := hA.trans (hb.mono hA.size)
    clear c0 c1 c2
    rcases hd' : hdrs.drop k with _ | ⟨x, q⟩
    · have hk2 : k = hdrs.length := by have := drop_nil hd'; omega
      rw [hd'] at HK
      obtain rfl : true = V := HK.out
      rw [Bool.true_and] at HG
      obtain rfl : ANS = En := HG.out
      clear hd' HK HG HHa
      subst hk2
      have HRs := Lib.hid (reason_any st)
      generalize reasonS st = R at *
      by_cases hR : R = []
      · obtain rfl := E1.out hR
        subst hR
        clear E1 E2 E3 E4 E5 E6
        go_wp2_with (go_at_call 25; refine (HRs.out _).mono ?_; rintro e w2 ⟨rfl, rfl⟩)
        go_ret
        exact ⟨rfl, hAr⟩
      · have hR2 : R.isEmpty = false := by simpa using hR
        by_cases h32 : hdrs.length ≤ 32
        · by_cases hb6 : body.length ≤ 65536
          · have h32' : decide ((hdrs.length : Int) ≤ 32) = true := by simp; omega
            have hb6' : decide ((body.length : Int) ≤ 65536) = true := by simp; omega
            by_cases h4 : st = 204
            · have b4 : (st == 204) = true := by simpa using h4
              have b4' : (st != 204) = false := by simpa using h4
              by_cases h5 : body = []
              · obtain rfl := E5.out hR h32 hb6 h5
                subst h5
                clear E1 E2 E3 E4 E5 E6 hR h4
                go_wp2_with (go_at_call 25; refine (HRs.out _).mono ?_; rintro e w2 ⟨rfl, rfl⟩)
                go_ret
                exact ⟨rfl, hAr⟩
              · obtain rfl := E6.out h4 h5
                have h5b : body.isEmpty = false := by simpa using h5
                clear E1 E2 E3 E4 E5 E6 hR h4 h5
                go_wp2_with (go_at_call 25; refine (HRs.out _).mono ?_; rintro e w2 ⟨rfl, rfl⟩)
                go_ret
                exact ⟨rfl, hAr⟩
            · obtain rfl := E4.out hR h32 hb6 h4
              have b4 : (st == 204) = false := by simpa using h4
              have b4' : (st != 204) = true := by simpa using h4
              clear E1 E2 E3 E4 E5 E6 hR h4
              go_wp2_with (go_at_call 25; refine (HRs.out _).mono ?_; rintro e w2 ⟨rfl, rfl⟩)
              go_ret
              exact ⟨rfl, hAr⟩
          · obtain rfl := E3.out hb6
            have h32' : decide ((hdrs.length : Int) ≤ 32) = true := by simp; omega
            have hb6' : decide ((body.length : Int) ≤ 65536) = false := by simp; omega
            clear E1 E2 E3 E4 E5 E6 hR
            go_wp2_with (go_at_call 25; refine (HRs.out _).mono ?_; rintro e w2 ⟨rfl, rfl⟩)
            go_ret
            exact ⟨rfl, hAr⟩
        · obtain rfl := E2.out h32
          have h32' : decide ((hdrs.length : Int) ≤ 32) = false := by simp; omega
          clear E1 E2 E3 E4 E5 E6 hR
          go_wp2_with (go_at_call 25; refine (HRs.out _).mono ?_; rintro e w2 ⟨rfl, rfl⟩)
          go_ret
          exact ⟨rfl, hAr⟩
    · obtain ⟨hlt, hx, hr⟩ := drop_consA hd'
      obtain ⟨A', cap', hva, _, _, hac⟩ := (HHa.out.below hb (Nat.le_refl _)).at
      injection hva with e1 e2 e3
      subst e1 e3
      clear e2
      obtain ⟨b, o, rfl, hbl, e0, e1⟩ := hac k x hx
      rw [hd', List.all_cons] at HK
      obtain ⟨hn1, hv1⟩ := HSm.out x (List.mem_of_getElem? hx)
      have Hr := Lib.hid hr
      clear hd' hr hx hac
      obtain ⟨n, v⟩ := x
      simp only at e0 e1 hn1 hv1
      have hba : Below wa.heap.size wa (wr.alloc (.cells #[.string ⟨n.toArray⟩, .string ⟨v.toArray⟩] 38)) := hb.alloc hb.size _
      have HHd := Lib.hid (header_any n v (wr.alloc (.cells #[.string ⟨n.toArray⟩, .string ⟨v.toArray⟩] 38)) hn1 hv1 (HE.out.below hba))
      obtain ⟨f0, f1⟩ := cell2 wr (.string ⟨n.toArray⟩) (.string ⟨v.toArray⟩) 38
      generalize hdrS ⟨n, v⟩ = y at *
      cases y
      · rw [Bool.false_and] at HK
        obtain rfl : false = V := HK.out
        rw [Bool.false_and] at HG
        obtain rfl : ANS = false := HG.out
        clear HG HK E1 E2 E3 E4 E5 E6
        go_wp2_with (go_at_call 38; refine HHd.out.mono ?_; rintro e w2 ⟨rfl, hb2⟩)
        go_ret
        exact ⟨rfl, hA.trans ((hba.trans (hb2.mono hba.size)).mono hA.size)⟩
      · rw [Bool.true_and] at HK
        clear E1 E2 E3 E4 E5 E6
        go_wp2_with (go_at_call 38; refine HHd.out.mono ?_; rintro e w2 ⟨rfl, hb2⟩)
        go_roundw
        case rel => exact ⟨k + 1, by omega, by go_num, by rw [Hr.out]; exact HK.out, hba.trans (hb2.mono hba.size)⟩
        case measure => simp [intOf]; omega
end Go.Proofs.YtlkbfehdiopkbaaGreatDoor
