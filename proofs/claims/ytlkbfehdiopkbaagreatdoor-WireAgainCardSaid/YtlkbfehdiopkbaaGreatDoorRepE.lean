/-
  The walk of reply's header. Conditions: what the listed variables hold; a text is shorter than a thousand million bytes.
-/
import Derived.Test.YtlkbfehdiopkbaaGreatDoorRepD
import Derived.Deep.RegionHeld3
namespace Go.Proofs.YtlkbfehdiopkbaaGreatDoor
open Go.RowKit

theorem lower_tok {s : List UInt8} (h : tokS s = true) : Lib.toLowerD s = lowS s := by
  have ha : ∀ b ∈ s, b.toNat < 128 := fun b hb => by
    unfold tokS at h
    rw [Bool.and_eq_true] at h
    have hc := List.all_eq_true.1 h.2 b hb
    unfold tokC at hc
    rw [Bool.or_eq_true] at hc
    rcases hc with hc | hc
    · have := of_decide_eq_true hc; omega
    · rw [List.any_eq_true] at hc
      obtain ⟨m, hm, he⟩ := hc
      have he := of_decide_eq_true he
      have : ∀ m ∈ markS, m.toNat < 128 := by decide
      have := this m hm
      omega
  rw [Lib.toLowerD_ascii s ha]
  unfold Lib.toLowerA lowS
  apply List.map_congr_left
  intro b _
  unfold Lib.lowerB lowC Lib.isUpperB
  simp [UInt8.le_iff_toNat_le]
theorem hdrS_bad {n v : List UInt8} (h : Lib.toLowerD n = wLength ∨ Lib.toLowerD n = wConn ∨ Lib.toLowerD n = wCoding) : hdrS ⟨n, v⟩ = false := by
  unfold hdrS
  cases ht : tokS n
  · simp
  · rw [lower_tok ht] at h
    simp only [Bool.true_and]
    rcases h with h | h | h <;> rw [h] <;> simp
theorem hdrS_val {n v : List UInt8} (h : (v.all fun c => valC c.toNat) = false) : hdrS ⟨n, v⟩ = false := by
  unfold hdrS
  simp only [h, Bool.and_false]
theorem hdrS_tok {n v : List UInt8} (h : tokS n = false) : hdrS ⟨n, v⟩ = false := by
  unfold hdrS
  simp only [h, Bool.false_and]
theorem hdrS_end {n v : List UInt8} (h1 : ¬ (Lib.toLowerD n = wLength ∨ Lib.toLowerD n = wConn ∨ Lib.toLowerD n = wCoding)) (h2 : (v.all fun c => valC c.toNat) = true) (h3 : tokS n = true) : hdrS ⟨n, v⟩ = (trimW v == v) := by
  rw [lower_tok h3] at h1
  simp only [not_or] at h1
  unfold hdrS
  simp only [h2, h3, decide_eq_false h1.1, decide_eq_false h1.2.1, decide_eq_false h1.2.2]
  simp only [Bool.true_and, Bool.or_false, Bool.not_false, Bool.and_true]
  rw [Bool.eq_iff_iff]; simp
set_option maxHeartbeats 2000000 in
set_option maxRecDepth 100000 in
set_option linter.unusedSimpArgs false in
theorem header_any (n v : List UInt8) (w : World) (hn : n.length ≤ 1000000000) (hv : v.length ≤ 1000000000) (hE : Env w) :
    Calls Tryz.prog 38 #[.agg #[.string ⟨n.toArray⟩, .string ⟨v.toArray⟩]] w (Ret (.bool (hdrS ⟨n, v⟩)) w) := by
  have hA : Below w.heap.size w (w.alloc (.cells #[.string ⟨n.toArray⟩, .string ⟨v.toArray⟩] 38)) := (Below.refl _ w).alloc (Nat.le_refl _) _
  obtain ⟨k0, k1⟩ := cell2 w (.string ⟨n.toArray⟩) (.string ⟨v.toArray⟩) 38
  have hsz : w.heap.size < (w.alloc (.cells #[.string ⟨n.toArray⟩, .string ⟨v.toArray⟩] 38)).heap.size := by simp
  have HLow := Lib.hid (toLower_any n _ hn (hE.below hA))
  have HE := Lib.hid (hE.below hA)
  obtain ⟨ANS, hA2⟩ : ∃ A, hdrS ⟨n, v⟩ = A := ⟨_, rfl⟩
  have HB := Lib.hid (fun h => hA2.symm.trans (@hdrS_bad n v h))
  have HV := Lib.hid (fun h => hA2.symm.trans (@hdrS_val n v h))
  have HT := Lib.hid (fun h => hA2.symm.trans (@hdrS_tok n v h))
  have HN := Lib.hid (fun h1 h2 h3 => hA2.symm.trans (@hdrS_end n v h1 h2 h3))
  rw [hA2]
  clear hA2
  generalize Lib.toLowerD n = L at *
  go_enter Tryz.func38, Tryz.ntmps38
  go_wp2_with fail
  generalize (w.alloc (.cells #[.string ⟨n.toArray⟩, .string ⟨v.toArray⟩] 38)) = wa at *
  refine HLow.out.mono ?_
  rintro e w1 ⟨rfl, hb1⟩
  have d0 := (hb1.cell (p := ⟨w.heap.size, 0, none⟩) hsz).trans k0
  have d1 := (hb1.cell (p := ⟨w.heap.size, 1, none⟩) hsz).trans k1
  have hA1 : Below w.heap.size w w1 := hA.trans (hb1.mono hA.size)
  have HE1 := Lib.hid (HE.out.below hb1)
  clear k0 k1 HLow HE hA
  by_cases q1 : L = wLength
  · obtain rfl := HB.out (.inl q1)
    subst q1
    clear HB HV HT HN
    unfold wLength
    go_wp2
    go_ret
    exact ⟨rfl, hA1⟩
  by_cases q2 : L = wConn
  · obtain rfl := HB.out (.inr (.inl q2))
    subst q2
    clear HB HV HT HN
    unfold wConn
    go_wp2
    go_ret
    exact ⟨rfl, hA1⟩
  by_cases q3 : L = wCoding
  · obtain rfl := HB.out (.inr (.inr q3))
    subst q3
    clear HB HV HT HN
    unfold wCoding
    go_wp2
    go_ret
    exact ⟨rfl, hA1⟩
  have HN2 := Lib.hid (HN.out (by rw [not_or, not_or]; exact ⟨q1, q2, q3⟩))
  have e1 : (L == [99, 111, 110, 116, 101, 110, 116, 45, 108, 101, 110, 103, 116, 104]) = false := by rw [beq_eq_false_iff_ne]; exact q1
  have e2 : (L == [99, 111, 110, 110, 101, 99, 116, 105, 111, 110]) = false := by rw [beq_eq_false_iff_ne]; exact q2
  have e3 : (L == [116, 114, 97, 110, 115, 102, 101, 114, 45, 101, 110, 99, 111, 100, 105, 110, 103]) = false := by rw [beq_eq_false_iff_ne]; exact q3
  clear HB HN q1 q2 q3
  go_wp2
  clear e1 e2 e3
  obtain ⟨V, hV⟩ : ∃ V, (v.all fun c => valC c.toNat) = V := ⟨_, rfl⟩
  rw [hV] at HV HN2
  have hvb : v.length ≤ 9223372036854775807 := by omega
  go_loop [15] (fun i => ∃ k : Nat, k ≤ v.length ∧ i = .int .i64 k ∧ Hid (((v.drop k).all fun c => valC c.toNat) = V)) (fun i => v.length - (intOf i).toNat)
  case atStart => exact ⟨0, Nat.zero_le _, rfl, hV⟩
  case round =>
    obtain ⟨k, hk, rfl, HK⟩ := hrel
    clear hV
    rcases hd : v.drop k with _ | ⟨x, q⟩
    · have hk2 : k = v.length := by have := drop_nil hd; omega
      rw [hd] at HK
      obtain rfl : true = V := HK.out
      clear hd HK HV
      subst hk2
      cases ht : tokS n
      · obtain rfl := HT.out ht
        have HTk := Lib.hid (fun w => token_any n w (by unfold maxLen; omega))
        rw [ht] at HTk
        clear HT HN2 ht
        go_wp2_with fail
        go_quiet ((go_at_call 65; exact quiet0 (HTk.out _)))
        go_wp2
        go_ret
        exact ⟨rfl, below_draws hA1 _⟩
      · have HN3 := Lib.hid (HN2.out rfl ht)
        have HTk := Lib.hid (fun w => token_any n w (by unfold maxLen; omega))
        rw [ht] at HTk
        have HTr := Lib.hid (fun w => trim_any v w (by unfold maxLen; omega))
        generalize trimW v = tv at *
        clear HT HN2 ht
        go_wp2_with fail
        have hS0 : w1.drew.cell? ⟨w.heap.size, 0, none⟩ = some (.string ⟨n.toArray⟩) ∧ w1.drew.cell? ⟨w.heap.size, 1, none⟩ = some (.string ⟨v.toArray⟩) ∧ Below w1.heap.size w1 w1.drew := ⟨d0, d1, below_draws (Below.refl _ _) 1⟩
        have Hk := Lib.hid (fun (wx wy : World) (h : wx.cell? ⟨w.heap.size, 0, none⟩ = some (.string ⟨n.toArray⟩) ∧ wx.cell? ⟨w.heap.size, 1, none⟩ = some (.string ⟨v.toArray⟩) ∧ Below w1.heap.size w1 wx) (hb : Below wx.heap.size wx wy) =>
          (⟨(hb.cell (World.block_lt_of_cell? wx _ h.1)).trans h.1, (hb.cell (World.block_lt_of_cell? wx _ h.2.1)).trans h.2.1, h.2.2.trans (hb.mono h.2.2.size)⟩ : wy.cell? ⟨w.heap.size, 0, none⟩ = some (.string ⟨n.toArray⟩) ∧ wy.cell? ⟨w.heap.size, 1, none⟩ = some (.string ⟨v.toArray⟩) ∧ Below w1.heap.size w1 wy))
        clear d0 d1
        go_region_held3 (fun w' => w'.cell? ⟨w.heap.size, 0, none⟩ = some (.string ⟨n.toArray⟩) ∧ w'.cell? ⟨w.heap.size, 1, none⟩ = some (.string ⟨v.toArray⟩) ∧ Below w1.heap.size w1 w')
          (first | exact hS0 | assumption | exact Hk.out _ _ (by assumption) (by assumption))
          (first
            | (go_at_call 65; refine (HTk.out _).mono ?_; rintro e w' ⟨rfl, rfl⟩)
            | (go_at_call 58; refine (HTr.out _).mono ?_; rintro e w'' ⟨rfl, hb2⟩))
        have hfin : w''.cell? ⟨w.heap.size, 0, none⟩ = some (.string ⟨n.toArray⟩) ∧ w''.cell? ⟨w.heap.size, 1, none⟩ = some (.string ⟨v.toArray⟩) ∧ Below w1.heap.size w1 w'' := by assumption
        go_wp2
        go_ret
        exact ⟨retb HN3.out.symm, hA1.trans (hfin.2.2.mono hA1.size)⟩
    · obtain ⟨hlt, hx, hq⟩ := drop_cons hd
      rw [hd, List.all_cons] at HK
      have Hq := Lib.hid hq
      clear hd hq
      have HYes := Lib.hid (fun (h : (x.toNat : Int) = 9 ∨ 32 ≤ (x.toNat : Int) ∧ (x.toNat : Int) ≠ 127) => (show valC x.toNat = true from decide_eq_true h))
      have HNo := Lib.hid (fun (h : ¬ ((x.toNat : Int) = 9 ∨ 32 ≤ (x.toNat : Int) ∧ (x.toNat : Int) ≠ 127)) => (show valC x.toNat = false from decide_eq_false h))
      have hx0 : (0 : Int) ≤ x.toNat := by omega
      by_cases r9 : (x.toNat : Int) = 9
      · have HY := Lib.hid (HYes.out (.inl r9))
        rw [HY.out, Bool.true_and] at HK
        have b9 : ((x.toNat : Int) == 9) = true := by simpa using r9
        have b9' : ((x.toNat : Int) != 9) = false := by simpa using r9
        have b1 : ((x.toNat : Int) == 127) = false := by rw [beq_eq_false_iff_ne]; omega
        clear HY HYes HNo r9
        go_wp2
        go_round
        case rel => exact ⟨k + 1, by omega, by go_num, by rw [Hq.out]; exact HK.out⟩
        case measure => simp [intOf]; omega
      · have b9 : ((x.toNat : Int) == 9) = false := by simpa using r9
        have b9' : ((x.toNat : Int) != 9) = true := by simpa using r9
        by_cases r32 : (x.toNat : Int) < 32
        · have HY := Lib.hid (HNo.out (by omega))
          rw [HY.out, Bool.false_and] at HK
          obtain rfl : false = V := HK.out
          obtain rfl := HV.out rfl
          clear HY HYes HNo r9 HK
          go_wp2
          go_ret
          exact ⟨rfl, hA1⟩
        · by_cases r127 : (x.toNat : Int) = 127
          · have HY := Lib.hid (HNo.out (by omega))
            rw [HY.out, Bool.false_and] at HK
            obtain rfl : false = V := HK.out
            obtain rfl := HV.out rfl
            have b1 : ((x.toNat : Int) == 127) = true := by simpa using r127
            clear HY HYes HNo r9 HK r127
            go_wp2
            go_ret
            exact ⟨rfl, hA1⟩
          · have HY := Lib.hid (HYes.out (by omega))
            rw [HY.out, Bool.true_and] at HK
            have b1 : ((x.toNat : Int) == 127) = false := by simpa using r127
            clear HY HYes HNo r9 r127
            go_wp2
            go_round
            case rel => exact ⟨k + 1, by omega, by go_num, by rw [Hq.out]; exact HK.out⟩
            case measure => simp [intOf]; omega
end Go.Proofs.YtlkbfehdiopkbaaGreatDoor
