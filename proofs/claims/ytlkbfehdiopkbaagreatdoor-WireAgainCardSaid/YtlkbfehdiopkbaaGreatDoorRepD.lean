/-
  The walks of reply's token and header. Conditions: what the listed variables hold; a text is shorter than a thousand million bytes.
-/
import Derived.Test.YtlkbfehdiopkbaaGreatDoorRepB
import Derived.Test.YtlkbfehdiopkbaaGreatDoorRepC
namespace Go.Proofs.YtlkbfehdiopkbaaGreatDoor
open Go.RowKit

theorem indexByte_mem (c : UInt8) : ∀ l : List UInt8, Lib.indexByte l c < 0 ↔ c ∉ l
  | [] => by simp [Lib.indexByte]
  | x :: l => by
    have ih := indexByte_mem c l
    have hge := Lib.indexByte_ge l c
    unfold Lib.indexByte
    by_cases h : x = c
    · subst h; simp
    · have h2 : (x == c) = false := by simpa using h
      have h3 : ¬ c = x := fun e => h e.symm
      simp only [h2, Bool.false_eq_true, if_false]
      by_cases h1 : Lib.indexByte l c = -1
      · have := ih.1 (by omega)
        simp [h1, h3, this]
      · have h4 : (Lib.indexByte l c == -1) = false := by simpa using h1
        simp only [h4, Bool.false_eq_true, if_false]
        have : ¬ c ∉ l := fun hh => by have := ih.2 hh; omega
        simp [h3]
        constructor
        · omega
        · intro hh; exact absurd hh this
theorem mark_index (c : UInt8) : (markS.any fun m => decide ((m.toNat : Int) = (c.toNat : Int))) = !decide (Lib.indexByte markS c < 0) := by
  have h := indexByte_mem c markS
  by_cases hm : c ∈ markS
  · rw [decide_eq_false (by rw [h]; simp [hm])]
    rw [Bool.not_false, List.any_eq_true]
    exact ⟨c, hm, by simp⟩
  · rw [decide_eq_true (h.2 hm)]
    rw [Bool.not_true, List.any_eq_false]
    intro m hmm
    simp only [decide_eq_true_eq]
    intro e
    exact hm (by rwa [← UInt8.toNat_inj.1 (show m.toNat = c.toNat by omega)])
set_option maxHeartbeats 2000000 in
set_option maxRecDepth 100000 in
set_option linter.unusedSimpArgs false in
theorem token_any (s : List UInt8) (w : World) (hs : s.length ≤ maxLen) :
    Calls Tryz.prog 65 #[.string ⟨s.toArray⟩] w (Same0 (.bool (tokS s)) w) := by
  unfold maxLen at hs
  obtain ⟨ANS, hA⟩ : ∃ A, (s.all fun c => tokC c.toNat) = A := ⟨_, rfl⟩
  have HA2 := Lib.hid (show tokS s = (ANS && !decide (s = [])) by
    rw [← hA]
    unfold tokS
    rw [Bool.and_comm])
  go_enter Tryz.func65, Tryz.ntmps65
  go_wp2
  go_loop [8] (fun i => ∃ k : Nat, k ≤ s.length ∧ i = .int .i64 k ∧ Hid (((s.drop k).all fun c => tokC c.toNat) = ANS)) (fun i => s.length - (intOf i).toNat)
  case atStart => exact ⟨0, Nat.zero_le _, rfl, hA⟩
  case round =>
    obtain ⟨k, hk, rfl, HK⟩ := hrel
    clear hA
    rcases hd : s.drop k with _ | ⟨x, q⟩
    · have hk2 : k = s.length := by have := drop_nil hd; omega
      rw [hd] at HK
      obtain rfl : true = ANS := HK.out
      clear hd HK
      subst hk2
      go_wp2
      go_ret
      refine ⟨retb ?_, rfl⟩
      rw [HA2.out]
      cases s <;> simp
    · obtain ⟨hlt, hx, hq⟩ := drop_cons hd
      rw [hd, List.all_cons, tokC_eq, mark_index] at HK
      have Hq := Lib.hid hq
      clear hd hq
      have HI := Lib.hid (indexByte_any markS x w)
      unfold markS at HI
      rw [show ([33, 35, 36, 37, 38, 39, 42, 43, 45, 46, 94, 95, 96, 124, 126] : List UInt8) = markS from rfl] at HI
      have HL := Lib.hid (letC_yes (x.toNat : Int))
      have HN := Lib.hid (letC_no (x.toNat : Int))
      generalize Lib.indexByte markS x = ix at HK HI
      by_cases a1 : 97 ≤ (x.toNat : Int) <;> by_cases a2 : (x.toNat : Int) ≤ 122 <;> by_cases a3 : 65 ≤ (x.toNat : Int) <;> by_cases a4 : (x.toNat : Int) ≤ 90 <;> by_cases a5 : 48 ≤ (x.toNat : Int) <;> by_cases a6 : (x.toNat : Int) ≤ 57 <;> first | (exfalso; omega) | skip
      all_goals
        first
          | (have hL := Lib.hid (HL.out (by omega))
             rw [hL.out, Bool.true_or, Bool.true_and] at HK
             clear hL HL HN HI
             go_wp2
             go_round
             case rel => exact ⟨k + 1, by omega, by go_num, by rw [Hq.out]; exact HK.out⟩
             case measure => simp [intOf]; omega)
          | (have hL := Lib.hid (HN.out (by omega))
             rw [hL.out, Bool.false_or] at HK
             clear hL HL HN
             by_cases hix : ix < 0
             · have hix2 : decide (ix < 0) = true := decide_eq_true hix
               rw [hix2, Bool.not_true, Bool.false_and] at HK
               obtain rfl : false = ANS := HK.out
               clear HK
               go_wp2_with (refine HI.out.mono ?_; rintro e w1 ⟨rfl, rfl⟩)
               go_ret
               refine ⟨retb ?_, rfl⟩
               rw [HA2.out]; rfl
             · have hix2 : decide (ix < 0) = false := decide_eq_false hix
               rw [hix2, Bool.not_false, Bool.true_and] at HK
               go_wp2_with (refine HI.out.mono ?_; rintro e w1 ⟨rfl, rfl⟩)
               go_round
               case rel => exact ⟨k + 1, by omega, by go_num, by rw [Hq.out]; exact HK.out⟩
               case measure => simp [intOf]; omega)
end Go.Proofs.YtlkbfehdiopkbaaGreatDoor
