/-
  The walks of the reference's test of a path, of what a piece says (both), of the pieces between slashes. Condition: a string's length is an int's; the package variables hold what the row lists; where bytes are gathered, they are no more than a slice may hold.
-/
import Derived.Test.YtilmgfkpgkpmeaaDoorUriD
namespace Go.Proofs.YtilmgfkpgkpmeaaDoor
open Go.RowKit

set_option maxHeartbeats 400000 in
set_option maxRecDepth 100000 in
theorem rgood_any (v : Value) (p : List (List UInt8)) (w : World) (hp : Strs w v p) (hf : Fits p) :
    Calls Tryd.prog 14 #[v] w (Same0 (.bool (goodS p)) w) := by
  have Hp := Lib.hid hp
  have HF := Lib.hid hf
  obtain ⟨pa, ca, rfl, ha1, ha2, hac⟩ := hp
  unfold maxLen at ha2
  have HAC := Lib.hid hac
  clear hac
  have HG := Lib.hid (show goodS p = (p.all segS && decide (p.length ≤ 12)) from rfl)
  obtain ⟨ANS, hA⟩ : ∃ A, p.all segS = A := ⟨_, rfl⟩
  rw [hA] at HG
  clear hf
  go_enter Tryd.func14, Tryd.ntmps14
  go_wp2
  go_loop [3, 4] (fun i _ => ∃ k : Nat, k ≤ p.length ∧ i = .int .i64 k ∧ Hid ((p.drop k).all segS = ANS)) (fun i _ => p.length - (intOf i).toNat)
  case atStart => exact ⟨0, Nat.zero_le _, rfl, hA⟩
  case round =>
    obtain ⟨k, hk, rfl, H⟩ := hrel
    clear hA
    rcases hd : p.drop k with _ | ⟨x, r⟩
    · have hk2 : k = p.length := by have := drop_nil hd; omega
      rw [hd] at H
      subst hk2
      obtain rfl : true = ANS := H.out
      clear hd
      go_wp2
      go_ret
      exact ⟨retb (by rw [HG.out]; simp; omega), rfl⟩
    · obtain ⟨hlt, hx, hr⟩ := drop_consA hd
      obtain ⟨ba, oa, rfl, _, hca⟩ := HAC.out _ _ hx
      have HL := Lib.hid (HF.out _ _ hx)
      rw [hd, List.all_cons] at H
      have Hr := Lib.hid hr
      clear hd hr hx
      by_cases z : x = [] ∨ x = [46] ∨ x = [46, 46]
      · rcases z with rfl | rfl | rfl
        all_goals
          go_wp2
          go_ret
          exact ⟨retb (by rw [HG.out, ← H.out]; simp [segS]), rfl⟩
      · have m1 : x ≠ [] := fun h => z (.inl h)
        have m2 : x ≠ [46] := fun h => z (.inr (.inl h))
        have m3 : x ≠ [46, 46] := fun h => z (.inr (.inr h))
        have n1 : x.isEmpty = false := by simpa using m1
        have n2 : (x == [46]) = false := by simpa using m2
        have n3 : (x == [46, 46]) = false := by simpa using m3
        have HA := Lib.hid (show segS x = (decide (x.length ≤ 64) && (!hasB x 0 && (!hasB x 47 && Lib.validD x))) by
          simp [segS, goodBytes, m1, m2, m3]
          cases hasB x 0 <;> cases hasB x 47 <;> cases Lib.validD x <;> simp)
        clear z m1 m2 m3
        by_cases h64 : x.length ≤ 64
        · have H64 := Lib.hid h64
          have HA' := HA.out
          generalize h0 : hasB x 0 = b0 at HA'
          generalize h47 : hasB x 47 = b47 at HA'
          generalize hv : Lib.validD x = bv at HA'
          have HV := Lib.hid hv
          have HA := Lib.hid HA'
          clear HA' hv
          cases b0 <;> cases b47 <;> cases bv
          all_goals
            go_wp2_with (first
              | (go_at_call 28; refine (has_any _ _ _ HL.out (by omega) (by omega)).mono ?_; rintro e w' ⟨rfl, rfl⟩)
              | (go_at_call 29; refine (utf8_any _ _ HL.out).mono ?_; rw [HV.out]; rintro e w' ⟨rfl, rfl⟩))
            first
              | (go_ret; exact ⟨retb (by rw [HG.out, ← H.out, HA.out]; simp), rfl⟩)
              | (go_round
                 case rel => exact ⟨k + 1, by omega, by go_num, by rw [Hr.out, ← H.out, HA.out, decide_eq_true H64.out]; exact (Bool.true_and _).symm⟩
                 case measure => simp [intOf]; omega)
        · go_wp2
          go_ret
          exact ⟨retb (by rw [HG.out, ← H.out, HA.out]; simp [h64]), rfl⟩
end Go.Proofs.YtilmgfkpgkpmeaaDoor
