/-
  The walks of the reference's test of good UTF-8. Condition: a string's length is an int's.
-/
import Derived.Test.YthfdhanhkanhhaaDoorUriB
import Derived.Lib.MapLaws
namespace Go.Proofs.YthfdhanhkanhhaaDoor
open Go.RowKit
set_option maxHeartbeats 400000 in
set_option maxRecDepth 100000 in
set_option linter.unusedSimpArgs false in
theorem utf8_any (l : List UInt8) (w : World) (hs : l.length ≤ maxLen) :
    Calls Tryd.prog 58 #[.string ⟨l.toArray⟩] w (Same0 (.bool (Lib.validD l)) w) := by
  have hs' := hs
  unfold maxLen at hs
  obtain ⟨ANS, hA⟩ : ∃ A, Lib.validD l = A := ⟨_, rfl⟩
  rw [hA]
  go_enter Tryd.func58, Tryd.ntmps58
  go_wp2
  go_loop [3, 4, 5] (fun i _ _ => ∃ k : Nat, k ≤ l.length ∧ i = .int .i64 k ∧ Hid (Lib.validD (l.drop k) = ANS)) (fun i _ _ => l.length - (intOf i).toNat)
  case atStart => exact ⟨0, Nat.zero_le _, rfl, hA⟩
  case round =>
    obtain ⟨k, hk, rfl, H⟩ := hrel
    clear hA
    by_cases hlt : k < l.length
    · have hne : l.drop k ≠ [] := by intro h; have := drop_nil h; omega
      have Hv := Lib.hid (valid_ok hne)
      have hwd := Lib.decodeL_le (l.drop k) hne
      have hwd1 := Lib.decodeL_width (l.drop k)
      rw [List.length_drop] at hwd
      have Hd := Lib.hid (show (l.drop k).length ≤ maxLen by rw [List.length_drop]; omega)
      have Hp := Lib.hid (show 0 < (l.drop k).length by rw [List.length_drop]; omega)
      clear hs' hne
      go_wp2_with fail
      refine (rune1_any (l.drop k) _ Hp.out Hd.out).mono ?_
      rintro e w' ⟨n, rfl, hn, rfl⟩
      generalize hok : okL (l.drop k) = ok at hn Hv
      generalize hde : (Lib.decodeL (l.drop k)).2 = wd at hn Hv hwd hwd1
      clear hok hde
      cases ok with
      | false =>
        clear hn
        go_wp2
        go_ret
        exact ⟨retb (by rw [← H.out, Hv.out]; rfl), rfl⟩
      | true =>
        obtain rfl := hn rfl
        go_wp2
        go_round
        case rel => exact ⟨k + wd, by omega, by go_num, by rw [← H.out, Hv.out, List.drop_drop]; rfl⟩
        case measure => simp [intOf]; omega
    · obtain rfl : k = l.length := by omega
      rw [List.drop_length] at H
      go_wp2
      go_ret
      exact ⟨retb H.out, rfl⟩
end Go.Proofs.YthfdhanhkanhhaaDoor
