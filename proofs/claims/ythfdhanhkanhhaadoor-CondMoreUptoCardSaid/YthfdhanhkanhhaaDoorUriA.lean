/-
  The walks of the small functions of package uri and of its reference. Conditions: a byte is from 0 to 255, a string's length is an int's.
-/
import Derived.Test.YthfdhanhkanhhaaDoorBase
import Derived.Test.YthfdhanhkanhhaaDoorUriPlain
import Derived.Deep.LoopGhost
import Derived.Deep.QuietTactic
import Derived.BigQuiet
namespace Go.Proofs.YthfdhanhkanhhaaDoor
open Go.RowKit

set_option maxHeartbeats 400000 in
set_option linter.unusedSimpArgs false in
theorem digit_any (c : Int) (w : World) (h0 : 0 ≤ c) (h1 : c < 256) :
    Calls Tryd.prog 53 #[.int .u8 c] w (Same0 (.int .i64 (digV c)) w) := by
  go_enter Tryd.func53, Tryd.ntmps53
  go_wp2
  all_goals go_ret
  all_goals exact ⟨ret_int (by unfold digV; (repeat' split) <;> omega), rfl⟩

set_option maxHeartbeats 400000 in
set_option linter.unusedSimpArgs false in
theorem hex_any (c : Int) (w : World) (_h0 : 0 ≤ c) (_h1 : c < 256) :
    Calls Tryd.prog 57 #[.int .u8 c] w (Same0 (.int .i64 (digV c)) w) := by
  go_enter Tryd.func57, Tryd.ntmps57
  go_wp2
  go_loop [3] (fun i => ∃ k : Nat, k ≤ 16 ∧ i = .int .i64 k ∧ Hid (∀ j, j < k → lowI j ≠ c ∧ upI j ≠ c)) (fun i => 16 - (intOf i).toNat)
  case atStart => exact ⟨0, Nat.zero_le _, rfl, fun j h => by omega⟩
  case round =>
    obtain ⟨k, hk, rfl, H⟩ := hrel
    by_cases hlt : k < 16
    · have e1 := low_at k hlt
      have e2 := up_at k hlt
      go_wp2
      · go_ret
        exact ⟨ret_int (dig_found hlt (.inl (by first | omega | (simp only [beq_iff_eq] at *; omega) | (simp only [beq_eq_false_iff_ne, ne_eq] at *; omega) | (simp only [beq_iff_eq, beq_eq_false_iff_ne, ne_eq] at *; omega)))).symm, rfl⟩
      · go_ret
        exact ⟨ret_int (dig_found hlt (by first | omega | (simp only [beq_iff_eq] at *; omega) | (simp only [beq_eq_false_iff_ne, ne_eq] at *; omega) | (simp only [beq_iff_eq, beq_eq_false_iff_ne, ne_eq] at *; omega))).symm, rfl⟩
      · go_round
        case rel =>
          refine ⟨k + 1, by omega, by go_num, fun j hj => ?_⟩
          by_cases e : j = k
          · subst e; constructor <;> first | omega | (simp only [beq_iff_eq] at *; omega) | (simp only [beq_eq_false_iff_ne, ne_eq] at *; omega) | (simp only [beq_iff_eq, beq_eq_false_iff_ne, ne_eq] at *; omega)
          · exact H.out j (by omega)
        case measure => simp [intOf]; omega
    · go_wp2
      go_ret
      exact ⟨ret_int (dig_none fun j hj => H.out j (by omega)).symm, rfl⟩

set_option maxHeartbeats 400000 in
set_option linter.unusedSimpArgs false in
theorem has_any (l : List UInt8) (c : Int) (w : World) (hs : l.length ≤ maxLen) (_h0 : 0 ≤ c) (_h1 : c < 256) :
    Calls Tryd.prog 56 #[.string ⟨l.toArray⟩, .int .u8 c] w (Same0 (.bool (hasB l c)) w) := by
  unfold maxLen at hs
  obtain ⟨ANS, hA⟩ : ∃ A, hasB l c = A := ⟨_, rfl⟩
  rw [hA]
  go_enter Tryd.func56, Tryd.ntmps56
  go_wp2
  go_loop [5] (fun i => ∃ k : Nat, k ≤ l.length ∧ i = .int .i64 k ∧ Hid (hasB (l.drop k) c = ANS)) (fun i => l.length - (intOf i).toNat)
  case atStart => exact ⟨0, Nat.zero_le _, rfl, hA⟩
  case round =>
    obtain ⟨k, hk, rfl, H⟩ := hrel
    clear hA
    rcases hd : l.drop k with _ | ⟨x, r⟩
    · obtain rfl : k = l.length := by have := drop_nil hd; omega
      rw [hd] at H; clear hd
      go_wp2
      go_ret
      exact ⟨retb H.out, rfl⟩
    · obtain ⟨hlt, hb, hr⟩ := drop_cons hd
      rw [hd, hasB_cons] at H
      have Hr := Lib.hid hr
      clear hd hr
      have hx := x.toNat_lt
      go_wp2
      · go_ret
        exact ⟨retb (by rw [← H.out, decide_eq_true (by first | omega | (simp only [beq_iff_eq] at *; omega) | (simp only [beq_eq_false_iff_ne, ne_eq] at *; omega) | (simp only [beq_iff_eq, beq_eq_false_iff_ne, ne_eq] at *; omega))]; rfl), rfl⟩
      · go_round
        case rel => exact ⟨k + 1, by omega, by go_num, by rw [Hr.out, ← H.out, decide_eq_false (by first | omega | (simp only [beq_iff_eq] at *; omega) | (simp only [beq_eq_false_iff_ne, ne_eq] at *; omega) | (simp only [beq_iff_eq, beq_eq_false_iff_ne, ne_eq] at *; omega))]; exact (Bool.false_or _).symm⟩
        case measure => simp [intOf]; omega

set_option maxHeartbeats 400000 in
set_option linter.unusedSimpArgs false in
theorem plain_any (l : List UInt8) (w : World) (hs : l.length ≤ maxLen) :
    Calls Tryd.prog 26 #[.string ⟨l.toArray⟩] w (Same0 (.bool (plainS l)) w) := by
  unfold maxLen at hs
  obtain ⟨ANS, hA⟩ : ∃ A, plainS l = A := ⟨_, rfl⟩
  rw [hA]
  go_enter Tryd.func26, Tryd.ntmps26
  go_wp2
  go_loop [6] (fun i => ∃ k : Nat, k ≤ l.length ∧ i = .int .i64 k ∧ Hid (plainS (l.drop k) = ANS)) (fun i => l.length - (intOf i).toNat)
  case atStart => exact ⟨0, Nat.zero_le _, rfl, hA⟩
  case round =>
    obtain ⟨k, hk, rfl, H⟩ := hrel
    clear hA
    rcases hd : l.drop k with _ | ⟨x, r⟩
    · obtain rfl : k = l.length := by have := drop_nil hd; omega
      rw [hd] at H; clear hd
      go_wp2
      go_ret
      exact ⟨retb H.out, rfl⟩
    · obtain ⟨hlt, hb, hr⟩ := drop_cons hd
      rw [hd, plainS_cons] at H
      have Hr := Lib.hid hr
      clear hd hr
      have hx := x.toNat_lt
      go_wp2
      all_goals first
        | (go_ret; exact ⟨retb (by rw [← H.out, seen_no (by first | omega | (simp only [beq_iff_eq] at *; omega) | (simp only [beq_eq_false_iff_ne, ne_eq] at *; omega) | (simp only [beq_iff_eq, beq_eq_false_iff_ne, ne_eq] at *; omega))]; rfl), rfl⟩)
        | (go_round
           case rel => exact ⟨k + 1, by omega, by go_num, by rw [Hr.out, ← H.out, seen_yes (by first | omega | (simp only [beq_iff_eq] at *; omega) | (simp only [beq_eq_false_iff_ne, ne_eq] at *; omega) | (simp only [beq_iff_eq, beq_eq_false_iff_ne, ne_eq] at *; omega))]; exact (Bool.true_and _).symm⟩
           case measure => simp [intOf]; omega)

set_option maxHeartbeats 400000 in
set_option linter.unusedSimpArgs false in
theorem within_any (va vb : Value) (a b : List (List UInt8)) (w : World) (ha : Strs w va a) (hb : Strs w vb b) :
    Calls Tryd.prog 17 #[va, vb] w (Same0 (.bool (withinS a b)) w) := by
  obtain ⟨pa, ca, rfl, ha1, ha2, hac⟩ := ha
  obtain ⟨pb, cb, rfl, hb1, hb2, hbc⟩ := hb
  unfold maxLen at ha2 hb2
  obtain ⟨ANS, hA⟩ : ∃ A, withinS a b = A := ⟨_, rfl⟩
  rw [hA]
  by_cases hlen : a.length < b.length
  · go_enter Tryd.func17, Tryd.ntmps17
    go_wp2
    go_ret
    refine ⟨retb ?_, rfl⟩
    rw [← hA]; unfold withinS
    symm
    rw [Bool.eq_false_iff]; intro h
    have := (List.isPrefixOf_iff_prefix.1 h).length_le
    omega
  · have Hac := Lib.hid hac
    have Hbc := Lib.hid hbc
    clear hac hbc
    go_enter Tryd.func17, Tryd.ntmps17
    go_wp2
    go_loop [14] (fun i => ∃ k : Nat, k ≤ b.length ∧ i = .int .i64 k ∧ Hid (withinS (a.drop k) (b.drop k) = ANS)) (fun i => b.length - (intOf i).toNat)
    case atStart => exact ⟨0, Nat.zero_le _, rfl, hA⟩
    case round =>
      obtain ⟨k, hk, rfl, H⟩ := hrel
      clear hA
      rcases hd : b.drop k with _ | ⟨y, r⟩
      · obtain rfl : k = b.length := by have := drop_nil hd; omega
        rw [hd] at H; clear hd
        go_wp2
        go_ret
        exact ⟨retb (by rw [← H.out]; unfold withinS; cases a.drop b.length <;> rfl), rfl⟩
      · obtain ⟨hlt, hy, hr⟩ := drop_consA hd
        rcases hd' : a.drop k with _ | ⟨x, q⟩
        · have := drop_nil hd'; omega
        obtain ⟨hlt', hx, hq⟩ := drop_consA hd'
        obtain ⟨ba, oa, rfl, _, hca⟩ := Hac.out _ _ hx
        obtain ⟨bb, ob, rfl, _, hcb⟩ := Hbc.out _ _ hy
        rw [hd, hd'] at H
        have Hr := Lib.hid hr
        have Hq := Lib.hid hq
        clear hd hd' hr hq hx hy
        by_cases hxy : x = y
        · subst hxy
          go_wp2
          go_round
          case rel => exact ⟨k + 1, by omega, by go_num, by rw [Hr.out, Hq.out, ← H.out]; simp [withinS, List.isPrefixOf, Hid]⟩
          case measure => simp [intOf]; omega
        · have hne : (!x == y) = true := by simpa using hxy
          go_wp2
          go_ret
          exact ⟨retb (by
            rw [← H.out]
            have : (y == x) = false := by simpa using fun h => hxy (Eq.symm h)
            simp [withinS, List.isPrefixOf, this]), rfl⟩
end Go.Proofs.YthfdhanhkanhhaaDoor
