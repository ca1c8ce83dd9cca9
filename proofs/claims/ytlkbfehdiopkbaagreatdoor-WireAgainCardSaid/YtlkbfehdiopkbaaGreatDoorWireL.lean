/-
  The walk of the statements' number: the digits of a base. Conditions: the base is 10 or 16; the number is at most a thousand million.
-/
import Derived.Test.YtlkbfehdiopkbaaGreatDoorWireJ
import Derived.Test.YtlkbfehdiopkbaaGreatDoorWireSet2
namespace Go.Proofs.YtlkbfehdiopkbaaGreatDoor
set_option linter.unusedVariables false
set_option linter.unusedSimpArgs false
open Go.RowKit

theorem dig_enc : ∀ (d : Nat) (h : d < (⟨#[48, 49, 50, 51, 52, 53, 54, 55, 56, 57, 97, 98, 99, 100, 101, 102]⟩ : ByteArray).size), Utf8.encode (((⟨#[48, 49, 50, 51, 52, 53, 54, 55, 56, 57, 97, 98, 99, 100, 101, 102]⟩ : ByteArray)[d]'h).toNat : Int) = ⟨[digB d].toArray⟩
  | 0, _ => by kernel_rfl
  | 1, _ => by kernel_rfl
  | 2, _ => by kernel_rfl
  | 3, _ => by kernel_rfl
  | 4, _ => by kernel_rfl
  | 5, _ => by kernel_rfl
  | 6, _ => by kernel_rfl
  | 7, _ => by kernel_rfl
  | 8, _ => by kernel_rfl
  | 9, _ => by kernel_rfl
  | 10, _ => by kernel_rfl
  | 11, _ => by kernel_rfl
  | 12, _ => by kernel_rfl
  | 13, _ => by kernel_rfl
  | 14, _ => by kernel_rfl
  | 15, _ => by kernel_rfl
  | _ + 16, h => absurd h (by show ¬ _ < 16; omega)
theorem numF_len (b : Nat) : ∀ f n, (numF b f n).length ≤ f
  | 0, _ => Nat.le_refl _
  | f + 1, n => by
    unfold numF
    split
    · simp
    · have := numF_len b f (n / b)
      simp only [List.length_append, List.length_singleton]
      omega
theorem numB_len (b n : Nat) : (numB b n).length ≤ n + 1 := numF_len b _ _
set_option maxHeartbeats 1000000 in
set_option maxRecDepth 100000 in
set_option linter.unusedSimpArgs false in
theorem number_any (b : Nat) (hb : b = 10 ∨ b = 16) : ∀ (n : Nat) (w : World), n ≤ 1000000000 → Calls Tryz.prog 15 #[.int .i64 (n : Int), .int .i64 (b : Int)] w (Same0 (.string ⟨(numB b n).toArray⟩) w) := by
  intro n
  induction n using Nat.strongRecOn with
  | _ n ih =>
  intro w hn
  have hd : n % b < 16 := Nat.lt_of_lt_of_le (Nat.mod_lt _ (by omega)) (by omega)
  have hlt := Lib.hid (show ¬ n < b → n / b < n from fun h => Nat.div_lt_self (by omega) (by omega))
  have hq := Lib.hid (Nat.div_le_self n b)
  have m1 : (n : Int).tmod (b : Int) = ((n % b : Nat) : Int) := rfl
  have m2 : (n : Int).tdiv (b : Int) = ((n / b : Nat) : Int) := rfl
  have m3 : ((b : Int) == 0) = false := beq_eq_false_iff_ne.2 (by omega)
  have m4 : IntKind.i64.wrap ((n % b : Nat) : Int) = ((n % b : Nat) : Int) := IntWalk.i64_in _ (by omega)
  have m5 : IntKind.i64.wrap ((n / b : Nat) : Int) = ((n / b : Nat) : Int) := by
    have h1 := hq.out
    generalize n / b = k at h1
    exact IntWalk.i64_in _ (by omega)
  have ih' := Lib.hid (ih (n / b))
  have hne := Lib.hid (numB_eq b n (by omega))
  obtain ⟨R, hR⟩ : ∃ R, R = numB b n := ⟨_, rfl⟩
  rw [← hR] at hne ⊢
  clear ih hR
  go_enter Tryz.func15, Tryz.ntmps15
  by_cases hnb : n < b
  · go_wp2_with fail
    go_ret
    exact ⟨by rw [hne.out, if_pos hnb, ← dig_enc (n % b) hd]; rfl, rfl⟩
  · have m6 : wrap64 ((n : Int) / (b : Int)) = ((n / b : Nat) : Int) := by
      have h1 := hq.out
      rw [show (n : Int) / (b : Int) = ((n / b : Nat) : Int) from rfl]
      generalize n / b = k at h1
      exact IntWalk.wrap64_in _ ⟨by omega, by omega⟩
    have HI := Lib.hid (ih'.out (hlt.out hnb) w (Nat.le_trans hq.out hn))
    have HM := Lib.hid m6
    clear m6 ih'
    go_wp2_with fail
    rw [HM.out]
    simp only [dig_enc (n % b) hd]
    refine HI.out.mono ?_
    rintro e w1 ⟨rfl, rfl⟩
    have hln : (numB b (n / b)).length ≤ 1000000001 := Nat.le_trans (numB_len b _) (Nat.succ_le_succ (Nat.le_trans hq.out hn))
    have hln2 : ¬ 9223372036854775807 < (numB b (n / b)).length + 1 := by omega
    clear HI HM
    go_wp2_with fail
    go_ret
    exact ⟨by rw [hne.out, if_neg hnb]; rfl, rfl⟩
end Go.Proofs.YtlkbfehdiopkbaaGreatDoor
