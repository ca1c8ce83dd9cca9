/-
  Plain: decimal numerals: the form's own digits are those of strconv.Itoa; what strconv.Atoi reads of them; what a Content-Length says. No condition.
-/
import Derived.Test.YtlkbfehdiopkbaaGreatDoorRepLaws
import Derived.Lib.AtoiAll
import Derived.Lib.ItoaNum
namespace Go.Proofs.YtlkbfehdiopkbaaGreatDoor
open Go.Lib

theorem digR_dec : ∀ (f n : Nat), n < f → (digR f n).reverse = decDigits n
  | 0, _, h => absurd h (Nat.not_lt_zero _)
  | f + 1, n, h => by
    unfold digR
    rw [decDigits]
    by_cases h0 : n / 10 = 0
    · have h1 : n < 10 := by omega
      rw [if_pos h0, dif_pos h1, Nat.mod_eq_of_lt h1]
      rfl
    · rw [if_neg h0, dif_neg (by omega), List.reverse_cons, digR_dec f (n / 10) (by omega)]
theorem digS_dec (n : Nat) : digS n = decDigits n := digR_dec _ _ (Nat.lt_succ_self _)
theorem digS_itoa (n : Nat) : itoa (n : Int) = digS n := by
  rw [digS_dec]
  unfold itoa
  rw [if_neg (by omega), Int.toNat_natCast]
/-- what a row of digits says, read from the front. -/
def fwd (a : Nat) (l : List UInt8) : Nat := l.foldl (fun a c => a * 10 + (c.toNat - 48)) a
theorem fwd_ge : ∀ (l : List UInt8) (a : Nat), a ≤ fwd a l
  | [], _ => Nat.le_refl _
  | c :: l, a => by
    have := fwd_ge l (a * 10 + (c.toNat - 48))
    show a ≤ fwd (a * 10 + (c.toNat - 48)) l
    omega
theorem parse_fwd : ∀ (l : List UInt8) (a : Nat), (∀ b ∈ l, 48 ≤ b.toNat ∧ b.toNat ≤ 57) → fwd a l < 1000000000000 → parseUint10 a l = .ok (fwd a l)
  | [], _, _, _ => rfl
  | c :: l, a, hd, hb => by
    have hc := hd c (by simp)
    have h1 : fwd (a * 10 + (c.toNat - 48)) l < 1000000000000 := hb
    have h2 := fwd_ge l (a * 10 + (c.toNat - 48))
    simp only [parseUint10]
    rw [if_pos hc, if_neg (by omega), if_neg (by omega), parse_fwd l _ (fun b hb => hd b (by simp [hb])) h1]
    rfl
theorem fwd_dig : ∀ (f n : Nat), n < f → fwd 0 (digR f n).reverse = n
  | 0, _, h => absurd h (Nat.not_lt_zero _)
  | f + 1, n, h => by
    unfold digR
    have h1 : (UInt8.ofNat (48 + n % 10)).toNat = 48 + n % 10 := by rw [UInt8.toNat_ofNat']; omega
    by_cases h0 : n / 10 = 0
    · rw [if_pos h0]
      show 0 * 10 + ((UInt8.ofNat (48 + n % 10)).toNat - 48) = n
      omega
    · rw [if_neg h0, List.reverse_cons]
      unfold fwd
      rw [List.foldl_append]
      show fwd 0 (digR f (n / 10)).reverse * 10 + ((UInt8.ofNat (48 + n % 10)).toNat - 48) = n
      rw [fwd_dig f (n / 10) (by omega)]
      omega
theorem atoi_dig (n : Nat) (h : n < 1000000000000) : atoiAll (digS n) = .ok n := by
  have hf : fwd 0 (digS n) = n := fwd_dig _ _ (Nat.lt_succ_self _)
  have hp : parseUint10 0 (digS n) = .ok n := by
    have := parse_fwd (digS n) 0 (digS_c n) (by rw [hf]; exact h)
    rw [this, hf]
  have hc := digS_c n
  have hne := digS_ne n
  generalize digS n = l at hp hc hne
  cases l with
  | nil => exact absurd rfl hne
  | cons c r =>
    have hcc := hc c (by simp)
    unfold atoiAll
    simp only
    rw [if_neg (by omega)]
    unfold parseMag
    rw [if_neg (by simp), hp]
    simp only
    rw [if_neg (by omega), if_neg (by omega), if_neg (by omega)]
/-- what length answers: the number, and whether the text is a number's form that may be. -/
theorem length_yes {v : List UInt8} {m : Nat} (h : lengthS v = some m) : m ≤ 65536 ∧ digS m = v := by
  unfold lengthS at h
  split at h
  · rename_i hh
    injection h with h
    subst h
    exact hh
  · cases h
theorem length_no {v : List UInt8} {n : Int} (h : lengthS v = none) (h0 : 0 ≤ n) (h1 : n ≤ 65536) : itoa n ≠ v := fun e => by
  obtain ⟨m, rfl⟩ := Int.eq_ofNat_of_zero_le h0
  rw [digS_itoa] at e
  rw [← e, length_dig m (by omega)] at h
  cases h
/-- what is made of the status's three bytes. -/
def stS (l : List UInt8) : Int := match atoiAll l with
  | .ok n => n
  | .range => atoiSat l
  | _ => 0
theorem stS_codes : ∀ n ∈ codes, stS (digS n.toNat) = n := by decide +kernel
end Go.Proofs.YtlkbfehdiopkbaaGreatDoor
