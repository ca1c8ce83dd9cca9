/-
  The walk of the reference's Text. Condition: each text is no longer than an int can say.
-/
import Derived.Test.YthfdhanhkanhhaaDoorUriK
import Derived.Deep.RegionLaw
namespace Go.Proofs.YthfdhanhkanhhaaDoor
open Go.RowKit

theorem hexU_get (k : Nat) (h : k < 16) : ∀ h', (⟨#[48, 49, 50, 51, 52, 53, 54, 55, 56, 57, 65, 66, 67, 68, 69, 70]⟩ : ByteArray)[k]'h' = hexU k := by
  intro h'
  match k, h with
  | 0, _ | 1, _ | 2, _ | 3, _ | 4, _ | 5, _ | 6, _ | 7, _ | 8, _ | 9, _ | 10, _ | 11, _ | 12, _ | 13, _ | 14, _ | 15, _ => rfl
  | k + 16, h => omega
theorem bare_cases {c : Int} (h : bareB c = true) : (97 ≤ c ∧ c ≤ 122) ∨ (65 ≤ c ∧ c ≤ 90) ∨ (48 ≤ c ∧ c ≤ 57) ∨ c = 45 ∨ c = 46 ∨ c = 95 ∨ c = 126 := by
  unfold bareB at h; simpa using h
theorem form_ne {p : List (List UInt8)} (h : p ≠ []) : formS p ≠ [] := by
  cases p with
  | nil => exact absurd rfl h
  | cons a r => simp [formS]

end Go.Proofs.YthfdhanhkanhhaaDoor
