/-
  Plain: Go's strings.Split at a slash gives the pieces between slashes. No condition.
-/
import Derived.Test.YthfdhanhkanhhaaDoorUriPlain
import Derived.Lib.SplitLaws
namespace Go.Proofs.YthfdhanhkanhhaaDoor
open Go.Lib

theorem index_one (x c : UInt8) (r : List UInt8) : index (x :: r) [c] = if x = c then 0 else if index r [c] = -1 then -1 else index r [c] + 1 := by
  conv => lhs; unfold index
  by_cases h : x = c
  · subst h; simp [List.isPrefixOf]
  · have : ([c] : List UInt8).isPrefixOf (x :: r) = false := by
      simp [List.isPrefixOf]; exact fun e => h e.symm
    rw [this, if_neg h]
    simp
theorem index_of_count (c : UInt8) : ∀ r : List UInt8, 0 < r.count c → ∃ i : Nat, index r [c] = i
  | [], h => by simp at h
  | x :: r, h => by
    rw [index_one]
    by_cases hx : x = c
    · exact ⟨0, by rw [if_pos hx]; rfl⟩
    · rw [List.count_cons_of_ne hx] at h
      obtain ⟨i, hi⟩ := index_of_count c r h
      refine ⟨i + 1, ?_⟩
      rw [if_neg hx, hi, if_neg (by omega)]
      rfl
theorem piecesS_ne (l : List UInt8) : piecesS l ≠ [] := by
  cases l with
  | nil => simp [piecesS]
  | cons x r =>
    unfold piecesS
    split
    · simp
    · split <;> simp
theorem split_pieces : ∀ l : List UInt8, splitK [47] 0 (l.count 47) l = piecesS l
  | [] => rfl
  | x :: r => by
    have ih := split_pieces r
    by_cases hx : x = 47
    · subst hx
      rw [List.count_cons_self, splitK, index_one, if_pos rfl]
      simp only [piecesS]
      rw [← ih]
      rfl
    · rw [List.count_cons_of_ne hx]
      unfold piecesS
      rw [if_neg hx, ← ih]
      cases hc : r.count 47 with
      | zero => rfl
      | succ n =>
        obtain ⟨i, hi⟩ := index_of_count 47 r (by omega)
        have hj : index (x :: r) [47] = (i : Int) + 1 := by rw [index_one, if_neg hx, hi, if_neg (by omega)]
        rw [splitK, splitK, hj, hi]
        have h1 : ((i : Int) == -1) = false := by rw [beq_eq_false_iff_ne]; omega
        have h2 : ((i : Int) + 1 == -1) = false := by rw [beq_eq_false_iff_ne]; omega
        have h3 : ((i : Int) + 1).toNat = i + 1 := by omega
        simp [h1, h2, h3]
end Go.Proofs.YthfdhanhkanhhaaDoor
