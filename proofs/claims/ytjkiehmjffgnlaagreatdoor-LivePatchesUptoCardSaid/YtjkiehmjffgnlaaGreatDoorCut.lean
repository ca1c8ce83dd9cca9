import Derived.Lib.SplitLaws
namespace Go.Proofs.YtjkiehmjffgnlaaGreatDoor
open Go.Lib

/-- the text ahead of the first sep, and behind it. -/
def cutS (sep : List UInt8) : List UInt8 → Option (List UInt8 × List UInt8)
  | [] => if sep = [] then some ([], []) else none
  | x :: r => if sep.isPrefixOf (x :: r) then some ([], (x :: r).drop sep.length) else (cutS sep r).map fun p => (x :: p.1, p.2)
theorem index_cut (sep : List UInt8) : ∀ s : List UInt8, (match cutS sep s with
    | some (a, b) => index s sep = a.length ∧ s = a ++ (sep ++ b)
    | none => index s sep = -1)
  | [] => by
    unfold cutS index
    by_cases h : sep = []
    · subst h; simp
    · rw [if_neg h]
      have : sep.isEmpty = false := by simpa using h
      rw [this]; rfl
  | x :: r => by
    have ih := index_cut sep r
    unfold cutS index
    by_cases hp : sep.isPrefixOf (x :: r) = true
    · rw [if_pos hp, if_pos hp]
      refine ⟨rfl, ?_⟩
      rw [List.isPrefixOf_iff_prefix] at hp
      obtain ⟨t, ht⟩ := hp
      rw [← ht]
      simp
    · rw [if_neg hp, if_neg hp]
      rcases hc : cutS sep r with _ | ⟨a, b⟩
      · rw [hc] at ih
        simp only at ih
        simp [ih]
      · rw [hc] at ih
        simp only at ih
        obtain ⟨h1, h2⟩ := ih
        show (if (index r sep == -1) = true then (-1 : Int) else index r sep + 1) = ((x :: a).length : Nat) ∧ x :: r = (x :: a) ++ (sep ++ b)
        refine ⟨?_, by rw [h2]; rfl⟩
        have : (index r sep == -1) = false := by rw [h1, beq_eq_false_iff_ne]; omega
        rw [this, h1]
        simp
theorem cut_eq (s sep : List UInt8) : cut s sep = match cutS sep s with
    | some (a, b) => (a, b, true)
    | none => (s, [], false) := by
  have h := index_cut sep s
  unfold cut
  rcases hc : cutS sep s with _ | ⟨a, b⟩
  · rw [hc] at h
    simp only at h
    rw [h, if_neg (by decide)]
  · rw [hc] at h
    simp only at h
    obtain ⟨h1, h2⟩ := h
    rw [h1, if_pos (by omega)]
    have e1 : s.take (a.length : Int).toNat = a := by rw [h2]; simp
    have e2 : s.drop ((a.length : Int).toNat + sep.length) = b := by
      rw [h2, Int.toNat_natCast, ← List.append_assoc, ← List.length_append]
      simp
    rw [e1, e2]
end Go.Proofs.YtjkiehmjffgnlaaGreatDoor
