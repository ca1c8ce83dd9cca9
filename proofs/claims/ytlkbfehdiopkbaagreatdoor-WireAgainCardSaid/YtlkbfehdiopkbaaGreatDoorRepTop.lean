/-
  Plain: the statement ReplyReads with Head: of the forms for 0, 1, 2 .. bytes of body none is longer than the one that was read. No condition.
-/
import Derived.Test.YtlkbfehdiopkbaaGreatDoorRepLaws
namespace Go.Proofs.YtlkbfehdiopkbaaGreatDoor

theorem digR_mono : ∀ (f g k m : Nat), k < f → m < g → k ≤ m → (digR f k).length ≤ (digR g m).length
  | 0, _, _, _, h, _, _ => absurd h (Nat.not_lt_zero _)
  | _ + 1, 0, _, _, _, h, _ => absurd h (Nat.not_lt_zero _)
  | f + 1, g + 1, k, m, hk, hm, hle => by
    unfold digR
    by_cases h0 : k / 10 = 0
    · rw [if_pos h0]
      simp
    · have h1 : ¬ m / 10 = 0 := by omega
      rw [if_neg h0, if_neg h1]
      have := digR_mono f g (k / 10) (m / 10) (by omega) (by omega) (by omega)
      simp only [List.length_cons]
      omega
theorem digS_mono {k m : Nat} (h : k ≤ m) : (digS k).length ≤ (digS m).length := by
  unfold digS
  rw [List.length_reverse, List.length_reverse]
  exact digR_mono _ _ _ _ (Nat.lt_succ_self _) (Nat.lt_succ_self _) h
theorem topS_mono (r : RespT) {k m : Nat} (h : k ≤ m) : (topS r k).length ≤ (topS r m).length := by
  unfold topS
  by_cases h2 : r.status = 204
  · simp [h2]
  · have := digS_mono h
    simp only [if_neg h2, lenF, List.length_append]
    omega
theorem topS_204 (r : RespT) (h : r.status = 204) (k m : Nat) : topS r k = topS r m := by
  unfold topS
  simp [h]
/-- what is read with head: the bytes that were read are the head for some number of bytes. -/
theorem read_head {st : List UInt8 → Int} {buf : List UInt8} {r : RespT} {k : Nat} (h : readR st buf true = some (r, k)) :
    ∃ m, m ≤ 65536 ∧ r.head = true ∧ r.body = [] ∧ goodR r = true ∧ k = (topS r m).length ∧ buf.take k = topS r m ∧ k ≤ buf.length := by
  obtain ⟨n, h1, h2, h3, h4, h5⟩ := read_sound h
  have hb := h5 rfl
  have hg := (good_parts h2).2.2.1
  rw [List.isPrefixOf_iff_prefix] at h3
  obtain ⟨t, ht⟩ := h3
  have hw : (wantS r n).head = true := by rw [want_head]; exact h1
  have hform : formR (wantS r n) = topS r (wantS r n).body.length := by
    unfold formR
    rw [hw, if_pos rfl, List.append_nil]
    unfold topS wantS
    split <;> rfl
  refine ⟨(wantS r n).body.length, hg, h1, hb, ?_, by rw [h4, hform], ?_, ?_⟩
  · unfold goodR at h2 ⊢
    simp only [Bool.and_eq_true] at h2 ⊢
    have e1 : (wantS r n).hdrs = r.hdrs := by unfold wantS; split <;> rfl
    have e2 : (wantS r n).status = r.status := by unfold wantS; split <;> rfl
    rw [e1, e2] at h2
    refine ⟨⟨h2.1.1, by simp [hb]⟩, by simp [hb]⟩
  · rw [h4, ← hform, ← ht, List.take_left]
  · rw [h4, ← ht, List.length_append]
    omega
/-- what is read without: just these bytes are its form. -/
theorem read_whole {st : List UInt8 → Int} {buf : List UInt8} {r : RespT} {k : Nat} (h : readR st buf false = some (r, k)) :
    r.head = false ∧ goodR r = true ∧ k = (formR r).length ∧ buf.take k = formR r ∧ k ≤ buf.length := by
  obtain ⟨n, h1, h2, h3, h4, _⟩ := read_sound h
  have hw : wantS r n = r := by
    unfold wantS
    rw [if_neg (by simp [h1])]
  rw [hw] at h2 h3 h4
  rw [List.isPrefixOf_iff_prefix] at h3
  obtain ⟨t, ht⟩ := h3
  refine ⟨h1, h2, h4, ?_, ?_⟩
  · rw [h4, ← ht, List.take_left]
  · rw [h4, ← ht, List.length_append]
    omega
theorem topS_pos (r : RespT) (m : Nat) : 1 ≤ (topS r m).length := by
  unfold topS
  simp
theorem formR_pos (r : RespT) : 1 ≤ (formR r).length := by
  unfold formR
  have := topS_pos r r.body.length
  rw [List.length_append]
  omega
end Go.Proofs.YtlkbfehdiopkbaaGreatDoor
