import Derived.Lib.ValidLaws
import Derived.Lib.TrimUEq
namespace Go.Proofs.YtjkiehmjffgnlaaGreatDoor
open Go.Lib

/-- one step of the decoder is good. -/
def okL (l : List UInt8) : Bool := !decide ((decodeL l).1 = 65533 ∧ (decodeL l).2 = 1)
theorem valid_ok {l : List UInt8} (hne : l ≠ []) : validD l = (okL l && validD (l.drop (decodeL l).2)) := by
  rw [validD_step l hne]
  unfold okL
  split
  · rename_i h; simp [h]
  · rename_i h; simp [h]
def byteI (l : List UInt8) (j : Nat) : Int := (l.getD j 0).toNat
theorem byteI_lt (l : List UInt8) (j : Nat) : 0 ≤ byteI l j ∧ byteI l j < 256 := by
  have := (l.getD j 0).toNat_lt
  unfold byteI; omega
def contI (c : Int) : Prop := 128 ≤ c ∧ c ≤ 191
theorem ok3 {l : List UInt8} (h0 : 224 ≤ byteI l 0) (h1 : byteI l 0 < 240) :
    (okL l = true ↔ (2 < l.length ∧ contI (byteI l 1) ∧ contI (byteI l 2) ∧ 2048 ≤ ((byteI l 0 - 224) * 64 + byteI l 1 - 128) * 64 + byteI l 2 - 128 ∧
      (((byteI l 0 - 224) * 64 + byteI l 1 - 128) * 64 + byteI l 2 - 128 < 55296 ∨ 57343 < ((byteI l 0 - 224) * 64 + byteI l 1 - 128) * 64 + byteI l 2 - 128))) ∧ (okL l = true → (decodeL l).2 = 3) := by
  have b1 := byteI_lt l 1
  have b2 := byteI_lt l 2
  unfold byteI contI at *
  unfold okL; rw [decodeL_N]; unfold decodeN
  rw [if_neg (by omega), if_neg (by omega)]
  by_cases hc : (1 < l.length ∧ (l.getD 1 0).toNat / 64 = 2) ∧ (2 < l.length ∧ (l.getD 2 0).toNat / 64 = 2)
  · rw [if_pos ⟨by omega, hc⟩]
    split
    · refine ⟨⟨fun _ => by omega, fun _ => by simp⟩, fun _ => rfl⟩
    · refine ⟨⟨fun h => by simp at h, fun _ => by omega⟩, fun h => by simp at h⟩
  · rw [if_neg (by omega), if_neg (by omega)]
    refine ⟨⟨fun h => by simp at h, fun _ => by omega⟩, fun h => by simp at h⟩
theorem ok4 {l : List UInt8} (h0 : 240 ≤ byteI l 0) (h1 : byteI l 0 < 248) :
    (okL l = true ↔ (3 < l.length ∧ contI (byteI l 1) ∧ contI (byteI l 2) ∧ contI (byteI l 3) ∧ 65536 ≤ (((byteI l 0 - 240) * 64 + byteI l 1 - 128) * 64 + byteI l 2 - 128) * 64 + byteI l 3 - 128 ∧
      (((byteI l 0 - 240) * 64 + byteI l 1 - 128) * 64 + byteI l 2 - 128) * 64 + byteI l 3 - 128 ≤ 1114111)) ∧ (okL l = true → (decodeL l).2 = 4) := by
  have b1 := byteI_lt l 1
  have b2 := byteI_lt l 2
  have b3 := byteI_lt l 3
  unfold byteI contI at *
  unfold okL; rw [decodeL_N]; unfold decodeN
  rw [if_neg (by omega), if_neg (by omega), if_neg (by omega)]
  by_cases hc : (1 < l.length ∧ (l.getD 1 0).toNat / 64 = 2) ∧ (2 < l.length ∧ (l.getD 2 0).toNat / 64 = 2) ∧ (3 < l.length ∧ (l.getD 3 0).toNat / 64 = 2)
  · rw [if_pos ⟨by omega, hc⟩]
    split
    · refine ⟨⟨fun _ => by omega, fun _ => by simp⟩, fun _ => rfl⟩
    · refine ⟨⟨fun h => by simp at h, fun _ => by omega⟩, fun h => by simp at h⟩
  · rw [if_neg (by omega)]
    refine ⟨⟨fun h => by simp at h, fun _ => by omega⟩, fun h => by simp at h⟩
theorem decode_class (l : List UInt8) (hne : 0 < l.length) :
    (∃ x, l[0]? = some x ∧ x.toNat < 128 ∧ decodeL l = (x.toNat, 1)) ∨
    (128 ≤ (decodeL l).1 ∧ (decodeL l).1 ≤ 1114111 ∧ ((decodeL l).1 < 55296 ∨ 57343 < (decodeL l).1) ∧ (decodeL l).2 ≤ l.length ∧ ∀ (j : Nat) b, j < (decodeL l).2 → l[j]? = some b → 128 ≤ b.toNat) := by
  have gd : ∀ (j : Nat) b, l[j]? = some b → l.getD j 0 = b := fun j b h => by rw [List.getD_eq_getElem?_getD, h]; rfl
  have b0 := (l.getD 0 0).toNat_lt
  by_cases h0 : (l.getD 0 0).toNat < 128
  · left
    refine ⟨l.getD 0 0, ?_, h0, ?_⟩
    · rw [List.getD_eq_getElem?_getD, List.getElem?_eq_getElem hne]; rfl
    · rw [decodeL_N]; unfold decodeN; rw [if_pos h0]
  · right
    have key : ∀ (c wd : Nat), decodeL l = (c, wd) → (128 ≤ c ∧ c ≤ 1114111 ∧ (c < 55296 ∨ 57343 < c)) → wd ≤ l.length → (∀ j, j < wd → 128 ≤ (l.getD j 0).toNat) →
        (128 ≤ (decodeL l).1 ∧ (decodeL l).1 ≤ 1114111 ∧ ((decodeL l).1 < 55296 ∨ 57343 < (decodeL l).1) ∧ (decodeL l).2 ≤ l.length ∧ ∀ (j : Nat) b, j < (decodeL l).2 → l[j]? = some b → 128 ≤ b.toNat) := by
      intro c wd hd hc hw hb
      rw [hd]
      exact ⟨hc.1, hc.2.1, hc.2.2, hw, fun j b hj hjb => by rw [← gd j b hjb]; exact hb j hj⟩
    have bad : decodeL l = (65533, 1) → (128 ≤ (decodeL l).1 ∧ (decodeL l).1 ≤ 1114111 ∧ ((decodeL l).1 < 55296 ∨ 57343 < (decodeL l).1) ∧ (decodeL l).2 ≤ l.length ∧ ∀ (j : Nat) b, j < (decodeL l).2 → l[j]? = some b → 128 ≤ b.toNat) :=
      fun h => key _ _ h (by omega) (by omega) (fun j hj => by obtain rfl : j = 0 := by omega
                                                               omega)
    have hd := decodeL_N l
    unfold decodeN at hd
    rw [if_neg h0] at hd
    split at hd
    · split at hd
      · exact key _ _ hd (by omega) (by omega) (fun j hj => by rcases (by omega : j = 0 ∨ j = 1) with rfl | rfl <;> omega)
      · exact bad hd
    · split at hd
      · split at hd
        · exact key _ _ hd (by omega) (by omega) (fun j hj => by rcases (by omega : j = 0 ∨ j = 1 ∨ j = 2) with rfl | rfl | rfl <;> omega)
        · exact bad hd
      · split at hd
        · split at hd
          · exact key _ _ hd (by omega) (by omega) (fun j hj => by rcases (by omega : j = 0 ∨ j = 1 ∨ j = 2 ∨ j = 3) with rfl | rfl | rfl | rfl <;> omega)
          · exact bad hd
        · exact bad hd
end Go.Proofs.YtjkiehmjffgnlaaGreatDoor
