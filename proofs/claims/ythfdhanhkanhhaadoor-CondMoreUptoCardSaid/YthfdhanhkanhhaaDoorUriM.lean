/-
  The walk of the laws' own fixed(): what the document fixes holds. Condition: the package variables hold what the row lists.
-/
import Derived.Test.YthfdhanhkanhhaaDoorUriL
namespace Go.Proofs.YthfdhanhkanhhaaDoor
open Go.RowKit

theorem parse_val (t : List UInt8) (p : List (List UInt8)) (d : Bool) (n : Int) (w : World) (hs : t.length ≤ 1048576) (hE : Env w) (h : parseS t = (p, d, n)) :
    Calls Tryd.prog 12 #[.string ⟨t.toArray⟩] w fun e w' => ∃ v, e = .returned (.tuple #[v, .bool d, .int .i64 n]) ∧ Strs w' v p ∧ Below w.heap.size w w' := by
  refine (parse_any t w hs hE).mono ?_
  rintro e w' ⟨v, he, hv, hb⟩
  rw [h] at he hv
  exact ⟨v, he, hv, hb⟩
theorem fix1 : parseS [47, 97, 47, 98, 37, 50, 48, 99, 47] = ([[97], [98, 32, 99]], true, 0) := by decide +kernel
theorem fix2 : parseS [47, 37, 50, 70] = ([], false, 20) := by decide +kernel
theorem fix3 : textS [[97], [98, 32, 99], [37]] = [47, 97, 47, 98, 37, 50, 48, 99, 47, 37, 50, 53] := by decide +kernel
theorem fix4 : textS [] = [47] := by decide +kernel
/-- a literal list of strings, just laid. -/
theorem strs_lit (w : World) (ls : List (List UInt8)) (n : Nat) (hn : ls.length = n) (hm : n ≤ 1000) : Strs (w.alloc (.cells (vstrs ls).toArray 9)) (.slice (some ⟨w.heap.size, 0, none⟩) n n) ls := by
  subst hn
  have := (Own.lit (B := 0) 9 w (vstrs ls).toArray (Nat.zero_le _) (by simp [vstrs_len]; unfold maxLen; omega)).rd
  simp only [List.size_toArray, vstrs_len] at this
  exact strs_of_rd this
theorem strs_lit' (w : World) (ls : List (List UInt8)) (n b : Nat) (hb : b = w.heap.size) (hn : ls.length = n) (hm : n ≤ 1000) : Strs (w.alloc (.cells (vstrs ls).toArray 9)) (.slice (some ⟨b, 0, none⟩) n n) ls := by
  subst hb; exact strs_lit w ls n hn hm
theorem fits_of {ls : List (List UInt8)} (h : ∀ l ∈ ls, l.length ≤ 1000000) : Fits ls := fun j l hj => by
  have := h l (List.mem_of_getElem? hj)
  unfold maxLen; omega

set_option maxHeartbeats 1000000 in
set_option maxRecDepth 100000 in
set_option linter.unusedSimpArgs false in
theorem fixed_any (w : World) (hE : Env w) : Calls Tryd.prog 11 #[] w (Ret (.bool true) w) := by
  go_enter Tryd.func11, Tryd.ntmps11
  go_wp2_with fail
  have h1 := (parse_val [47, 97, 47, 98, 37, 50, 48, 99, 47] [[97], [98, 32, 99]] true 0 _ (by decide) hE fix1)
  refine h1.mono ?_
  rintro e w1 ⟨v1, rfl, hv1, hb1⟩
  go_wp2_with fail
  have h2 := (parse_val [47, 37, 50, 70] [] false 20 _ (by decide) (hE.below hb1) fix2)
  refine h2.mono ?_
  rintro e w2 ⟨v2, rfl, hv2, hb2⟩
  have hb12 := hb1.trans (hb2.mono hb1.size)
  obtain ⟨a1, c1, rfl, -, -, hc⟩ := hv1.below hb2 (Nat.le_refl _)
  obtain ⟨b, o, rfl, hblt, hcell⟩ := hc 1 [98, 32, 99] rfl
  have hE2 := hE.below hb12
  clear hc hv1 hv2
  go_wp2_with fail
  have h3 := (text_any _ [[97], [98, 32, 99], [37]] _ (strs_lit w2 _ 3 rfl (by omega)) (fits_of (by decide)) (hE2.below ((Below.refl _ _).alloc (Nat.le_refl _) _)))
  refine h3.mono ?_
  rw [fix3]
  rintro e w3 ⟨rfl, hb3⟩
  have hb23 : Below w2.heap.size w2 w3 := ((Below.refl _ _).alloc (Nat.le_refl _) _).trans (hb3.mono (by simp))
  have hb13 := hb12.trans (hb23.mono hb12.size)
  go_wp2_with fail
  have q1 : Strs ((w3.alloc (.cells (vstrs [[97], [98]]).toArray 9)).alloc (.cells (vstrs [[97]]).toArray 9)) (.slice (some ⟨w3.heap.size, 0, none⟩) 2 2) [[97], [98]] := (strs_lit w3 [[97], [98]] 2 rfl (by omega)).alloc _
  have q2 : Strs ((w3.alloc (.cells (vstrs [[97], [98]]).toArray 9)).alloc (.cells (vstrs [[97]]).toArray 9)) (.slice (some ⟨w3.heap.size + 1, 0, none⟩) 1 1) [[97]] := strs_lit' _ [[97]] 1 _ (by simp) rfl (by omega)
  have hE3 := (hE.below hb13).below (((Below.refl w3.heap.size w3).alloc (Nat.le_refl _) (.cells (vstrs [[97], [98]]).toArray 9)).alloc (by simp) (.cells (vstrs [[97]]).toArray 9))
  have h4 := within_any _ _ [[97], [98]] [[97]] _ q1 q2
  refine h4.mono ?_
  rw [show withinS [[97], [98]] [[97]] = true from by decide]
  rintro e w4 ⟨rfl, rfl⟩
  go_wp2_with fail
  have h5 := text_any _ [] _ (strs_nil _) (fits_of (by decide)) hE3
  refine h5.mono ?_
  rw [fix4]
  rintro e w5 ⟨rfl, hb5⟩
  go_wp2
  go_ret
  exact ⟨rfl, hb13.trans (((((Below.refl w3.heap.size w3).alloc (Nat.le_refl _) _).alloc (by simp) _).trans (hb5.mono (by simp; omega))).mono hb13.size)⟩
end Go.Proofs.YthfdhanhkanhhaaDoor
