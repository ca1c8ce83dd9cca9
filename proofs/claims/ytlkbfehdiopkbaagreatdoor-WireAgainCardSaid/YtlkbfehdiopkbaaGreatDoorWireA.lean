/-
  The walks of wire's fail, line, take. Conditions: the reader lies in a block of its own; its bytes are fewer than a hundred million.
-/
import Derived.Test.YtlkbfehdiopkbaaGreatDoorWireMem
import Derived.Test.YtlkbfehdiopkbaaGreatDoorRepD
namespace Go.Proofs.YtlkbfehdiopkbaaGreatDoor
set_option linter.unusedVariables false
set_option linter.unusedSimpArgs false
open Go.RowKit
set_option maxHeartbeats 400000 in
set_option maxRecDepth 100000 in
set_option linter.unusedSimpArgs false in
theorem fail_any (st : Int) (w : World) : Calls Tryz.prog 54 #[.int .i64 st] w (fun e w' => e = .panicked (stopE st) ∧ w = w') := by
  go_enter Tryz.func54, Tryz.ntmps54
  go_wp2
  exact ⟨rfl, rfl, rfl⟩
theorem take_min (s : List UInt8) : s.take (min (s.length : Int) 1026).toNat = s.take 1026 := by
  by_cases h : s.length ≤ 1026
  · rw [show (min (s.length : Int) 1026).toNat = s.length by omega, List.take_length, List.take_of_length_le h]
  · rw [show (min (s.length : Int) 1026).toNat = 1026 by omega]
theorem ib_look {s : List UInt8} {i : Int} (hi : Lib.indexByte (s.take 1026) 10 = i) (w : World) :
    Calls Tryz.prog 75 #[.string ⟨(s.take (min (s.length : Int) 1026).toNat).toArray⟩, .int .u8 10] w (Same0 (.int .i64 i) w) := by
  have h := indexByte_any (s.take 1026) 10 w
  rw [hi] at h
  rw [take_min]
  exact h
set_option maxHeartbeats 400000 in
set_option maxRecDepth 100000 in
set_option linter.unusedSimpArgs false in
theorem line_any (b : Nat) (buf s : List UInt8) (w : World) (h : WR w b buf s) (hb : buf.length ≤ 9223372036854775807) (long broken : Int) :
    Calls Tryz.prog 50 #[.pointer (some ⟨b, 0, none⟩), .int .i64 long, .int .i64 broken] w (WOut b buf (lineS long broken s) str w) := by
  obtain ⟨k, h⟩ := h
  have hc0 := h.c0
  have hc1 := h.c1
  have hf1 := h.f1
  have hd := h.left
  have hle := h.le
  have hln := h.len
  have H := Lib.hid h
  have HF := Lib.hid fail_any
  clear h
  rcases lineK long broken s with ⟨hl, hi, e⟩ | ⟨hl, hi, e⟩ | ⟨r, hs, e⟩ | ⟨a, r, hs, h0, ha, hn, hi, e⟩ | ⟨l, r, hs, ha, hn, hcr, e⟩
  · have hl2 : ¬ (1026 : Int) < s.length := by omega
    have HI := Lib.hid (@ib_look s (-1) (by rw [List.take_of_length_le (by omega)]; exact hi))
    have hE := Lib.hid e
    clear e
    go_enter Tryz.func50, Tryz.ntmps50
    go_wp2_with fail
    go_quiet (fail)
    go_wp2_with fail
    refine (HI.out _).mono ?_
    rintro e w1 ⟨rfl, rfl⟩
    go_wp2_with fail
    refine (HF.out _ _).mono ?_
    rintro e w1 ⟨rfl, rfl⟩
    exact ⟨rfl, wout_no hE.out (grown_draws (grown_refl _ _) _)⟩
  · have hl2 : decide ((s.length : Int) < 1026) = false := by simp; omega
    have hl3 : (1026 : Int) ≤ s.length := by omega
    have HI := Lib.hid (@ib_look s (-1) hi)
    have hE := Lib.hid e
    clear e hi
    go_enter Tryz.func50, Tryz.ntmps50
    go_wp2_with fail
    go_quiet (fail)
    · go_wp2_with fail
      refine (HI.out _).mono ?_
      rintro e w1 ⟨rfl, rfl⟩
      go_wp2_with fail
      refine (HF.out _ _).mono ?_
      rintro e w1 ⟨rfl, rfl⟩
      exact ⟨rfl, wout_no hE.out (grown_draws (grown_refl _ _) _)⟩
  · have HI := Lib.hid (@ib_look s 0 (by rw [hs]; rfl))
    have hE := Lib.hid e
    clear e hs
    go_enter Tryz.func50, Tryz.ntmps50
    go_wp2_with fail
    go_quiet (fail)
    · go_wp2_with fail
      refine (HI.out _).mono ?_
      rintro e w1 ⟨rfl, rfl⟩
      go_wp2_with fail
      refine (HF.out _ _).mono ?_
      rintro e w1 ⟨rfl, rfl⟩
      exact ⟨rfl, wout_no hE.out (grown_draws (grown_refl _ _) _)⟩
  · have HI := Lib.hid (@ib_look s a.length (by
      rw [hs, List.take_append, List.take_of_length_le (by omega)]
      obtain ⟨m, hm⟩ : ∃ m, 1026 - a.length = m + 1 := ⟨1026 - a.length - 1, by omega⟩
      rw [hm, List.take_succ_cons]
      exact ib_at hn _))
    have hE := Lib.hid e
    have htk : s.take a.length = a := by rw [hs, List.take_left]
    have hal : (a.length : Int) ≤ s.length := by rw [hs, List.length_append]; omega
    have h0' : (0 : Int) < a.length := by omega
    have h0b : ((a.length : Int) == 0) = false := beq_eq_false_iff_ne.2 (by omega)
    have HJ := Lib.hid (indexByte_any a 13)
    generalize Lib.indexByte a 13 = j at hi HJ
    clear e hs
    go_enter Tryz.func50, Tryz.ntmps50
    go_wp2_with fail
    go_quiet (fail)
    · go_wp2_with fail
      refine (HI.out _).mono ?_
      rintro e w1 ⟨rfl, rfl⟩
      go_wp2_with fail
      refine (HJ.out _).mono ?_
      rintro e w1 ⟨rfl, rfl⟩
      go_wp2_with fail
      refine (HF.out _ _).mono ?_
      rintro e w1 ⟨rfl, rfl⟩
      exact ⟨rfl, wout_no hE.out (grown_draws (grown_refl _ _) _)⟩
  · have HI := Lib.hid (@ib_look s ((l.length : Int) + 1) (by
      have e1 : s = (l ++ [13]) ++ 10 :: r := by rw [hs]; simp
      rw [e1, List.take_append, List.take_of_length_le (by simp; omega)]
      obtain ⟨m, hm⟩ : ∃ m, 1026 - (l ++ [13]).length = m + 1 := ⟨1026 - (l ++ [13]).length - 1, by simp; omega⟩
      rw [hm, List.take_succ_cons, ib_at (by simp [hn])]
      simp))
    have hE := Lib.hid e
    have htk : s.take (l.length + 1) = l ++ [13] := by rw [hs, show l ++ 13 :: 10 :: r = (l ++ [13]) ++ 10 :: r by simp, show l.length + 1 = (l ++ [13]).length by simp, List.take_left]
    have htk2 : s.take l.length = l := by rw [hs, List.take_left]
    have hdr : s.drop (l.length + 2) = r := by rw [hs, show l ++ 13 :: 10 :: r = (l ++ [13, 10]) ++ r by simp, show l.length + 2 = (l ++ [13, 10]).length by simp, List.drop_left]
    have hsl : l.length + 2 ≤ s.length := by rw [hs]; simp
    have HMv := Lib.hid (H.out.moves (l.length + 2) hsl ((k : Int) + ((l.length : Int) + 1 + 1)) (by omega))
    rw [hdr] at HMv
    have hal : (l.length : Int) + 1 ≤ s.length := by omega
    have hal0 : (l.length : Int) ≤ s.length := by omega
    have h0' : (0 : Int) ≤ (l.length : Int) + 1 := by omega
    have hj := ib_end hcr
    have HJ := Lib.hid (indexByte_any (l ++ [13]) 13)
    rw [hj] at HJ
    clear e hs hj hdr
    go_enter Tryz.func50, Tryz.ntmps50
    go_wp2_with fail
    go_quiet (fail)
    · go_wp2_with fail
      refine (HI.out _).mono ?_
      rintro e w1 ⟨rfl, rfl⟩
      go_wp2_with fail
      refine (HJ.out _).mono ?_
      rintro e w1 ⟨rfl, rfl⟩
      go_wp2
      go_ret
      exact wout_ok hE.out rfl (grown_dcell w _ _ _ _) ⟨_, HMv.out _⟩
set_option maxHeartbeats 400000 in
set_option maxRecDepth 100000 in
set_option linter.unusedSimpArgs false in
theorem take_any (b : Nat) (buf s : List UInt8) (w : World) (h : WR w b buf s) (hb : buf.length ≤ 9223372036854775807) (n : Nat) (hn : n ≤ 100000000) :
    Calls Tryz.prog 62 #[.pointer (some ⟨b, 0, none⟩), .int .i64 n] w (WOut b buf (takeS n s) str w) := by
  obtain ⟨k, h⟩ := h
  have hc0 := h.c0
  have hc1 := h.c1
  have hf1 := h.f1
  have hd := h.left
  have hle := h.le
  have hln := h.len
  have H := Lib.hid h
  clear h
  by_cases hl : s.length < n
  · have hE := Lib.hid (show takeS n s = .error (-1) from if_pos hl)
    have hl2 : decide ((buf.length : Int) - k < n) = true := decide_eq_true (by omega)
    have hl3 : (0 : Int) ≤ (buf.length : Int) - k := by omega
    go_enter Tryz.func62, Tryz.ntmps62
    go_wp2_with fail
    go_quiet (fail)
    go_wp2_with fail
    refine (fail_any _ _).mono ?_
    rintro e w1 ⟨rfl, rfl⟩
    exact ⟨rfl, wout_no hE.out (grown_draws (grown_refl _ _) _)⟩
  · have hE := Lib.hid (show takeS n s = .ok (s.take n, s.drop n) from if_neg hl)
    have hl2 : decide ((buf.length : Int) - k < n) = false := decide_eq_false (by omega)
    have hl3 : (0 : Int) ≤ (buf.length : Int) - k := by omega
    have HMv := Lib.hid (H.out.moves n (by omega) ((k : Int) + n) rfl)
    have hs1 : (k : Int) + n ≤ buf.length := by omega
    have hs2 : (k : Int) + n - n = k := by omega
    have hs3 : (0 : Int) ≤ (k : Int) + n := by omega
    have hs4 : IntKind.i64.wrap ((k : Int) + n - n) = k := by rw [hs2]; exact IntWalk.i64_in _ (by omega)
    have htk : (buf.take (k + n)).drop k = s.take n := by rw [← hd, List.drop_take]; congr 1; omega
    go_enter Tryz.func62, Tryz.ntmps62
    go_wp2_with fail
    go_quiet (fail)
    go_wp2_with fail
    go_quiet (fail)
    go_wp2
    go_ret
    exact wout_ok hE.out (show Value.string ⟨((buf.take (k + n)).drop k).toArray⟩ = str (s.take n) by rw [htk]; rfl) (grown_draws (grown_dcell w _ _ _ _) _) ⟨_, (HMv.out _).draws _⟩
end Go.Proofs.YtlkbfehdiopkbaaGreatDoor
