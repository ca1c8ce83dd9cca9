/-
  The walk of the statement on the limits. Conditions: what the listed variables hold.
-/
import Derived.Test.YtlkbfehdiopkbaaGreatDoorWireK
import Derived.Test.YtlkbfehdiopkbaaGreatDoorWireN
namespace Go.Proofs.YtlkbfehdiopkbaaGreatDoor
set_option linter.unusedVariables false
set_option linter.unusedSimpArgs false
open Go.RowKit

theorem out_stat {N : Nat} {x : Rd1 ReqT} {w w' : World} {e : Ending} (h : WReadP N x w e w') : ∃ q n, OutP q n (stat1 x) w e w' := by
  rcases x with st | ⟨q, r⟩
  · exact ⟨zq, 0, out_no rfl h⟩
  · exact ⟨q, _, out_ok rfl h⟩
theorem q1_text (n : Nat) : q1 n = [71, 69, 84, 32, 47] ++ (padS n ++ [32, 72, 84, 84, 80, 47, 49, 46, 49, 13, 10, 104, 111, 115, 116, 58, 32, 104, 13, 10, 13, 10]) := by
  unfold q1 reqText firstL hText lHost vHttp
  simp
theorem q2_text (n : Nat) : q2 n = [71, 69, 84, 32, 47, 32, 72, 84, 84, 80, 47, 49, 46, 49, 13, 10, 104, 111, 115, 116, 58, 32, 104, 13, 10, 97, 58] ++ (padS n ++ [13, 10, 13, 10]) := by
  unfold q2 reqText hText lHost lGet lA
  simp
theorem q3_text (n : Nat) : q3 n = [71, 69, 84, 32, 47, 32, 72, 84, 84, 80, 47, 49, 46, 49, 13, 10, 104, 111, 115, 116, 58, 32, 104, 13, 10] ++ (97 :: 58 :: (padS 1020 ++ [13, 10])) ++ (97 :: 58 :: (padS 1020 ++ [13, 10])) ++ (97 :: 58 :: (padS 1020 ++ [13, 10])) ++ (98 :: 58 :: (padS n ++ [13, 10, 13, 10])) := by
  unfold q3 reqText hText lHost lGet lA
  simp
def m4 (n : Nat) : List UInt8 := [71, 69, 84, 32, 47, 32, 72, 84, 84, 80, 47, 49, 46, 49, 13, 10, 104, 111, 115, 116, 58, 32, 104, 13, 10] ++ (List.replicate n [97, 58, 13, 10]).flatten
theorem m4_snoc (n : Nat) : m4 (n + 1) = m4 n ++ [97, 58, 13, 10] := by
  unfold m4
  rw [List.replicate_succ', List.flatten_append]
  simp
theorem m4_len (n : Nat) : (m4 n).length = 25 + 4 * n := by
  induction n with
  | zero => rfl
  | succ n ih => rw [m4_snoc, List.length_append, ih]; simp; omega
theorem q4_text (n : Nat) : q4 n = m4 n ++ [13, 10] := by
  have e : hText (List.replicate n (lA 97 0)) = (List.replicate n [97, 58, 13, 10]).flatten := by
    unfold hText
    rw [List.flatMap_def, List.map_replicate]
    rfl
  unfold q4 reqText m4
  rw [← e]
  unfold hText
  simp [lGet, lHost]
theorem q5_text (k : Nat) : q5 k = [71, 69, 84, 32, 47, 32, 72, 84, 84, 80, 47, 49, 46, 49, 13, 10, 104, 111, 115, 116, 58, 32, 104, 13, 10, 99, 111, 110, 116, 101, 110, 116, 45, 108, 101, 110, 103, 116, 104, 58, 32] ++ (numB 10 (8192 + k) ++ ([13, 10, 13, 10] ++ padS 8192)) := by
  rw [num10]
  unfold q5 reqText hText lHost lGet lLen'
  simp
theorem read_stat (t : List UInt8) (st : Int) (hs : stat1 (readW t) = st) (w : World) (ht : t.length ≤ 100000000) (hE : Env w) : Calls Tryz.prog 13 #[.string ⟨t.toArray⟩] w (fun e w' => ∃ q n, OutP q n st w e w') := by
  subst hs
  exact (wread_any t w ht hE).mono fun e w' h => out_stat h
def t3 (n : Nat) : List UInt8 := [71, 69, 84, 32, 47, 32, 72, 84, 84, 80, 47, 49, 46, 49, 13, 10, 104, 111, 115, 116, 58, 32, 104, 13, 10] ++ (List.replicate n (97 :: 58 :: (padS 1020 ++ [13, 10]))).flatten
theorem t3_snoc (n : Nat) : t3 (n + 1) = t3 n ++ (97 :: 58 :: (padS 1020 ++ [13, 10])) := by
  unfold t3
  rw [List.replicate_succ', List.flatten_append]
  simp
theorem t3_len (n : Nat) : (t3 n).length = 25 + 1024 * n := by
  induction n with
  | zero => rfl
  | succ n ih => rw [t3_snoc, List.length_append, ih]; simp [pad_len]; omega
theorem q3_t3 (n : Nat) : q3 n = t3 3 ++ (98 :: 58 :: (padS n ++ [13, 10, 13, 10])) := by
  rw [q3_text, t3_snoc, t3_snoc, t3_snoc]
  rfl
set_option maxHeartbeats 4000000 in
set_option maxRecDepth 100000 in
set_option linter.unusedSimpArgs false in
theorem law_limits (c : Nat) (w : World) (hc : c ≤ 255) (hE : Env w) :
    Calls Tryz.prog 5 #[.int .u8 (c : Int)] w (Ret (.bool true) w) := by
  have HFx := Lib.hid (fixed11_any w hE)
  have HRd := Lib.hid (fun t st hs w' (hb : Below w.heap.size w w') (ht : t.length ≤ 100000000) => read_stat t st hs w' ht (hE.below hb))
  obtain ⟨k, hk⟩ : ∃ k, k = c % 3 := ⟨_, rfl⟩
  have hk2 : k ≤ 2 := by omega
  have m1 : (c : Int).tmod 3 = (k : Int) := by rw [hk]; rfl
  have m2 : IntKind.u8.wrap (k : Int) = k := by
    have : k = 0 ∨ k = 1 ∨ k = 2 := by omega
    rcases this with rfl | rfl | rfl <;> rfl
  have m3 : IntKind.i64.wrap (k : Int) = k := IntWalk.i64_in _ (by omega)
  clear hk hE
  go_enter Tryz.func5, Tryz.ntmps5
  go_wp2_with fail
  refine HFx.out.mono ?_
  rintro e w1 ⟨rfl, hb1⟩
  clear HFx
  have HP1 := Lib.hid (show ∀ w, Calls Tryz.prog 16 #[.int .i64 (1010 + (k : Int))] w (Ret (.string ⟨(padS (1010 + k)).toArray⟩) w) from fun w => pad_any (1010 + k) w (by omega))
  have HP2 := Lib.hid (show ∀ w, Calls Tryz.prog 16 #[.int .i64 (1022 + (k : Int))] w (Ret (.string ⟨(padS (1022 + k)).toArray⟩) w) from fun w => pad_any (1022 + k) w (by omega))
  have HP3 := Lib.hid (show ∀ w, Calls Tryz.prog 16 #[.int .i64 (1011 + (k : Int))] w (Ret (.string ⟨(padS (1011 + k)).toArray⟩) w) from fun w => pad_any (1011 + k) w (by omega))
  have HP4 := Lib.hid (show ∀ w, Calls Tryz.prog 16 #[.int .i64 1020] w (Ret (.string ⟨(padS 1020).toArray⟩) w) from fun w => pad_any 1020 w (by omega))
  have HP5 := Lib.hid (show ∀ w, Calls Tryz.prog 16 #[.int .i64 8192] w (Ret (.string ⟨(padS 8192).toArray⟩) w) from fun w => pad_any 8192 w (by omega))
  have L1 := limit1 k
  have L2 := limit2 k
  have L3 := limit3 k hk2
  have L4 := limit4 k
  have L5 := limit5 k hk2
  rw [q1_text] at L1
  rw [q2_text] at L2
  have hp1 : (padS (1010 + k)).length = 1010 + k := pad_len _
  have hp2 : (padS (1022 + k)).length = 1022 + k := pad_len _
  have hp3 : (padS (1011 + k)).length = 1011 + k := pad_len _
  have hp4 : (padS 1020).length = 1020 := pad_len _
  have hp5 : (padS 8192).length = 8192 := pad_len _
  generalize padS (1010 + k) = P1 at *
  generalize padS (1022 + k) = P2 at *
  simp only [List.cons_append, List.nil_append, List.append_assoc] at L1 L2
  obtain ⟨S1, hS1⟩ : ∃ S : Int, S = if k = 0 then 0 else 414 := ⟨_, rfl⟩
  obtain ⟨S2, hS2⟩ : ∃ S : Int, S = if k = 0 then 0 else 431 := ⟨_, rfl⟩
  obtain ⟨S5, hS5⟩ : ∃ S : Int, S = if k = 0 then 0 else 413 := ⟨_, rfl⟩
  rw [← hS1] at L1
  rw [← hS2] at L2 L3 L4
  rw [← hS5] at L5
  have HS1 := Lib.hid hS1
  have HS2 := Lib.hid hS2
  have HS5 := Lib.hid hS5
  clear hS1 hS2 hS5
  have HL1 := Lib.hid L1
  have HL2 := Lib.hid L2
  have HL3 := Lib.hid L3
  have HL4 := Lib.hid L4
  have HL5 := Lib.hid L5
  clear L1 L2 L3 L4 L5
  go_wp2_with fail
  have HA := Lib.hid (hb1.alloc hb1.size (.cells #[.int .i64 0, .int .i64 414, .int .i64 414] 35 (0, 0)))
  have c1 := cell_new w1 #[.int .i64 0, .int .i64 414, .int .i64 414] 35 1
  have c2 := cell_new w1 #[.int .i64 0, .int .i64 414, .int .i64 414] 35 2
  simp only [List.getElem?_toArray, List.getElem?_cons_zero, List.getElem?_cons_succ] at c1 c2
  have HC := Lib.hid (And.intro (show w1.heap.size < (w1.alloc (.cells #[.int .i64 0, .int .i64 414, .int .i64 414] 35 (0, 0))).heap.size by simp) (And.intro c1 c2))
  generalize w1.alloc (.cells #[.int .i64 0, .int .i64 414, .int .i64 414] 35 (0, 0)) = wA at *
  clear hb1 c1 c2
  refine (HP1.out _).mono ?_
  rintro e w2 ⟨rfl, hb2⟩
  have HB2 := Lib.hid hb2
  clear hb2
  go_wp2_with fail
  refine (HRd.out _ _ HL1.out w2 (HA.out.trans (HB2.out.mono HA.out.size)) (by simp; omega)).mono ?_
  rintro e w3 ⟨q1, n1, hb3, v1, rfl, hh1⟩
  obtain ⟨A1, c1, rfl, -, -, -⟩ := hh1
  unfold reqV
  have HB3 := Lib.hid ((HB2.out.trans (hb3.mono HB2.out.size)).alloc (HB2.out.trans (hb3.mono HB2.out.size)).size (.cells #[.string ⟨q1.method.toArray⟩, .string ⟨q1.target.toArray⟩, .slice A1 q1.hdrs.length c1, .string ⟨q1.body.toArray⟩, .bool q1.close] 26 (0, 0)))
  clear HB2 hb3
  go_wp2_with fail
  refine (HP2.out _).mono ?_
  rintro e w4 ⟨rfl, hb4⟩
  have HB4 := Lib.hid (HB3.out.trans (hb4.mono HB3.out.size))
  clear HB3 hb4
  go_wp2_with fail
  refine (HRd.out _ _ HL2.out w4 (HA.out.trans (HB4.out.mono HA.out.size)) (by simp; omega)).mono ?_
  rintro e w5 ⟨q2, n2, hb5, v2, rfl, hh2⟩
  obtain ⟨A2, c2, rfl, -, -, -⟩ := hh2
  unfold reqV
  have HB5 := Lib.hid ((HB4.out.trans (hb5.mono HB4.out.size)).alloc (HB4.out.trans (hb5.mono HB4.out.size)).size (.cells #[.string ⟨q2.method.toArray⟩, .string ⟨q2.target.toArray⟩, .slice A2 q2.hdrs.length c2, .string ⟨q2.body.toArray⟩, .bool q2.close] 26 (0, 0)))
  clear HB4 hb5
  go_wp2_with fail
  generalize w5.alloc (.cells #[.string ⟨q2.method.toArray⟩, .string ⟨q2.target.toArray⟩, .slice A2 q2.hdrs.length c2, .string ⟨q2.body.toArray⟩, .bool q2.close] 26 (0, 0)) = w6 at *
  go_loopw [12, 13] (fun tv iv wr => ∃ j : Nat, j ≤ 3 ∧ iv = .int .i64 j ∧ tv = .string ⟨(t3 j).toArray⟩ ∧ Below wA.heap.size wA wr) (fun _ iv _ => 3 - (intOf iv).toNat)
  case atStart => exact ⟨0, by omega, rfl, rfl, HB5.out⟩
  case round =>
    obtain ⟨j, hj, rfl, rfl, hb⟩ := hrel
    have hml := t3_len j
    rcases Nat.lt_or_ge j 3 with hlt | hge
    · have HM := Lib.hid (t3_snoc j)
      generalize t3 j = M at *
      go_wp2_with fail
      refine (HP4.out _).mono ?_
      rintro e w7 ⟨rfl, hb7⟩
      have HB7 := Lib.hid (hb.trans (hb7.mono hb.size))
      clear hb hb7
      generalize padS 1020 = P4 at *
      go_wp2_with fail
      go_roundw
      case rel => exact ⟨j + 1, by omega, by go_num, by rw [HM.out], HB7.out⟩
      case measure => simp [intOf]; omega
    · obtain rfl : j = 3 := by omega
      have L3 := HL3.out
      rw [q3_t3] at L3
      have HLx := Lib.hid L3
      have HB7 := Lib.hid hb
      clear L3 HL3 hb HB5 hge hj
      generalize t3 3 = M at *
      generalize padS (1011 + k) = P3 at *
      go_wp2_with fail
      refine (HP3.out _).mono ?_
      rintro e w8 ⟨rfl, hb8⟩
      have HB8 := Lib.hid (HB7.out.trans (hb8.mono HB7.out.size))
      clear HB7 hb8
      go_wp2_with fail
      refine (HRd.out _ _ HLx.out w8 (HA.out.trans (HB8.out.mono HA.out.size)) (by simp; omega)).mono ?_
      rintro e w9 ⟨q3, n3, hb9, v3, rfl, hh3⟩
      obtain ⟨A3, c3, rfl, -, -, -⟩ := hh3
      unfold reqV
      have HB9 := Lib.hid ((HB8.out.trans (hb9.mono HB8.out.size)).alloc (HB8.out.trans (hb9.mono HB8.out.size)).size (.cells #[.string ⟨q3.method.toArray⟩, .string ⟨q3.target.toArray⟩, .slice A3 q3.hdrs.length c3, .string ⟨q3.body.toArray⟩, .bool q3.close] 26 (0, 0)))
      clear HB8 hb9 HLx
      go_wp2_with fail
      generalize w9.alloc (.cells #[.string ⟨q3.method.toArray⟩, .string ⟨q3.target.toArray⟩, .slice A3 q3.hdrs.length c3, .string ⟨q3.body.toArray⟩, .bool q3.close] 26 (0, 0)) = wB at *
      go_loopw [17, 18] (fun tv iv wr => ∃ j : Nat, j ≤ 31 + k ∧ iv = .int .i64 j ∧ tv = .string ⟨(m4 j).toArray⟩ ∧ Below wA.heap.size wA wr) (fun _ iv _ => 31 + k - (intOf iv).toNat)
      case atStart => exact ⟨0, by omega, rfl, rfl, HB9.out⟩
      case round =>
        obtain ⟨j, hj, rfl, rfl, hb⟩ := hrel
        have hml4 := m4_len j
        rcases Nat.lt_or_ge j (31 + k) with hlt | hge
        · have HM := Lib.hid (m4_snoc j)
          generalize m4 j = M4 at *
          have k1 : (j : Int) < 31 + k := by omega
          go_wp2
          go_roundw
          case rel => exact ⟨j + 1, by omega, by go_num, by rw [HM.out], hb⟩
          case measure => simp [intOf]; omega
        · obtain rfl : j = 31 + k := by omega
          have k1 : ¬ (((31 + k : Nat) : Int) < 31 + k) := by omega
          have L4 := HL4.out
          have L5 := HL5.out
          rw [q4_text] at L4
          rw [q5_text] at L5
          simp only [List.cons_append, List.nil_append, List.append_assoc] at L5
          have HL4x := Lib.hid L4
          have HL5x := Lib.hid L5
          have HBc := Lib.hid hb
          have HNm := Lib.hid (show ∀ w, Calls Tryz.prog 15 #[.int .i64 (8192 + (k : Int)), .int .i64 10] w (Same0 (.string ⟨(numB 10 (8192 + k)).toArray⟩) w) from fun w => number_any 10 (.inl rfl) (8192 + k) w (by omega))
          have hnl : (numB 10 (8192 + k)).length ≤ 8193 + k := by have := numB_len 10 (8192 + k); omega
          clear L4 L5 HL4 HL5 hb hge hj HB9
          generalize m4 (31 + k) = M4 at *
          generalize numB 10 (8192 + k) = NB at *
          generalize padS 8192 = P5 at *
          go_wp2_with fail
          refine (HRd.out _ _ HL4x.out wr (HA.out.trans (HBc.out.mono HA.out.size)) (by simp; omega)).mono ?_
          rintro e w10 ⟨q4, n4, hb10, v4, rfl, hh4⟩
          obtain ⟨A4, c4, rfl, -, -, -⟩ := hh4
          unfold reqV
          have HBd := Lib.hid ((HBc.out.trans (hb10.mono HBc.out.size)).alloc (HBc.out.trans (hb10.mono HBc.out.size)).size (.cells #[.string ⟨q4.method.toArray⟩, .string ⟨q4.target.toArray⟩, .slice A4 q4.hdrs.length c4, .string ⟨q4.body.toArray⟩, .bool q4.close] 26 (0, 0)))
          clear HBc hb10 HL4x
          go_wp2_with fail
          generalize w10.alloc (.cells #[.string ⟨q4.method.toArray⟩, .string ⟨q4.target.toArray⟩, .slice A4 q4.hdrs.length c4, .string ⟨q4.body.toArray⟩, .bool q4.close] 26 (0, 0)) = wD at *
          refine (HNm.out _).mono ?_
          rintro e w11 ⟨rfl, rfl⟩
          clear HNm
          go_wp2_with fail
          refine (HP5.out _).mono ?_
          rintro e w12 ⟨rfl, hb12⟩
          have HBe := Lib.hid (HBd.out.trans (hb12.mono HBd.out.size))
          clear HBd hb12
          go_wp2_with fail
          refine (HRd.out _ _ HL5x.out w12 (HA.out.trans (HBe.out.mono HA.out.size)) (by simp; omega)).mono ?_
          rintro e w13 ⟨q5, n5, hb13, v5, rfl, hh5⟩
          obtain ⟨A5, c5, rfl, -, -, -⟩ := hh5
          unfold reqV
          have HBf := Lib.hid ((HBe.out.trans (hb13.mono HBe.out.size)).alloc (HBe.out.trans (hb13.mono HBe.out.size)).size (.cells #[.string ⟨q5.method.toArray⟩, .string ⟨q5.target.toArray⟩, .slice A5 q5.hdrs.length c5, .string ⟨q5.body.toArray⟩, .bool q5.close] 26 (0, 0)))
          clear HBe hb13 HL5x
          obtain ⟨hz, hc1, hc2⟩ := HC.out
          have d1 := (HBf.out.cell (p := ⟨w1.heap.size, 1, none⟩) hz).trans hc1
          have d2 := (HBf.out.cell (p := ⟨w1.heap.size, 2, none⟩) hz).trans hc2
          have hbl := HA.out.trans (HBf.out.mono HA.out.size)
          have e1 := HS1.out
          have e2 := HS2.out
          have e5 := HS5.out
          clear HC hz hc1 hc2 HBf HA HS1 HS2 HS5 HP1 HP2 HP3 HP4 HP5 HL1 HL2 HRd
          have hk3 : k = 0 ∨ k = 1 ∨ k = 2 := by omega
          rcases hk3 with rfl | rfl | rfl
          · rw [if_pos rfl] at e1 e2 e5
            subst e1 e2 e5
            go_wp2
            go_ret
            exact ⟨rfl, hbl⟩
          · rw [if_neg (by decide)] at e1 e2 e5
            subst e1 e2 e5
            go_wp2
            go_ret
            exact ⟨rfl, hbl⟩
          · rw [if_neg (by decide)] at e1 e2 e5
            subst e1 e2 e5
            go_wp2
            go_ret
            exact ⟨rfl, hbl⟩
end Go.Proofs.YtlkbfehdiopkbaaGreatDoor
