/-
  Parts of the walks and plain laws of layer 10, joined: AskL AskX AskRow. Conditions: as each theorem states them.
-/
import Derived.Test.YtopogglcnnjdlaaGreatDoorXmlZ34
import Derived.Test.YtopogglcnnjdlaaGreatDoorXmlZ2
import Derived.Test.YtopogglcnnjdlaaGreatDoorXmlZ30
/-! AskL -/
namespace Go.Proofs.YtopogglcnnjdlaaGreatDoor
set_option linter.unusedVariables false
set_option linter.unusedSimpArgs false
open Go.RowKit

theorem eachD_count (n : NodeT) (w : List UInt8) : countL (eachD [n] w) < countN n := by
  rw [eachD_one]
  have h1 := count_filter (fun x => isD x w) n.kids
  have h2 := countN_kids n
  omega
def lockW (bx : Bool) (x : Except Int (List UInt8)) : Except Int AskT := match x with
  | .error _ => .error 5
  | .ok s => if 512 < s.length then .error 5 else .ok ⟨bx, s⟩
def lockE (bx : Bool) (L3 : List NodeT) : Except Int AskT := match L3 with
  | [] => .ok ⟨bx, []⟩
  | o :: _ => lockW bx (writeX o)
def lockL (L1 L2 L3 X1 X2 X3 : List NodeT) : Except Int AskT :=
  if L1.length ≠ 1 ∨ L2.length ≠ 1 ∨ 1 < L3.length then .error 50
  else if X1.length + X2.length ≠ 1 ∨ X3.length = 0 then .error 50
  else lockE (decide (X1.length = 1)) L3
theorem lockL_eq (n : NodeT) : lockT n = lockL (eachD [n] wScope) (eachD [n] wType) (eachD [n] wOwner) (eachD (eachD [n] wScope) wExcl) (eachD (eachD [n] wScope) wShared) (eachD (eachD [n] wType) wWrite) := by
  unfold lockT lockL lockE lockW
  rfl
def lockOf (x : Except Int NodeT) : Except Int AskT := match x with
  | .error e => .error e
  | .ok n => lockT n
theorem write_err {n : NodeT} {k : Int} (h : writeX n = .error k) : k = 5 ∨ k = 30 := by
  unfold writeX at h
  split at h
  · split at h
    · injection h with h; exact .inl h.symm
    · cases h
  · injection h with h; exact .inr h.symm
set_option maxHeartbeats 64000000 in
set_option maxRecDepth 100000 in
set_option linter.unusedSimpArgs false in
theorem alock_any (body : List UInt8) (w : World) (hs : body.length ≤ 2 ^ 63 - 1) (hp : ∀ n, parseX body = .ok n → SmallN 2000000 n ∧ bulkT n ≤ 15000000000000) (hE : XEnv w) : Calls Tryz.prog 35 #[.string ⟨body.toArray⟩] w (LockV (askLock body) w) := by
  obtain ⟨ANS, hANS⟩ : ∃ A, A = askLock body := ⟨_, rfl⟩
  rw [← hANS]
  obtain ⟨E, hEE⟩ : ∃ E, E = LockV ANS w := ⟨_, rfl⟩
  rw [← hEE]
  have HEE := Lib.hid hEE
  have hb0 : Below w.heap.size w (w.alloc (.cells #[.bool false, .string ⟨#[]⟩] 79 (0, 0))) := (Below.refl _ _).alloc (Nat.le_refl _) _
  have HR0 := Lib.hid (heap_alloc_new w (.cells #[.bool false, .string ⟨#[]⟩] 79 (0, 0)))
  have HB0 := Lib.hid hb0
  have HE := Lib.hid hE
  have HRd := Lib.hid (aread_any body wLock (w.alloc (.cells #[.bool false, .string ⟨#[]⟩] 79 (0, 0))) hs (hE.below hb0))
  have HA0 := Lib.hid (show ANS = lockOf (askRead body wLock) by rw [hANS]; rfl)
  clear hANS hEE hb0 hE
  rcases hx : askRead body wLock with k | n
  · have hk := askRead_err hx
    have HRd2 := Lib.hid (show Calls Tryz.prog 41 #[.string ⟨body.toArray⟩, .string ⟨wLock.toArray⟩] _ (NodesE (.error k) _) by have := HRd.out; rw [hx] at this; exact this)
    obtain rfl : ANS = .error k := by rw [HA0.out, hx]; rfl
    clear HRd HA0 hx hp
    rcases hk with rfl | rfl | rfl | rfl
    all_goals
      go_enter Tryz.func35, Tryz.ntmps35
      go_wp2_with fail
      refine HRd2.out.mono fun e w1 h => ?_
      obtain ⟨hb1, kA, kc, rfl⟩ := NodesE.err h
      have HB1 := Lib.hid (HB0.out.trans (hb1.mono HB0.out.size))
      have HR1 := Lib.hid ((hb1.block _ (xlt HR0.out)).trans HR0.out)
      clear hb1 h HRd2
      go_wp2_with (refine wpList_store_row rfl 79 _ _ rfl w.heap.size _ rfl rfl 79 _ HR1.out (by kernel_rfl) rfl (by simp [Value.oneCell']) ?_)
      obtain ⟨hb2, hr2⟩ := row_end HB1.out HR1.out (Nat.le_refl _) #[.bool false, .string ⟨#[]⟩]
      refine bodyPost_ret (results_ct rfl _ _ _ _ _ _ _ rfl hr2 Tryz.underlying79 rfl (by kernel_rfl)) rfl ?_
      rw [HEE.out]
      exact ⟨hb2, rfl⟩
  have HRd2 := Lib.hid (show Calls Tryz.prog 41 #[.string ⟨body.toArray⟩, .string ⟨wLock.toArray⟩] _ (NodesE (.ok [n]) _) by have := HRd.out; rw [hx] at this; exact this)
  have hgc := good_count (parse_good (askRead_ok hx).1)
  have hcn := one_count hgc
  have hsm := hp n (askRead_ok hx).1
  have HA := Lib.hid (show ANS = lockL (eachD [n] wScope) (eachD [n] wType) (eachD [n] wOwner) (eachD (eachD [n] wScope) wExcl) (eachD (eachD [n] wScope) wShared) (eachD (eachD [n] wType) wWrite) by rw [HA0.out, hx]; exact lockL_eq n)
  have hc1 := eachD_count n wScope
  have hc2 := eachD_count n wType
  have ho3 : ∀ o, o ∈ eachD [n] wOwner → SmallN 2000000 o ∧ (formN [] o).length ≤ 90000000000000 := fun o ho => by
    rw [eachD_one] at ho
    have hk := (List.mem_filter.1 ho).1
    refine ⟨hsm.1.parts.2.2.2.2.2.2 o hk, ?_⟩
    have h1 := form_bulk o []
    have h2 := bulkTL_mem _ _ hk
    have h3 : bulkTL n.kids ≤ bulkT n := by obtain ⟨t, s, m, ats, ks⟩ := n; rw [bulkT]; show bulkTL ks ≤ _; omega
    have h4 := hsm.2
    omega
  have HO3 := Lib.hid ho3
  obtain ⟨L1, hL1⟩ : ∃ L, L = eachD [n] wScope := ⟨_, rfl⟩
  obtain ⟨L2, hL2⟩ : ∃ L, L = eachD [n] wType := ⟨_, rfl⟩
  obtain ⟨L3, hL3⟩ : ∃ L, L = eachD [n] wOwner := ⟨_, rfl⟩
  rw [← hL1, ← hL2, ← hL3] at HA
  rw [← hL1] at hc1
  rw [← hL2] at hc2
  rw [← hL3] at HO3
  obtain ⟨X1, hX1⟩ : ∃ L, L = eachD L1 wExcl := ⟨_, rfl⟩
  obtain ⟨X2, hX2⟩ : ∃ L, L = eachD L1 wShared := ⟨_, rfl⟩
  obtain ⟨X3, hX3⟩ : ∃ L, L = eachD L2 wWrite := ⟨_, rfl⟩
  rw [← hX1, ← hX2, ← hX3] at HA
  have hl1 : L1.length ≤ 5000 := by have := eachD_len [n] wScope; rw [hL1]; omega
  have hl2 : L2.length ≤ 5000 := by have := eachD_len [n] wType; rw [hL2]; omega
  have hl3 : L3.length ≤ 5000 := by have := eachD_len [n] wOwner; rw [hL3]; omega
  have hx1 : X1.length ≤ 5000 := by have := eachD_len L1 wExcl; rw [hX1]; omega
  have hx2 : X2.length ≤ 5000 := by have := eachD_len L1 wShared; rw [hX2]; omega
  have hx3 : X3.length ≤ 5000 := by have := eachD_len L2 wWrite; rw [hX3]; omega
  have HE1 := Lib.hid (fun v w' (hv : Tab 5 (NodeP anyB) w' v [n]) => (show Calls Tryz.prog 43 #[v, .string ⟨wScope.toArray⟩] w' (NodesV anyB L1 w') by rw [hL1]; exact aeach_any anyB v [n] wScope w' hv hcn))
  have HE2 := Lib.hid (fun v w' (hv : Tab 5 (NodeP anyB) w' v [n]) => (show Calls Tryz.prog 43 #[v, .string ⟨wType.toArray⟩] w' (NodesV anyB L2 w') by rw [hL2]; exact aeach_any anyB v [n] wType w' hv hcn))
  have HE3 := Lib.hid (fun v w' (hv : Tab 5 (NodeP anyB) w' v [n]) => (show Calls Tryz.prog 43 #[v, .string ⟨wOwner.toArray⟩] w' (NodesV anyB L3 w') by rw [hL3]; exact aeach_any anyB v [n] wOwner w' hv hcn))
  have HE4 := Lib.hid (fun v w' (hv : Tab 5 (NodeP anyB) w' v L1) => (show Calls Tryz.prog 43 #[v, .string ⟨wExcl.toArray⟩] w' (NodesV anyB X1 w') by rw [hX1]; exact aeach_any anyB v L1 wExcl w' hv (by omega)))
  have HE5 := Lib.hid (fun v w' (hv : Tab 5 (NodeP anyB) w' v L1) => (show Calls Tryz.prog 43 #[v, .string ⟨wShared.toArray⟩] w' (NodesV anyB X2 w') by rw [hX2]; exact aeach_any anyB v L1 wShared w' hv (by omega)))
  have HE6 := Lib.hid (fun v w' (hv : Tab 5 (NodeP anyB) w' v L2) => (show Calls Tryz.prog 43 #[v, .string ⟨wWrite.toArray⟩] w' (NodesV anyB X3 w') by rw [hX3]; exact aeach_any anyB v L2 wWrite w' hv (by omega)))
  clear HRd HA0 hx hgc hcn hsm hc1 hc2 ho3 hL1 hL2 hL3 hX1 hX2 hX3 hp
  go_enter Tryz.func35, Tryz.ntmps35
  go_wp2_with fail
  refine HRd2.out.mono fun e w1 h => ?_
  obtain ⟨hb1, kA, kc, rfl, ht1⟩ := NodesE.one h
  have HB1 := Lib.hid (HB0.out.trans (hb1.mono HB0.out.size))
  have HR1 := Lib.hid ((hb1.block _ (xlt HR0.out)).trans HR0.out)
  have HT1 := Lib.hid ht1.1
  clear hb1 h HRd2 HB0 HR0 ht1
  go_wp2_with fail
  refine (HE1.out _ _ HT1.out).mono ?_
  rintro e w2 ⟨hb2, kA1, kc1, rfl, hu1, -⟩
  have HB2 := Lib.hid (HB1.out.trans (hb2.mono HB1.out.size))
  have HR2 := Lib.hid ((hb2.block _ (xlt HR1.out)).trans HR1.out)
  have HT2 := Lib.hid (tab_under HT1.out hb2)
  have HU2 := Lib.hid hu1
  clear hb2 HB1 HR1 HT1 hu1 HE1
  go_wp2_with fail
  refine (HE2.out _ _ HT2.out).mono ?_
  rintro e w3 ⟨hb3, kA2, kc2, rfl, hu2, -⟩
  have HB3 := Lib.hid (HB2.out.trans (hb3.mono HB2.out.size))
  have HR3 := Lib.hid ((hb3.block _ (xlt HR2.out)).trans HR2.out)
  have HT3 := Lib.hid (tab_under HT2.out hb3)
  have HU3 := Lib.hid (tab_under HU2.out hb3)
  have HV3 := Lib.hid hu2
  clear hb3 HB2 HR2 HT2 hu2 HU2 HE2
  go_wp2_with fail
  refine (HE3.out _ _ HT3.out).mono ?_
  rintro e w4 ⟨hb4, kA3, kc3, rfl, hu3, -⟩
  have HB4 := Lib.hid (HB3.out.trans (hb4.mono HB3.out.size))
  have HR4 := Lib.hid ((hb4.block _ (xlt HR3.out)).trans HR3.out)
  have HU4 := Lib.hid (tab_under HU3.out hb4)
  have HV4 := Lib.hid (tab_under HV3.out hb4)
  have HW4 := Lib.hid hu3
  clear hb4 HB3 HR3 HT3 hu3 HU3 HV3 HE3
  by_cases hbad : L1.length ≠ 1 ∨ L2.length ≠ 1 ∨ 1 < L3.length
  · obtain rfl : ANS = .error 50 := by rw [HA.out]; unfold lockL; rw [if_pos hbad]
    have hb3 : ¬ ((L1.length : Int) = 1) ∨ ((L1.length : Int) = 1 ∧ ¬ ((L2.length : Int) = 1)) ∨ ((L1.length : Int) = 1 ∧ (L2.length : Int) = 1 ∧ (1 : Int) < L3.length) := by omega
    clear HA HO3 hbad HE4 HE5 HE6 HU4 HV4 HW4
    rcases hb3 with i1 | ⟨i1, i2⟩ | ⟨i1, i2, i3⟩
    all_goals
      go_wp2_with (refine wpList_store_row rfl 79 _ _ rfl w.heap.size _ rfl rfl 79 _ HR4.out (by kernel_rfl) rfl (by simp [Value.oneCell']) ?_)
      obtain ⟨hb5, hr5⟩ := row_end HB4.out HR4.out (Nat.le_refl _) #[.bool false, .string ⟨#[]⟩]
      refine bodyPost_ret (results_ct rfl _ _ _ _ _ _ _ rfl hr5 Tryz.underlying79 rfl (by kernel_rfl)) rfl ?_
      rw [HEE.out]
      exact ⟨hb5, rfl⟩
  have HA2 := Lib.hid (show ANS = if X1.length + X2.length ≠ 1 ∨ X3.length = 0 then .error 50 else lockE (decide (X1.length = 1)) L3 by rw [HA.out]; unfold lockL; rw [if_neg hbad])
  have i1 : (L1.length : Int) = 1 := by omega
  have i2 : (L2.length : Int) = 1 := by omega
  have i3 : ¬ (1 : Int) < L3.length := by omega
  have hl3' : L3.length ≤ 1 := by omega
  clear HA hbad
  go_wp2_with fail
  refine (HE4.out _ _ HU4.out).mono ?_
  rintro e w5 ⟨hb5, kA4, kc4, rfl, -, -⟩
  have HB5 := Lib.hid (HB4.out.trans (hb5.mono HB4.out.size))
  have HR5 := Lib.hid ((hb5.block _ (xlt HR4.out)).trans HR4.out)
  have HU5 := Lib.hid (tab_under HU4.out hb5)
  have HV5 := Lib.hid (tab_under HV4.out hb5)
  have HW5 := Lib.hid (tab_under HW4.out hb5)
  clear hb5 HB4 HR4 HU4 HV4 HW4 HE4
  go_wp2_with fail
  refine (HE5.out _ _ HU5.out).mono ?_
  rintro e w6 ⟨hb6, kA5, kc5, rfl, -, -⟩
  have HB6 := Lib.hid (HB5.out.trans (hb6.mono HB5.out.size))
  have HR6 := Lib.hid ((hb6.block _ (xlt HR5.out)).trans HR5.out)
  have HV6 := Lib.hid (tab_under HV5.out hb6)
  have HW6 := Lib.hid (tab_under HW5.out hb6)
  clear hb6 HB5 HR5 HU5 HV5 HW5 HE5
  by_cases hsum : X1.length + X2.length = 1
  rotate_left
  · have i4 : ¬ ((X1.length : Int) + X2.length = 1) := by omega
    obtain rfl : ANS = .error 50 := by rw [HA2.out, if_pos (.inl hsum)]
    clear HA2 HO3 hsum HE6 HV6 HW6
    go_wp2_with (refine wpList_store_row rfl 79 _ _ rfl w.heap.size _ rfl rfl 79 _ HR6.out (by kernel_rfl) rfl (by simp [Value.oneCell']) ?_)
    obtain ⟨hb5, hr5⟩ := row_end HB6.out HR6.out (Nat.le_refl _) #[.bool false, .string ⟨#[]⟩]
    refine bodyPost_ret (results_ct rfl _ _ _ _ _ _ _ rfl hr5 Tryz.underlying79 rfl (by kernel_rfl)) rfl ?_
    rw [HEE.out]
    exact ⟨hb5, rfl⟩
  have i4 : (X1.length : Int) + X2.length = 1 := by omega
  go_wp2_with fail
  refine (HE6.out _ _ HV6.out).mono ?_
  rintro e w7 ⟨hb7, kA6, kc6, rfl, -, -⟩
  have HB7 := Lib.hid (HB6.out.trans (hb7.mono HB6.out.size))
  have HR7 := Lib.hid ((hb7.block _ (xlt HR6.out)).trans HR6.out)
  have HW7 := Lib.hid (tab_under HW6.out hb7)
  clear hb7 HB6 HR6 HV6 HW6 HE6
  by_cases h3 : X3.length = 0
  · have i5 : (X3.length : Int) = 0 := by omega
    obtain rfl : ANS = .error 50 := by rw [HA2.out, if_pos (.inr h3)]
    clear HA2 HO3 hsum HW7 h3
    go_wp2_with (refine wpList_store_row rfl 79 _ _ rfl w.heap.size _ rfl rfl 79 _ HR7.out (by kernel_rfl) rfl (by simp [Value.oneCell']) ?_)
    obtain ⟨hb5, hr5⟩ := row_end HB7.out HR7.out (Nat.le_refl _) #[.bool false, .string ⟨#[]⟩]
    refine bodyPost_ret (results_ct rfl _ _ _ _ _ _ _ rfl hr5 Tryz.underlying79 rfl (by kernel_rfl)) rfl ?_
    rw [HEE.out]
    exact ⟨hb5, rfl⟩
  have i5 : ¬ (X3.length : Int) = 0 := by omega
  obtain ⟨bx, hbx⟩ : ∃ bx, ((X1.length : Int) == 1) = bx := ⟨_, rfl⟩
  have hbx2 : decide (X1.length = 1) = bx := by rw [← hbx, Bool.eq_iff_iff, decide_eq_true_iff, beq_iff_eq]; omega
  have HA3 := Lib.hid (show ANS = lockE bx L3 by rw [HA2.out, if_neg (by omega), hbx2])
  clear HA2 hbx2 hsum h3
  have hb8 : Below w7.heap.size w7 (w7.alloc (.cells #[.bool bx, .string ⟨#[]⟩] 79 (0, 0))) := (Below.refl _ _).alloc (Nat.le_refl _) _
  have HQ8 := Lib.hid (heap_alloc_new w7 (.cells #[.bool bx, .string ⟨#[]⟩] 79 (0, 0)))
  have HB8 := Lib.hid (HB7.out.trans (hb8.mono HB7.out.size))
  have HR8 := Lib.hid ((hb8.block _ (xlt HR7.out)).trans HR7.out)
  have HW8 := Lib.hid (tab_under HW7.out hb8)
  have hrq : w.heap.size < w7.heap.size := xlt HR7.out
  clear hb8 HB7 HR7 HW7
  rcases L3 with _ | ⟨o, _ | ⟨o2, r⟩⟩
  rotate_left
  rotate_left
  · simp only [List.length_cons] at hl3'; omega
  · obtain rfl : ANS = .ok ⟨bx, []⟩ := HA3.out
    clear HA3 HO3 HW8
    go_wp2_with (refine wpList_store_row rfl 79 _ _ rfl w.heap.size _ rfl rfl 79 _ HR8.out (by kernel_rfl) rfl (by simp [Value.oneCell']) ?_)
    obtain ⟨hb5, hr5⟩ := row_end HB8.out HR8.out (Nat.le_refl _) #[.bool bx, .string ⟨#[]⟩]
    refine bodyPost_ret (results_ct rfl _ _ _ _ _ _ _ rfl hr5 Tryz.underlying79 rfl (by kernel_rfl)) rfl ?_
    rw [HEE.out]
    exact ⟨hb5, rfl⟩
  have HA4 := Lib.hid (show ANS = lockW bx (writeX o) from HA3.out)
  have hW8 : Tab 5 (NodeP anyB) (w7.alloc (.cells #[.bool bx, .string ⟨#[]⟩] 79 (0, 0))) (.slice kA3 1 kc3) [o] := HW8.out
  obtain ⟨-, hc1, hc2, hk⟩ := kid_atT hW8
  obtain ⟨b1, o1, aA, ac, kA7, kc7, rfl, hbl1, d0, d1, d2, d3, d4, fa, fk⟩ := hk 0 o rfl
  rw [Nat.zero_mul, Nat.add_zero] at d0 d1 d2 d3 d4
  unfold maxLen at hc2
  obtain ⟨so, fo⟩ := HO3.out o (by simp)
  have HWr := Lib.hid (show Calls Tryz.prog 14 #[.agg #[.string ⟨o.text.toArray⟩, .string ⟨o.space.toArray⟩, .string ⟨o.name.toArray⟩, .slice aA o.attrs.length ac, .slice kA7 o.kids.length kc7]] _ (WriteP (writeX o) _) from xwrite_any o (.slice aA o.attrs.length ac) (.slice kA7 o.kids.length kc7) _ fa fk so (HE.out.below HB8.out) fo)
  clear HA3 HO3 HW8 hW8 hk fa fk so fo
  obtain ⟨X, hX⟩ : ∃ X, X = writeX o := ⟨_, rfl⟩
  rw [← hX] at HWr HA4
  have HX := Lib.hid hX
  clear hX
  go_wp2_with fail
  generalize w7.alloc (.cells #[.bool bx, .string ⟨#[]⟩] 79 (0, 0)) = w8 at *
  obtain ⟨q, hq⟩ : ∃ q, q = w7.heap.size := ⟨_, rfl⟩
  rw [← hq] at HQ8 hrq ⊢
  clear hq d0 d1 d2 d3 d4
  rcases X with k | s
  · have hk := write_err HX.out.symm
    have HWr2 := Lib.hid (show Calls Tryz.prog 14 #[.agg #[.string ⟨o.text.toArray⟩, .string ⟨o.space.toArray⟩, .string ⟨o.name.toArray⟩, .slice aA o.attrs.length ac, .slice kA7 o.kids.length kc7]] w8 (fun e w' => Below w8.heap.size w8 w' ∧ e = .returned (.tuple #[.string ⟨#[]⟩, .int .i64 k])) from HWr.out)
    obtain rfl : ANS = .error 5 := HA4.out
    clear HWr HA4 HX
    refine HWr2.out.mono ?_
    rintro e w9 ⟨hb9, rfl⟩
    have HB9 := Lib.hid (HB8.out.trans (hb9.mono HB8.out.size))
    have HR9 := Lib.hid ((hb9.block _ (xlt HR8.out)).trans HR8.out)
    clear hb9 HB8 HR8 HQ8 HWr2
    rcases hk with rfl | rfl
    all_goals
      go_wp2_with (refine wpList_store_row rfl 79 _ _ rfl w.heap.size _ rfl rfl 79 _ HR9.out (by kernel_rfl) rfl (by simp [Value.oneCell']) ?_)
      obtain ⟨hb5, hr5⟩ := row_end HB9.out HR9.out (Nat.le_refl _) #[.bool false, .string ⟨#[]⟩]
      refine bodyPost_ret (results_ct rfl _ _ _ _ _ _ _ rfl hr5 Tryz.underlying79 rfl (by kernel_rfl)) rfl ?_
      rw [HEE.out]
      exact ⟨hb5, rfl⟩
  · have HWr2 := Lib.hid (show Calls Tryz.prog 14 #[.agg #[.string ⟨o.text.toArray⟩, .string ⟨o.space.toArray⟩, .string ⟨o.name.toArray⟩, .slice aA o.attrs.length ac, .slice kA7 o.kids.length kc7]] w8 (fun e w' => Below w8.heap.size w8 w' ∧ e = .returned (.tuple #[.string ⟨s.toArray⟩, .int .i64 0])) from HWr.out)
    have HA5 := Lib.hid (show ANS = if 512 < s.length then .error 5 else .ok ⟨bx, s⟩ from HA4.out)
    clear HWr HA4 HX
    refine HWr2.out.mono ?_
    rintro e w9 ⟨hb9, rfl⟩
    have HB9 := Lib.hid ((HB8.out.trans (hb9.mono HB8.out.size)).setCell (p := ⟨q, 1, none⟩) (by show w.heap.size ≤ q; omega) (.string ⟨s.toArray⟩))
    have hq9 := (hb9.block _ (xlt HQ8.out)).trans HQ8.out
    have HR9 := Lib.hid ((heap_setCell_other w9 ⟨q, 1, none⟩ w.heap.size (.string ⟨s.toArray⟩) (by show w.heap.size ≠ q; omega)).trans ((hb9.block _ (xlt HR8.out)).trans HR8.out))
    have x1 := xat hq9 1
    have f1 := xfree hq9 1
    have hq10 := heap_setCell_same w9 q 1 _ _ (.string ⟨s.toArray⟩) hq9
    have y0 := xat hq10 0
    have y1 := xat hq10 1
    simp only [List.getElem?_toArray, List.getElem?_cons_zero, List.getElem?_cons_succ] at x1 
    have y0' : (w9.setCell ⟨q, 1, none⟩ (.string ⟨s.toArray⟩)).cell? ⟨q, 0, none⟩ = some (.bool bx) := y0
    have y1' : (w9.setCell ⟨q, 1, none⟩ (.string ⟨s.toArray⟩)).cell? ⟨q, 1, none⟩ = some (.string ⟨s.toArray⟩) := y1
    clear hb9 hq9 hq10 HB8 HR8 HQ8 HWr2 y0 y1
    by_cases h6 : 512 < s.length
    · have i6 : (512 : Int) < s.length := by omega
      obtain rfl : ANS = .error 5 := by rw [HA5.out, if_pos h6]
      go_wp2_with (refine wpList_store_row rfl 79 _ _ rfl w.heap.size _ rfl rfl 79 _ HR9.out (by kernel_rfl) rfl (by simp [Value.oneCell']) ?_)
      obtain ⟨hb5, hr5⟩ := row_end HB9.out HR9.out (Nat.le_refl _) #[.bool false, .string ⟨#[]⟩]
      refine bodyPost_ret (results_ct rfl _ _ _ _ _ _ _ rfl hr5 Tryz.underlying79 rfl (by kernel_rfl)) rfl ?_
      rw [HEE.out]
      exact ⟨hb5, rfl⟩
    · have i6 : ¬ (512 : Int) < s.length := by omega
      obtain rfl : ANS = .ok ⟨bx, s⟩ := by rw [HA5.out, if_neg h6]
      go_wp2_with (refine wpList_store_row rfl 79 _ _ rfl w.heap.size _ rfl rfl 79 _ HR9.out (by kernel_rfl) rfl (by simp [Value.oneCell']) ?_)
      obtain ⟨hb5, hr5⟩ := row_end HB9.out HR9.out (Nat.le_refl _) #[.bool bx, .string ⟨s.toArray⟩]
      refine bodyPost_ret (results_ct rfl _ _ _ _ _ _ _ rfl hr5 Tryz.underlying79 rfl (by kernel_rfl)) rfl ?_
      rw [HEE.out]
      exact ⟨hb5, rfl⟩
end Go.Proofs.YtopogglcnnjdlaaGreatDoor
/-! AskX -/
namespace Go.Proofs.YtopogglcnnjdlaaGreatDoor
set_option linter.unusedVariables false
set_option linter.unusedSimpArgs false
open Go.RowKit

theorem results_c1 {P : Program} {fn : Func} {p : Tmp} {ty : TypeId} (h : fn.results = #[.cell p ty]) (tmps : Array Value) (w : World) (g : Nat) (t : TypeId) (cs : Array Value) (d : TypeDesc)
    (hp : tmps.getD p undef = .pointer (some ⟨g, 0, none⟩)) (hg : w.heap[g]? = some (.cells cs t (0, 0)))
    (hu : P.underlying ty = some d) (hd : (match d with | .struct _ | .array _ _ => true | _ => false) = true) (hi : (P.info? ty).map (·.size) = some cs.size) :
    (results fn tmps).run P w = .ok (.agg cs) w := results_cell_row h tmps w g t cs (0, 0) d hp hg hu hd hi
set_option maxHeartbeats 2000000 in
set_option maxRecDepth 100000 in
set_option linter.unusedSimpArgs false in
theorem adav_any (nm : List UInt8) (kA : Option Addr) (m kc : Nat) (w : World) : Calls Tryz.prog 13 #[.string ⟨nm.toArray⟩, .slice kA m kc] w (Ret (.agg #[.string ⟨#[]⟩, .string ⟨#[68, 65, 86, 58]⟩, .string ⟨nm.toArray⟩, .slice none 0 0, .slice kA m kc]) w) := by
  have hb0 : Below w.heap.size w (w.alloc (.cells #[.string ⟨#[]⟩, .string ⟨#[]⟩, .string ⟨#[]⟩, .slice none 0 0, .slice none 0 0] 26 (0, 0))) := (Below.refl _ _).alloc (Nat.le_refl _) _
  have HR0 := Lib.hid (heap_alloc_new w (.cells #[.string ⟨#[]⟩, .string ⟨#[]⟩, .string ⟨#[]⟩, .slice none 0 0, .slice none 0 0] 26 (0, 0)))
  have HB0 := Lib.hid hb0
  obtain ⟨E, hEE⟩ : ∃ E, E = Ret (.agg #[.string ⟨#[]⟩, .string ⟨#[68, 65, 86, 58]⟩, .string ⟨nm.toArray⟩, .slice none 0 0, .slice kA m kc]) w := ⟨_, rfl⟩
  rw [← hEE]
  have HEE := Lib.hid hEE
  clear hb0 hEE
  go_enter Tryz.func13, Tryz.ntmps13
  go_wp2_with (refine wpList_store_row rfl 26 _ _ rfl w.heap.size _ rfl rfl 26 _ HR0.out (by kernel_rfl) rfl (by simp [Value.oneCell']) ?_)
  obtain ⟨hb5, hr5⟩ := row_end HB0.out HR0.out (Nat.le_refl _) #[.string ⟨#[]⟩, .string ⟨#[68, 65, 86, 58]⟩, .string ⟨nm.toArray⟩, .slice none 0 0, .slice kA m kc]
  refine bodyPost_ret (results_c1 rfl _ _ _ _ _ _ rfl hr5 Tryz.underlying26 rfl (by kernel_rfl)) rfl ?_
  rw [HEE.out]
  exact ⟨rfl, hb5⟩
/-- a D-element's cells. -/
def davCs (nm : List UInt8) (kA : Option Addr) (m kc : Nat) : Array Value := #[.string ⟨#[]⟩, .string ⟨#[68, 65, 86, 58]⟩, .string ⟨nm.toArray⟩, .slice none 0 0, .slice kA m kc]
set_option maxHeartbeats 2000000 in
set_option maxRecDepth 100000 in
set_option linter.unusedSimpArgs false in
theorem adav_ex (nm : List UInt8) (kA : Option Addr) (m kc : Nat) (w : World) : Calls Tryz.prog 13 #[.string ⟨nm.toArray⟩, .slice kA m kc] w (fun e w' => e = .returned (.agg #[.string ⟨#[]⟩, .string ⟨#[68, 65, 86, 58]⟩, .string ⟨nm.toArray⟩, .slice none 0 0, .slice kA m kc]) ∧ w' = w.alloc (.cells #[.string ⟨#[]⟩, .string ⟨#[68, 65, 86, 58]⟩, .string ⟨nm.toArray⟩, .slice none 0 0, .slice kA m kc] 26 (0, 0))) := by
  have HR0 := Lib.hid (heap_alloc_new w (.cells #[.string ⟨#[]⟩, .string ⟨#[68, 65, 86, 58]⟩, .string ⟨nm.toArray⟩, .slice none 0 0, .slice kA m kc] 26 (0, 0)))
  go_enter Tryz.func13, Tryz.ntmps13
  go_wp2
  refine bodyPost_ret (results_c1 rfl _ _ _ _ _ _ rfl HR0.out Tryz.underlying26 rfl (by kernel_rfl)) rfl ?_
  exact ⟨rfl, rfl⟩
/-- what Write answers, in one form. -/
def WrV (x : Except Int (List UInt8)) (w : World) (e : Ending) (w' : World) : Prop := Below w.heap.size w w' ∧ e = .returned (.tuple #[.string ⟨(okOr [] x).toArray⟩, .int .i64 (errX x)])
theorem awrite_dav (nm : List UInt8) (ks : List NodeT) (kA : Option Addr) (m kc : Nat) (w : World) (hN : NodesP anyB w (.slice kA m kc) ks) (hT : SmallN 2000000 (davN nm ks) ∧ (formN [] (davN nm ks)).length ≤ 90000000000000) (hE : XEnv w) :
    Calls Tryz.prog 14 #[.agg #[.string ⟨#[]⟩, .string ⟨#[68, 65, 86, 58]⟩, .string ⟨nm.toArray⟩, .slice none 0 0, .slice kA m kc]] w (WrV (writeX (davN nm ks)) w) := by
  have h := xwrite_any (davN nm ks) (.slice none 0 0) (.slice kA m kc) w (TabP.nil _ _ _ _) hN hT.1 hE hT.2
  refine Calls.mono (show Calls Tryz.prog 14 #[.agg #[.string ⟨#[]⟩, .string ⟨#[68, 65, 86, 58]⟩, .string ⟨nm.toArray⟩, .slice none 0 0, .slice kA m kc]] w (WriteP (writeX (davN nm ks)) w) from h) ?_
  rintro e w' ⟨hb, hx⟩
  cases hw : writeX (davN nm ks) with
  | error k => rw [hw] at hx; exact ⟨hb, hx⟩
  | ok s => rw [hw] at hx; exact ⟨hb, hx⟩
theorem own_dav (o : NodeT) : ownN o = davN wOwner (ownN o).kids := by unfold ownN; split <;> rfl
def ff1 : List UInt8 := [60, 112, 114, 111, 112, 102, 105, 110, 100, 32, 120, 109, 108, 110, 115, 61, 39, 68, 65, 86, 58, 39, 62, 60, 112, 114, 111, 112, 62, 60, 103, 101, 116, 101, 116, 97, 103, 47, 62, 60, 97, 32, 120, 109, 108, 110, 115, 61, 39, 120, 39, 47, 62, 60, 103, 101, 116, 101, 116, 97, 103, 47, 62, 60, 47, 112, 114, 111, 112, 62, 60, 47, 112, 114, 111, 112, 102, 105, 110, 100, 62]
def ff2 : List UInt8 := [60, 108, 111, 99, 107, 105, 110, 102, 111, 32, 120, 109, 108, 110, 115, 61, 39, 68, 65, 86, 58, 39, 62, 60, 108, 111, 99, 107, 115, 99, 111, 112, 101, 62, 60, 101, 120, 99, 108, 117, 115, 105, 118, 101, 47, 62, 60, 47, 108, 111, 99, 107, 115, 99, 111, 112, 101, 62, 60, 108, 111, 99, 107, 116, 121, 112, 101, 62, 60, 119, 114, 105, 116, 101, 47, 62, 60, 47, 108, 111, 99, 107, 116, 121, 112, 101, 62, 60, 47, 108, 111, 99, 107, 105, 110, 102, 111, 62]
def wEtag : List UInt8 := [103, 101, 116, 101, 116, 97, 103]
theorem ff1_eq : askFind ff1 = .ok ⟨2, [⟨wDav, wEtag⟩, ⟨[120], [97]⟩]⟩ := by kernel_rfl
theorem ff2_eq : askLock ff2 = .ok ⟨true, []⟩ := by kernel_rfl
def ffN : NodeT := davN wLock [davN wScope [davN wExcl []], davN wType [davN wWrite []]]
theorem ff2_parse : parseX ff2 = .ok ffN := by kernel_rfl
theorem ffN_bulk : bulkT ffN ≤ 2000000 := by decide +kernel
theorem ff0_eq : askChanges [] = .error 30 := by kernel_rfl
set_option maxHeartbeats 8000000 in
set_option maxRecDepth 100000 in
set_option linter.unusedSimpArgs false in
theorem afixed_any (w : World) (hE : XEnv w) : Calls Tryz.prog 12 #[] w (Ret (.bool true) w) := by
  have HE := Lib.hid hE
  have hf := afind_any ff1 w (by decide) hE
  rw [ff1_eq] at hf
  have HF := Lib.hid (show Calls Tryz.prog 34 #[.string ⟨ff1.toArray⟩] w (fun e w' => Below w.heap.size w w' ∧ ∃ nA nc, e = .returned (.tuple #[.agg #[.int .i64 2, .slice nA 2 nc], .int .i64 0]) ∧ Tab 2 (PropR anyB) w' (.slice nA 2 nc) [⟨wDav, wEtag⟩, ⟨[120], [97]⟩]) from hf)
  have HL := Lib.hid (fun w' (hb : Below w.heap.size w w') => (show Calls Tryz.prog 35 #[.string ⟨ff2.toArray⟩] w' (fun e w'' => Below w'.heap.size w' w'' ∧ e = .returned (.tuple #[.agg #[.bool true, .string ⟨#[]⟩], .int .i64 0])) from by
    have h := alock_any ff2 w' (by decide) (fun n hn => by rw [ff2_parse] at hn; injection hn with hn; subst hn; exact ⟨small_of ffN_bulk, Nat.le_trans ffN_bulk (by decide)⟩) (hE.below hb)
    rw [ff2_eq] at h
    exact h))
  have HC := Lib.hid (fun w' (hb : Below w.heap.size w w') => (show Calls Tryz.prog 15 #[.string ⟨#[]⟩] w' (fun e w'' => Below w'.heap.size w' w'' ∧ ∃ cA cc, e = .returned (.tuple #[.slice cA 0 cc, .int .i64 30])) from by
    have h := achanges_any [] w' (by decide) (hE.below hb)
    rw [ff0_eq] at h
    exact h.mono fun e w'' ⟨h1, cA, cc, h2, _⟩ => ⟨h1, cA, cc, h2⟩))
  obtain ⟨E, hEE⟩ : ∃ E, E = Ret (.bool true) w := ⟨_, rfl⟩
  rw [← hEE]
  have HEE := Lib.hid hEE
  clear hE hEE hf
  go_enter Tryz.func12, Tryz.ntmps12
  go_wp2_with fail
  refine HF.out.mono ?_
  rintro e w1 ⟨hb1, nA, nc, rfl, ht⟩
  obtain ⟨-, hn1, hn2, hk⟩ := props_at ht
  obtain ⟨b, o, rfl, hbl, e0, e1⟩ := hk 1 _ rfl
  unfold maxLen at hn2
  rw [Nat.one_mul] at e0 e1
  have hb2 := (Below.refl w1.heap.size w1).alloc (Nat.le_refl _) (.cells #[.int .i64 2, .slice (some ⟨b, o, none⟩) 2 nc] 65 (0, 0))
  have HQ2 := Lib.hid (heap_alloc_new w1 (.cells #[.int .i64 2, .slice (some ⟨b, o, none⟩) 2 nc] 65 (0, 0)))
  have HB2 := Lib.hid (hb1.trans (hb2.mono hb1.size))
  have HD0 := Lib.hid ((hb2.cell (p := ⟨b, o + 2, none⟩) hbl).trans e0)
  have HD1 := Lib.hid ((hb2.cell (p := ⟨b, o + 2 + 1, none⟩) hbl).trans e1)
  clear hb1 hb2 ht hk e0 e1 HF
  go_wp2_with fail
  generalize w1.alloc (.cells #[.int .i64 2, .slice (some ⟨b, o, none⟩) 2 nc] 65 (0, 0)) = w2 at *
  obtain ⟨q, hq⟩ : ∃ q, q = w1.heap.size := ⟨_, rfl⟩
  rw [← hq] at HQ2 ⊢
  clear hq hbl
  refine (HL.out w2 HB2.out).mono ?_
  rintro e w3 ⟨hb3, rfl⟩
  have hb4 := (Below.refl w3.heap.size w3).alloc (Nat.le_refl _) (.cells #[.bool true, .string ⟨#[]⟩] 79 (0, 0))
  have HP4 := Lib.hid (heap_alloc_new w3 (.cells #[.bool true, .string ⟨#[]⟩] 79 (0, 0)))
  have hb24 := hb3.trans (hb4.mono hb3.size)
  have HB4 := Lib.hid (HB2.out.trans (hb24.mono HB2.out.size))
  have HQ4 := Lib.hid ((hb24.block _ (xlt HQ2.out)).trans HQ2.out)
  have HD0 := Lib.hid ((hb24.cell (p := ⟨b, o + 2, none⟩) (cell_lt HD0.out)).trans HD0.out)
  have HD1 := Lib.hid ((hb24.cell (p := ⟨b, o + 2 + 1, none⟩) (cell_lt HD1.out)).trans HD1.out)
  clear hb3 hb4 hb24 HL HQ2
  go_wp2_with fail
  generalize w3.alloc (.cells #[.bool true, .string ⟨#[]⟩] 79 (0, 0)) = w4 at *
  obtain ⟨q4, hq4⟩ : ∃ q, q = w3.heap.size := ⟨_, rfl⟩
  rw [← hq4] at HP4 ⊢
  clear hq4
  refine (HC.out w4 HB4.out).mono ?_
  rintro e w5 ⟨hb5, cA, cc, rfl⟩
  have HB5 := Lib.hid (HB4.out.trans (hb5.mono HB4.out.size))
  have hq5 := (hb5.block _ (xlt HQ4.out)).trans HQ4.out
  have hp5 := (hb5.block _ (xlt HP4.out)).trans HP4.out
  have d0 : w5.cell? ⟨b, o + 2, none⟩ = some (.string ⟨#[120]⟩) := (hb5.cell (p := ⟨b, o + 2, none⟩) (cell_lt HD0.out)).trans HD0.out
  have d1 : w5.cell? ⟨b, o + 2 + 1, none⟩ = some (.string ⟨#[97]⟩) := (hb5.cell (p := ⟨b, o + 2 + 1, none⟩) (cell_lt HD1.out)).trans HD1.out
  have d2 : w5.cell? ⟨b, o + 3, none⟩ = some (.string ⟨#[97]⟩) := d1
  have x0 := xat hq5 0
  have x1 := xat hq5 1
  have y0 := xat hp5 0
  simp only [List.getElem?_toArray, List.getElem?_cons_zero, List.getElem?_cons_succ] at x0 x1 y0
  have hsm : ∀ w : World, (binOp .eql 83 (.agg #[.string ⟨#[120]⟩, .string ⟨#[97]⟩]) (.agg #[.string ⟨#[120]⟩, .string ⟨#[97]⟩])).run Tryz.prog w = .ok (.bool true) w := fun w => by have := prop_eql [120] [97] [120] [97] w; simpa using this
  clear hb5 hq5 hp5 HC HQ4 HP4 HD0 HD1
  go_wp2
  rw [HEE.out]
  exact ⟨rfl, HB5.out⟩
end Go.Proofs.YtopogglcnnjdlaaGreatDoor
/-! AskRow -/
namespace Go.Proofs.YtopogglcnnjdlaaGreatDoor
set_option linter.unusedVariables false
set_option linter.unusedSimpArgs false
open Go.ChangeShapes Go.WideShapes Go.ChangeAt Go.RowKit Go.Deep

theorem read_node : Tryz.prog.readableRec 26 = true := by kernel_rfl
theorem row_node : 26 < Tryz.prog.types.size := of_decide_eq_true (by kernel_rfl)
theorem read_chgs : Tryz.prog.readableRec 22 = true := by kernel_rfl
theorem row_chgs : 22 < Tryz.prog.types.size := of_decide_eq_true (by kernel_rfl)
theorem read_props : Tryz.prog.readableRec 63 = true := by kernel_rfl
theorem row_props : 63 < Tryz.prog.types.size := of_decide_eq_true (by kernel_rfl)
section
variable {H : Type} {enc : TypeId × Value → H}
set_option maxRecDepth 100000 in
theorem node_of_trod {W : World} {v : Value} {d : DataW H} {ps : List MemPlace} (hv : Value.okWide Tryz.prog W .any 0 26 v) (h : DataW.Trod enc Tryz.prog W 0 (fun _ => true) true 26 v d ps) :
    ∃ n aA ac kA kc, v = .agg #[.string ⟨n.text.toArray⟩, .string ⟨n.space.toArray⟩, .string ⟨n.name.toArray⟩, .slice aA n.attrs.length ac, .slice kA n.kids.length kc] ∧ TreeV W n aA ac kA kc ∧ bulkT n + 1 ≤ Rows.uptoBulk d := by
  obtain ⟨cs, rfl, hsz⟩ := okWide_struct Tryz.underlying26 hv
  obtain ⟨l⟩ := cs
  obtain ⟨fuel, hf⟩ := h
  obtain ⟨n, hn, hb⟩ := node_of_cells (cs := l) hf
  obtain ⟨av, kv, rfl, ha, hk⟩ := hn.parts
  obtain ⟨aA, ac, rfl⟩ := tab_shape ha.1
  obtain ⟨kA, kc, rfl⟩ := tab_shape hk.1
  exact ⟨n, aA, ac, kA, kc, rfl, ⟨ha, hk⟩, hb⟩
def chgM (c : ChgT) : Nat := bulkT c.value + 2
set_option maxRecDepth 100000 in
theorem chgs_of_trod {W : World} {v : Value} {d : DataW H} {ps : List MemPlace} (hv : Value.okWide Tryz.prog W .any 0 22 v) (h : DataW.Trod enc Tryz.prog W 0 (fun _ => true) true 22 v d ps) :
    ∃ l, Tab 6 (ChgR anyB) W v l ∧ (l.map chgM).sum + l.length ≤ Rows.uptoBulk d := by
  obtain ⟨fuel, hf⟩ := trod_one Tryz.underlying22 hv h
  exact tab_of_trod_el (W := W) (α := ChgT) (ChgR anyB) chgM Tryz.underlying22 (n := 6) (by kernel_rfl) (by decide) (fun cs y k hc hlt htr => by
    obtain ⟨xs, k', _, hx, hcl, hlen, hg⟩ := DataW.trod_struct Tryz.underlying30 htr
    obtain ⟨c0, c1, c2, c3, c4, c5, rfl⟩ := six' hc
    obtain ⟨z0, z1, rfl⟩ := two' (l := xs) hlen
    have s1 : Tryz.prog.cellsOf 4 = 1 := by kernel_rfl
    have s2 : Tryz.prog.cellsOf 26 = 5 := by kernel_rfl
    have g0 : DataW.trod enc Tryz.prog W 0 (fun _ => true) true k' 4 (([c0, c1, c2, c3, c4, c5].drop 0).take (Tryz.prog.cellsOf 4)) = [z0, z1][0]? := hg 0 _ rfl
    have g1 : DataW.trod enc Tryz.prog W 0 (fun _ => true) true k' 26 (([c0, c1, c2, c3, c4, c5].drop 1).take (Tryz.prog.cellsOf 26)) = [z0, z1][1]? := hg 1 _ rfl
    rw [s1] at g0
    rw [s2] at g1
    obtain ⟨b, hb, hz⟩ := DataW.trod_bool Tryz.underlying4 (x := z0) g0
    obtain ⟨n, hn, hm⟩ := node_of_cells (y := z1) g1
    injection hb with hb
    subst hb
    refine ⟨⟨b, n⟩, ⟨_, rfl, hn⟩, ?_⟩
    rw [hx]
    have hz0 : Rows.uptoBulk z0.1 = 1 := by rw [hz]; rfl
    simp only [Rows.uptoBulk, Rows.uptoBulkAll, List.map_cons, List.map_nil, hz0, chgM]
    omega) hf
def propM (p : PropT) : Nat := p.space.length + p.name.length + 2
set_option maxRecDepth 100000 in
theorem props_of_trod {W : World} {v : Value} {d : DataW H} {ps : List MemPlace} (hv : Value.okWide Tryz.prog W .any 0 63 v) (h : DataW.Trod enc Tryz.prog W 0 (fun _ => true) true 63 v d ps) :
    ∃ l, Tab 2 (PropR anyB) W v l ∧ (l.map propM).sum + l.length ≤ Rows.uptoBulk d := by
  obtain ⟨fuel, hf⟩ := trod_one Tryz.underlying63 hv h
  exact tab_of_trod (fs := _) (α := PropT) (PropR anyB) propM Tryz.underlying63 Tryz.underlying83 (by kernel_rfl) (by kernel_rfl) (by decide) (fun cs ys k hc hy hf => by
    obtain ⟨c0, c1, rfl⟩ := two' hc
    obtain ⟨y0, y1, rfl⟩ := two' hy
    obtain ⟨v0, z0, h0, hz0, t0⟩ := hf 0 _ rfl
    obtain ⟨v1, z1, h1, hz1, t1⟩ := hf 1 _ rfl
    injection h0 with h0; injection h1 with h1
    injection hz0 with hz0; injection hz1 with hz1
    subst h0 h1 hz0 hz1
    obtain ⟨s0, rfl, hb0⟩ := str_open t0
    obtain ⟨s1, rfl, hb1⟩ := str_open t1
    refine ⟨⟨s0, s1⟩, rfl, ?_⟩
    simp only [Rows.uptoBulk, Rows.uptoBulkAll, List.map_cons, List.map_nil, hb0, hb1, propM]
    omega) hf
end
end Go.Proofs.YtopogglcnnjdlaaGreatDoor
