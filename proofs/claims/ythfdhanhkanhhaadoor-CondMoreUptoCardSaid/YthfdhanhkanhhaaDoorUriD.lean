/-
  The walks of package uri's tests of a segment and of a path, and of its reference's. Condition: a string's length is an int's; the package variables hold what the row lists.
-/
import Derived.Test.YthfdhanhkanhhaaDoorUriC
import Derived.Test.YthfdhanhkanhhaaDoorStrAny
namespace Go.Proofs.YthfdhanhkanhhaaDoor
open Go.RowKit

set_option maxHeartbeats 400000 in
set_option maxRecDepth 100000 in
set_option linter.unusedSimpArgs false in
theorem bare_any (c : Int) (w : World) (h0 : 0 ≤ c) (h1 : c < 256) :
    Calls Tryd.prog 35 #[.int .u8 c] w (Same0 (.bool (bareB c)) w) := by
  by_cases hlo : 97 ≤ c ∧ c ≤ 122 ∨ 65 ≤ c ∧ c ≤ 90 ∨ 48 ≤ c ∧ c ≤ 57
  · have HA := Lib.hid (bare_yes (c := c) (by omega))
    rcases hlo with ⟨k1, k2⟩ | ⟨k1, k2⟩ | ⟨k1, k2⟩
    all_goals
      go_enter Tryd.func35, Tryd.ntmps35
      go_wp2
      go_ret
      exact ⟨retb HA.out.symm, rfl⟩
  · have ht := bare_tail h0 h1 hlo
    obtain ⟨ANS, hA⟩ : ∃ A, bareB c = A := ⟨_, rfl⟩
    rw [hA] at ht ⊢
    clear hA
    go_enter Tryd.func35, Tryd.ntmps35
    go_wp2_with (go_at_call 50; refine (Tryd.strings_IndexByte _ _ _).mono ?_; rintro e w' ⟨rfl, hw⟩; obtain rfl := hw.symm)
    all_goals first
      | (exfalso; omega)
      | (go_ret; exact ⟨rfl, rfl⟩)
      | (go_ret; exact ⟨retb (by clear ht; cases ANS <;> simp <;> omega), rfl⟩)

set_option maxHeartbeats 400000 in
set_option maxRecDepth 100000 in
set_option linter.unusedSimpArgs false in
theorem visible_any (l : List UInt8) (w : World) (hs : l.length ≤ maxLen) :
    Calls Tryd.prog 30 #[.string ⟨l.toArray⟩] w (Same0 (.bool (plainS l)) w) := by
  have HS := Lib.hid hs
  unfold maxLen at hs
  have HP := Lib.hid (plain_split l)
  obtain ⟨ANS, hA⟩ : ∃ A, visS l = A := ⟨_, rfl⟩
  rw [hA] at HP
  go_enter Tryd.func30, Tryd.ntmps30
  go_wp2
  go_loop [3] (fun i => ∃ k : Nat, k ≤ l.length ∧ i = .int .i64 k ∧ Hid (visS (l.drop k) = ANS)) (fun i => l.length - (intOf i).toNat)
  case atStart => exact ⟨0, Nat.zero_le _, rfl, hA⟩
  case round =>
    obtain ⟨k, hk, rfl, H⟩ := hrel
    clear hA
    rcases hd : l.drop k with _ | ⟨x, r⟩
    · obtain rfl : k = l.length := by have := drop_nil hd; omega
      rw [hd] at H; clear hd
      obtain rfl : true = ANS := H.out
      have HP' := HP.out
      generalize h63 : hasB l 63 = b63 at HP'
      generalize h35 : hasB l 35 = b35 at HP'
      have HP := Lib.hid HP'
      clear HP'
      cases b63 <;> cases b35
      all_goals
        go_wp2_with (go_at_call 56; refine (has_any _ _ _ HS.out (by omega) (by omega)).mono ?_; rintro e w' ⟨rfl, rfl⟩)
        go_ret
        exact ⟨retb (by rw [HP.out]; rfl), rfl⟩
    · obtain ⟨hlt, hb, hr⟩ := drop_cons hd
      rw [hd, visS_cons] at H
      have Hr := Lib.hid hr
      clear hd hr
      have hx := x.toNat_lt
      go_wp2
      all_goals first
        | (go_round
           case rel => exact ⟨k + 1, by omega, by go_num, by rw [Hr.out, ← H.out, vis_yes (by omega)]; exact (Bool.true_and _).symm⟩
           case measure => simp [intOf]; omega)
        | (go_ret; exact ⟨retb (by rw [HP.out, ← H.out, vis_no (by omega)]; rfl), rfl⟩)

set_option maxHeartbeats 400000 in
set_option maxRecDepth 100000 in
set_option linter.unusedSimpArgs false in
theorem same_any (va vb : Value) (a b : List (List UInt8)) (w : World) (ha : Strs w va a) (hb : Strs w vb b) :
    Calls Tryd.prog 14 #[va, vb] w (Ret (.bool (decide (a = b))) w) := by
  have Ha := Lib.hid ha
  have Hb := Lib.hid hb
  obtain ⟨pa, ca, rfl, ha1, ha2, hac⟩ := ha
  obtain ⟨pb, cb, rfl, hb1, hb2, hbc⟩ := hb
  unfold maxLen at ha2 hb2
  obtain ⟨ANS, hA⟩ : ∃ A, decide (a = b) = A := ⟨_, rfl⟩
  rw [hA]
  have HA := Lib.hid hA
  clear hac hbc hA
  by_cases hlen : a.length = b.length
  · have hlz : (!((a.length : Int) == (b.length : Int))) = false := by simp [hlen]
    have hbl : (b.length : Int) = (a.length : Int) := by omega
    have Hl := Lib.hid hlen
    clear hlen
    go_enter Tryd.func14, Tryd.ntmps14
    go_wp2
    go_loopw [5] (fun i wr => ∃ k : Nat, k ≤ a.length ∧ i = .int .i64 k ∧ Hid (decide (a.drop k = b.drop k) = ANS) ∧ Below w.heap.size w wr) (fun i _ => a.length - (intOf i).toNat)
    case atStart => exact ⟨0, Nat.zero_le _, rfl, HA.out, Below.refl _ _⟩
    case round =>
      obtain ⟨k, hk, rfl, H, hbw⟩ := hrel
      obtain ⟨pa', ca', hva, _, _, hac⟩ := Ha.out.below hbw (Nat.le_refl _)
      obtain ⟨pb', cb', hvb, _, _, hbc⟩ := Hb.out.below hbw (Nat.le_refl _)
      injection hva with e1 e2 e3
      injection hvb with f1 f2 f3
      subst e1 e3 f1 f3
      clear e2 f2
      rcases hd : a.drop k with _ | ⟨x, r⟩
      · have hk2 : k = a.length := by have := drop_nil hd; omega
        have hd2 : b.drop k = [] := List.drop_eq_nil_of_le (by have := Hl.out; omega)
        rw [hd, hd2] at H
        subst hk2
        clear hd hd2 hac hbc
        go_wp2
        go_ret
        exact ⟨retb H.out, hbw⟩
      · obtain ⟨hlt, hx, hr⟩ := drop_consA hd
        rcases hd' : b.drop k with _ | ⟨y, q⟩
        · have := drop_nil hd'; have := Hl.out; omega
        obtain ⟨hlt', hy, hq⟩ := drop_consA hd'
        obtain ⟨ba, oa, rfl, _, hca⟩ := hac _ _ hx
        obtain ⟨bb, ob, rfl, _, hcb⟩ := hbc _ _ hy
        rw [hd, hd'] at H
        have Hr := Lib.hid hr
        have Hq := Lib.hid hq
        have k0 : (0 : Int) ≤ (k : Int) := by omega
        have k1 : (k : Int) < (a.length : Int) := by omega
        have k2 : (k : Int) < (b.length : Int) := by omega
        clear hd hd' hr hq hx hy hac hbc
        by_cases hxy : x = y
        · subst hxy
          go_wp2
          go_quiet (fail)
          go_wp2
          go_roundw
          case rel => exact ⟨k + 1, by omega, by go_num, by rw [Hr.out, Hq.out, ← H.out]; simp [Hid], below_draws hbw _⟩
          case measure => simp [intOf]; omega
        · have hne : (!x == y) = true := by simpa using hxy
          go_wp2
          go_quiet (fail)
          go_wp2
          go_ret
          exact ⟨retb (by rw [← H.out]; simp [hxy]), below_draws hbw _⟩
  · have hlz : (!((a.length : Int) == (b.length : Int))) = true := by rw [Bool.not_eq_true', beq_eq_false_iff_ne]; omega
    have hlz2 : (!(a.length == b.length)) = true := by rw [Bool.not_eq_true', beq_eq_false_iff_ne]; omega
    have hlz3 : (a.length == b.length) = false := by rw [beq_eq_false_iff_ne]; omega
    have Hl := Lib.hid hlen
    clear hlen
    go_enter Tryd.func14, Tryd.ntmps14
    go_wp2
    go_ret
    refine ⟨retb ?_, Below.refl _ _⟩
    rw [← HA.out]; symm; rw [decide_eq_false_iff_not]; intro h; exact Hl.out (by rw [h])

theorem asc2 : ∀ (i : Nat) b, ([47, 0] : List UInt8)[i]? = some b → b.toNat < 128 := by
  intro i b h
  match i with
  | 0 => simp at h; subst h; decide
  | 1 => simp at h; subst h; decide
  | i + 2 => simp at h

set_option maxHeartbeats 400000 in
set_option maxRecDepth 100000 in
set_option linter.unusedSimpArgs false in
theorem segment_any (l : List UInt8) (w : World) (hs : l.length ≤ maxLen) (hE : Env w) :
    Calls Tryd.prog 33 #[.string ⟨l.toArray⟩] w (Ret (.bool (segS l)) w) := by
  have HS := Lib.hid hs
  clear hs
  by_cases z : l = [] ∨ l = [46] ∨ l = [46, 46]
  · rcases z with rfl | rfl | rfl
    all_goals
      go_enter Tryd.func33, Tryd.ntmps33
      go_wp2
      go_ret
      exact ⟨retb (by decide), Below.refl _ _⟩
  · have m1 : l ≠ [] := fun h => z (.inl h)
    have m2 : l ≠ [46] := fun h => z (.inr (.inl h))
    have m3 : l ≠ [46, 46] := fun h => z (.inr (.inr h))
    have n1 : l.isEmpty = false := by simpa using m1
    have n2 : (l == [46]) = false := by simpa using m2
    have n3 : (l == [46, 46]) = false := by simpa using m3
    have HA := Lib.hid (show segS l = (decide (l.length ≤ 64) && (Lib.validD l && !Lib.containsAny l [47, 0])) by simp [segS, goodBytes, any_two, m1, m2, m3])
    clear z m1 m2 m3
    by_cases h64 : l.length ≤ 64
    · generalize hv : Lib.validD l = v at HA
      have HV := Lib.hid hv
      clear hv
      cases v
      · go_enter Tryd.func33, Tryd.ntmps33
        go_wp2_with (go_at_call 54; refine (validString_any _ _ HS.out hE).mono ?_; rw [HV.out]; rintro e w1 ⟨rfl, hb1⟩)
        go_ret
        exact ⟨retb (by rw [HA.out]; simp), hb1⟩
      · go_enter Tryd.func33, Tryd.ntmps33
        go_wp2_with (first
          | (go_at_call 54; refine (validString_any _ _ HS.out hE).mono ?_; rw [HV.out]; rintro e w1 ⟨rfl, hb1⟩)
          | (go_at_call 55; refine (containsAny_any _ _ _ asc2 (by decide) (by decide) (by omega)).mono ?_; rintro e w2 ⟨rfl, hb2⟩))
        go_ret
        exact ⟨retb (by rw [HA.out]; simp [n1, n2, n3, h64]), hb1.trans (hb2.mono hb1.size)⟩
    · go_enter Tryd.func33, Tryd.ntmps33
      go_wp2
      go_ret
      exact ⟨retb (by rw [HA.out]; simp; omega), Below.refl _ _⟩

set_option maxHeartbeats 400000 in
set_option maxRecDepth 100000 in
set_option linter.unusedSimpArgs false in
theorem good_any (v : Value) (p : List (List UInt8)) (w : World) (hp : Strs w v p) (hf : Fits p) (hE : Env w) :
    Calls Tryd.prog 15 #[v] w (Ret (.bool (goodS p)) w) := by
  have Hp := Lib.hid hp
  have HF := Lib.hid hf
  obtain ⟨pa, ca, rfl, ha1, ha2, -⟩ := hp
  unfold maxLen at ha2
  have HG := Lib.hid (show goodS p = (p.all segS && decide (p.length ≤ 12)) from rfl)
  obtain ⟨ANS, hA⟩ : ∃ A, p.all segS = A := ⟨_, rfl⟩
  rw [hA] at HG
  clear hf
  go_enter Tryd.func15, Tryd.ntmps15
  go_wp2
  go_loopw [7] (fun i wr => ∃ k : Nat, k ≤ p.length ∧ i = .int .i64 k ∧ Hid ((p.drop k).all segS = ANS) ∧ Below w.heap.size w wr) (fun i _ => p.length - (intOf i).toNat)
  case atStart => exact ⟨0, Nat.zero_le _, rfl, hA, Below.refl _ _⟩
  case round =>
    obtain ⟨k, hk, rfl, H, hbw⟩ := hrel
    clear hA
    obtain ⟨pa', ca', hva, _, _, hac⟩ := Hp.out.below hbw (Nat.le_refl _)
    injection hva with e1 e2 e3
    subst e1 e3
    clear e2
    have hEr := hE.below hbw
    rcases hd : p.drop k with _ | ⟨x, r⟩
    · have hk2 : k = p.length := by have := drop_nil hd; omega
      rw [hd] at H
      subst hk2
      obtain rfl : true = ANS := H.out
      clear hd hac
      go_wp2
      go_ret
      exact ⟨retb (by rw [HG.out]; simp; omega), hbw⟩
    · obtain ⟨hlt, hx, hr⟩ := drop_consA hd
      obtain ⟨ba, oa, rfl, _, hca⟩ := hac _ _ hx
      have HL := Lib.hid (HF.out _ _ hx)
      rw [hd, List.all_cons] at H
      have Hr := Lib.hid hr
      clear hd hr hx hac
      generalize hv : segS x = v at H
      have HV := Lib.hid hv
      clear hv
      cases v
      · go_wp2_with (go_at_call 33; refine (segment_any _ _ HL.out hEr).mono ?_; rw [HV.out]; rintro e w1 ⟨rfl, hb1⟩)
        go_ret
        exact ⟨retb (by rw [HG.out, ← H.out]; rfl), hbw.trans (hb1.mono hbw.size)⟩
      · go_wp2_with (go_at_call 33; refine (segment_any _ _ HL.out hEr).mono ?_; rw [HV.out]; rintro e w1 ⟨rfl, hb1⟩)
        go_roundw
        case rel => exact ⟨k + 1, by omega, by go_num, by rw [Hr.out, ← H.out]; exact (Bool.true_and _).symm, hbw.trans (hb1.mono hbw.size)⟩
        case measure => simp [intOf]; omega

end Go.Proofs.YthfdhanhkanhhaaDoor
