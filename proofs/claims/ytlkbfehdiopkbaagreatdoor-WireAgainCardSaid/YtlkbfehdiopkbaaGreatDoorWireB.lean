/-
  The walks of wire's digit, all (with the three tests that are handed to it), token. Conditions: a text is shorter than a hundred million bytes.
-/
import Derived.Test.YtlkbfehdiopkbaaGreatDoorWireA
import Derived.Laws.BitsAllLaws
namespace Go.Proofs.YtlkbfehdiopkbaaGreatDoor
set_option linter.unusedVariables false
set_option linter.unusedSimpArgs false
open Go.RowKit

set_option maxHeartbeats 400000 in
set_option maxRecDepth 100000 in
set_option linter.unusedSimpArgs false in
theorem digit_any (c : UInt8) (w : World) : Calls Tryz.prog 55 #[.int .u8 c.toNat] w (Same0 (.bool (digC c)) w) := by
  by_cases h1 : 48 ≤ (c.toNat : Int)
  · by_cases h2 : (c.toNat : Int) ≤ 57
    · have e : digC c = true := decide_eq_true (by omega)
      rw [e]
      clear e
      go_enter Tryz.func55, Tryz.ntmps55
      go_wp2
      go_ret
      exact ⟨rfl, rfl⟩
    · have e : digC c = false := decide_eq_false (by omega)
      rw [e]
      clear e
      go_enter Tryz.func55, Tryz.ntmps55
      go_wp2
      go_ret
      exact ⟨rfl, rfl⟩
  · have e : digC c = false := decide_eq_false (by omega)
    rw [e]
    clear e
    go_enter Tryz.func55, Tryz.ntmps55
    go_wp2
    go_ret
    exact ⟨rfl, rfl⟩
set_option maxHeartbeats 400000 in
set_option maxRecDepth 100000 in
set_option linter.unusedSimpArgs false in
theorem targ_any (c : UInt8) (w : World) : Calls Tryz.prog 53 #[.int .u8 c.toNat] w (Same0 (.bool (targC c)) w) := by
  by_cases h1 : 33 ≤ (c.toNat : Int)
  · by_cases h2 : (c.toNat : Int) ≤ 126
    · have e : targC c = true := decide_eq_true (by omega)
      rw [e]
      clear e
      go_enter Tryz.func53, Tryz.ntmps53
      go_wp2
      go_ret
      exact ⟨rfl, rfl⟩
    · have e : targC c = false := decide_eq_false (by omega)
      rw [e]
      clear e
      go_enter Tryz.func53, Tryz.ntmps53
      go_wp2
      go_ret
      exact ⟨rfl, rfl⟩
  · have e : targC c = false := decide_eq_false (by omega)
    rw [e]
    clear e
    go_enter Tryz.func53, Tryz.ntmps53
    go_wp2
    go_ret
    exact ⟨rfl, rfl⟩
set_option maxHeartbeats 400000 in
set_option maxRecDepth 100000 in
set_option linter.unusedSimpArgs false in
theorem valc_any (c : UInt8) (w : World) : Calls Tryz.prog 56 #[.int .u8 c.toNat] w (Same0 (.bool (valC c.toNat)) w) := by
  by_cases h0 : (c.toNat : Int) = 9
  · have e : valC c.toNat = true := decide_eq_true (by omega)
    rw [e]
    clear e
    rw [h0]
    clear h0
    go_enter Tryz.func56, Tryz.ntmps56
    go_wp2
    go_ret
    exact ⟨rfl, rfl⟩
  · have h0' : ((c.toNat : Int) == 9) = false := beq_eq_false_iff_ne.2 h0
    by_cases h1 : 32 ≤ (c.toNat : Int)
    · by_cases h2 : (c.toNat : Int) = 127
      · have e : valC c.toNat = false := decide_eq_false (by omega)
        rw [e]
        clear e
        rw [h2]
        clear h0 h0' h1 h2
        go_enter Tryz.func56, Tryz.ntmps56
        go_wp2
        go_ret
        exact ⟨rfl, rfl⟩
      · have h2' : ((c.toNat : Int) != 127) = true := bne_iff_ne.2 h2
        have e : valC c.toNat = true := decide_eq_true (by omega)
        rw [e]
        clear e
        go_enter Tryz.func56, Tryz.ntmps56
        go_wp2
        go_ret
        exact ⟨rfl, rfl⟩
    · have e : valC c.toNat = false := decide_eq_false (by omega)
      rw [e]
      clear e
      go_enter Tryz.func56, Tryz.ntmps56
      go_wp2
      go_ret
      exact ⟨rfl, rfl⟩
set_option maxHeartbeats 400000 in
set_option maxRecDepth 100000 in
set_option linter.unusedSimpArgs false in
theorem all_any (g : FuncId) (p : UInt8 → Bool) (hg : ∀ a w, (callFunc g #[a]).run Tryz.prog w = .ok (.enter g #[a]) w) (hp : ∀ c w, Calls Tryz.prog g #[.int .u8 (UInt8.toNat c)] w (Same0 (.bool (p c)) w)) (s : List UInt8) (w : World) (hs : s.length ≤ 100000000) :
    Calls Tryz.prog 52 #[.string ⟨s.toArray⟩, .func (.func g) #[] #[]] w (Same0 (.bool (s.all p)) w) := by
  obtain ⟨ANS, hA⟩ : ∃ A, s.all p = A := ⟨_, rfl⟩
  rw [hA]
  have HP := Lib.hid hp
  clear hp
  go_enter Tryz.func52, Tryz.ntmps52
  go_wp2
  go_loop [8] (fun i => ∃ k : Nat, k ≤ s.length ∧ i = .int .i64 k ∧ Hid ((s.drop k).all p = ANS)) (fun i => s.length - (intOf i).toNat)
  case atStart => exact ⟨0, Nat.zero_le _, rfl, hA⟩
  case round =>
    obtain ⟨k, hk, rfl, HK⟩ := hrel
    clear hA
    rcases hd : s.drop k with _ | ⟨x, q⟩
    · have hk2 : k = s.length := by have := drop_nil hd; omega
      rw [hd] at HK
      obtain rfl : true = ANS := HK.out
      clear hd HK
      subst hk2
      go_wp2
      go_ret
      exact ⟨rfl, rfl⟩
    · obtain ⟨hlt, hx, hq⟩ := drop_cons hd
      rw [hd, List.all_cons] at HK
      have Hq := Lib.hid hq
      clear hd hq
      have HPx := Lib.hid (HP.out x)
      cases hpx : p x
      · rw [hpx] at HK HPx
        obtain rfl : false = ANS := HK.out
        clear HK hpx
        go_wp2_with (refine (HPx.out _).mono ?_; rintro e w1 ⟨rfl, rfl⟩)
        go_ret
        exact ⟨rfl, rfl⟩
      · rw [hpx, Bool.true_and] at HK
        rw [hpx] at HPx
        clear hpx
        go_wp2_with (refine (HPx.out _).mono ?_; rintro e w1 ⟨rfl, rfl⟩)
        go_round
        case rel => exact ⟨k + 1, by omega, by go_num, by rw [Hq.out]; exact HK.out⟩
        case measure => simp [intOf]; omega
theorem digit_enter (a : Value) (w : World) : (callFunc 55 #[a]).run Tryz.prog w = .ok (.enter 55 #[a]) w := by
  simp [go_sem, Tryz.func55, Tryz.f55]
theorem wall_digits (s : List UInt8) (w : World) (hs : s.length ≤ 100000000) : Calls Tryz.prog 52 #[.string ⟨s.toArray⟩, .func (.func 55) #[] #[]] w (Same0 (.bool (s.all digC)) w) :=
  all_any _ digC digit_enter digit_any s w hs
theorem targ_enter (a : Value) (w : World) : (callFunc 53 #[a]).run Tryz.prog w = .ok (.enter 53 #[a]) w := by
  simp [go_sem, Tryz.func53, Tryz.f53]
theorem wall_targ (s : List UInt8) (w : World) (hs : s.length ≤ 100000000) : Calls Tryz.prog 52 #[.string ⟨s.toArray⟩, .func (.func 53) #[] #[]] w (Same0 (.bool (s.all targC)) w) :=
  all_any _ targC targ_enter targ_any s w hs
theorem valc_enter (a : Value) (w : World) : (callFunc 56 #[a]).run Tryz.prog w = .ok (.enter 56 #[a]) w := by
  simp [go_sem, Tryz.func56, Tryz.f56]
theorem wall_val (s : List UInt8) (w : World) (hs : s.length ≤ 100000000) : Calls Tryz.prog 52 #[.string ⟨s.toArray⟩, .func (.func 56) #[] #[]] w (Same0 (.bool (s.all fun c => valC c.toNat)) w) :=
  all_any _ (fun c => valC c.toNat) valc_enter valc_any s w hs
theorem or32 (x : UInt8) : bits .or .u8 (x.toNat : Int) 32 = ((x ||| 32).toNat : Int) := by
  have := u8_or_nat x.toNat 32 x.toNat_lt (by omega)
  rw [UInt8.toNat_or]
  exact this
theorem or32_letter (x : UInt8) : (97 ≤ ((x ||| 32).toNat : Int) ∧ ((x ||| 32).toNat : Int) ≤ 122 ∧ 65 ≤ (x.toNat : Int)) ↔ (97 ≤ (x.toNat : Int) ∧ (x.toNat : Int) ≤ 122 ∨ 65 ≤ (x.toNat : Int) ∧ (x.toNat : Int) ≤ 90) := by
  have h := u8_all (fun x => decide ((97 ≤ (x ||| 32).toNat ∧ (x ||| 32).toNat ≤ 122 ∧ 65 ≤ x.toNat) ↔ (97 ≤ x.toNat ∧ x.toNat ≤ 122 ∨ 65 ≤ x.toNat ∧ x.toNat ≤ 90))) (by decide +kernel) x
  have := of_decide_eq_true h
  omega
set_option maxHeartbeats 2000000 in
set_option maxRecDepth 100000 in
set_option linter.unusedSimpArgs false in
theorem wtoken_any (s : List UInt8) (w : World) (hs : s.length ≤ 1000000000) :
    Calls Tryz.prog 51 #[.string ⟨s.toArray⟩] w (Same0 (.bool (tokS s)) w) := by
  obtain ⟨ANS, hA⟩ : ∃ A, (s.all fun c => tokC c.toNat) = A := ⟨_, rfl⟩
  have HA2 := Lib.hid (show tokS s = (ANS && !decide (s = [])) by
    rw [← hA]
    unfold tokS
    rw [Bool.and_comm])
  go_enter Tryz.func51, Tryz.ntmps51
  go_wp2
  go_loop [7] (fun i => ∃ k : Nat, k ≤ s.length ∧ i = .int .i64 k ∧ Hid (((s.drop k).all fun c => tokC c.toNat) = ANS)) (fun i => s.length - (intOf i).toNat)
  case atStart => exact ⟨0, Nat.zero_le _, rfl, hA⟩
  case round =>
    obtain ⟨k, hk, rfl, HK⟩ := hrel
    clear hA
    rcases hd : s.drop k with _ | ⟨x, q⟩
    · have hk2 : k = s.length := by have := drop_nil hd; omega
      rw [hd] at HK
      obtain rfl : true = ANS := HK.out
      clear hd HK
      subst hk2
      go_wp2
      go_ret
      refine ⟨retb ?_, rfl⟩
      rw [HA2.out]
      cases s <;> simp
    · obtain ⟨hlt, hx, hq⟩ := drop_cons hd
      rw [hd, List.all_cons, tokC_eq, mark_index] at HK
      have Hq := Lib.hid hq
      clear hd hq
      have HI := Lib.hid (indexByte_any markS x w)
      unfold markS at HI
      rw [show ([33, 35, 36, 37, 38, 39, 42, 43, 45, 46, 94, 95, 96, 124, 126] : List UInt8) = markS from rfl] at HI
      have HL := Lib.hid (letC_yes (x.toNat : Int))
      have HN := Lib.hid (letC_no (x.toNat : Int))
      generalize Lib.indexByte markS x = ix at HK HI
      have hor := or32 x
      have hkey := or32_letter x
      generalize ((x ||| 32).toNat : Int) = y at hor hkey
      have HKey := Lib.hid hkey
      clear hkey
      by_cases a1 : 97 ≤ y <;> by_cases a2 : y ≤ 122 <;> by_cases a3 : 65 ≤ (x.toNat : Int) <;> by_cases a5 : 48 ≤ (x.toNat : Int) <;> by_cases a6 : (x.toNat : Int) ≤ 57 <;> first | (exfalso; have := HKey.out; omega) | skip
      all_goals
        first
          | (have hL := Lib.hid (HL.out (by have := HKey.out; omega))
             rw [hL.out, Bool.true_or, Bool.true_and] at HK
             clear hL HL HN HI
             go_wp2
             go_round
             case rel => exact ⟨k + 1, by omega, by go_num, by rw [Hq.out]; exact HK.out⟩
             case measure => simp [intOf]; omega)
          | (have hL := Lib.hid (HN.out (by have := HKey.out; omega))
             rw [hL.out, Bool.false_or] at HK
             clear hL HL HN
             by_cases hix : ix < 0
             · have hix2 : decide (ix < 0) = true := decide_eq_true hix
               rw [hix2, Bool.not_true, Bool.false_and] at HK
               obtain rfl : false = ANS := HK.out
               clear HK
               go_wp2_with (refine HI.out.mono ?_; rintro e w1 ⟨rfl, rfl⟩)
               go_ret
               refine ⟨retb ?_, rfl⟩
               rw [HA2.out]; rfl
             · have hix2 : decide (ix < 0) = false := decide_eq_false hix
               rw [hix2, Bool.not_false, Bool.true_and] at HK
               go_wp2_with (refine HI.out.mono ?_; rintro e w1 ⟨rfl, rfl⟩)
               go_round
               case rel => exact ⟨k + 1, by omega, by go_num, by rw [Hq.out]; exact HK.out⟩
               case measure => simp [intOf]; omega)
end Go.Proofs.YtlkbfehdiopkbaaGreatDoor
