import Derived.Lib.ValidU
import Derived.Lib.MapLaws
import Derived.Lib.IndexAny
import Derived.Lib.Bytealg
import Derived.Test.YtjkiehmjffgnlaaGreatDoorBase
import Derived.Deep.LoopGhost
import Derived.Deep.QuietTactic
import Derived.BigQuiet
import Derived.Test.YtjkiehmjffgnlaaGreatDoorUtf8
import Derived.Test.YtjkiehmjffgnlaaGreatDoorStrAny
import Derived.WalkSmall
import Derived.Test.YtjkiehmjffgnlaaGreatDoorElem
import Derived.Deep.DeepMust
import Derived.Lib.SplitLaws
namespace Go.Proofs.YtjkiehmjffgnlaaGreatDoor.UriN

/-- a digit's worth; -1: none. -/
def digV (c : Int) : Int := if 48 ≤ c ∧ c ≤ 57 then c - 48 else if 97 ≤ c ∧ c ≤ 102 then c - 87 else if 65 ≤ c ∧ c ≤ 70 then c - 55 else -1
def bareB (c : Int) : Bool := decide (97 ≤ c ∧ c ≤ 122 ∨ 65 ≤ c ∧ c ≤ 90 ∨ 48 ≤ c ∧ c ≤ 57 ∨ c = 45 ∨ c = 46 ∨ c = 95 ∨ c = 126)
def withinS (a b : List (List UInt8)) : Bool := b.isPrefixOf a
def hasB (l : List UInt8) (c : Int) : Bool := l.any fun x => decide ((x.toNat : Int) = c)
def goodBytes (s : List UInt8) : Bool := Lib.validD s && !(hasB s 47 || hasB s 0)
def segS (s : List UInt8) : Bool := decide (s ≠ [] ∧ s ≠ [46] ∧ s ≠ [46, 46] ∧ s.length ≤ 64) && goodBytes s
def goodS (p : List (List UInt8)) : Bool := p.all segS && decide (p.length ≤ 12)
def hexU (n : Nat) : UInt8 := UInt8.ofNat (if n < 10 then 48 + n else 55 + n)
def encB (c : UInt8) : List UInt8 := if bareB c.toNat then [c] else [37, hexU (c.toNat / 16), hexU (c.toNat % 16)]
def encS (s : List UInt8) : List UInt8 := s.flatMap encB
def formS (p : List (List UInt8)) : List UInt8 := p.flatMap fun s => 47 :: encS s
def textS (p : List (List UInt8)) : List UInt8 := if goodS p then (if p = [] then [47] else formS p) else []
theorem hasB_cons (x : UInt8) (r : List UInt8) (c : Int) : hasB (x :: r) c = (decide ((x.toNat : Int) = c) || hasB r c) := rfl
theorem bare_yes {c : Int} (h : 97 ≤ c ∧ c ≤ 122 ∨ 65 ≤ c ∧ c ≤ 90 ∨ 48 ≤ c ∧ c ≤ 57 ∨ c = 45 ∨ c = 46 ∨ c = 95 ∨ c = 126) : bareB c = true := by unfold bareB; simpa using h
theorem bare_tail {c : Int} (h0 : 0 ≤ c) (h1 : c < 256) (hlo : ¬ (97 ≤ c ∧ c ≤ 122 ∨ 65 ≤ c ∧ c ≤ 90 ∨ 48 ≤ c ∧ c ≤ 57)) : decide ((0 : Int) ≤ Lib.indexByte [45, 46, 95, 126] c.toNat.toUInt8) = bareB c := by
  obtain ⟨n, rfl⟩ := Int.eq_ofNat_of_zero_le h0
  have hn : n < 256 := by omega
  have key : ∀ m : Fin 256, ¬ (97 ≤ (m.val : Int) ∧ (m.val : Int) ≤ 122 ∨ 65 ≤ (m.val : Int) ∧ (m.val : Int) ≤ 90 ∨ 48 ≤ (m.val : Int) ∧ (m.val : Int) ≤ 57) → decide ((0 : Int) ≤ Lib.indexByte [45, 46, 95, 126] (m.val : Int).toNat.toUInt8) = bareB m.val := by decide +kernel
  exact key ⟨n, hn⟩ hlo
theorem any_two (a b : UInt8) (l : List UInt8) : Lib.containsAny l [a, b] = (hasB l a.toNat || hasB l b.toNat) := by
  unfold Lib.containsAny
  induction l with
  | nil => rfl
  | cons x r ih =>
    have hge := Lib.indexAny_ge [a, b] r
    rw [hasB_cons, hasB_cons]
    unfold Lib.indexAny
    by_cases hxa : x = a
    · subst hxa; simp
    · by_cases hxb : x = b
      · subst hxb; simp
      · have h1 : [a, b].contains x = false := by simp [hxa, hxb]
        have h2 : decide ((x.toNat : Int) = a.toNat) = false := by
          rw [decide_eq_false_iff_not]; intro e; exact hxa (UInt8.toNat_inj.1 (by omega))
        have h3 : decide ((x.toNat : Int) = b.toNat) = false := by
          rw [decide_eq_false_iff_not]; intro e; exact hxb (UInt8.toNat_inj.1 (by omega))
        rw [h1, h2, h3, Bool.false_or, Bool.false_or, ← ih]
        by_cases hm : Lib.indexAny r [a, b] = -1
        · simp [hm]
        · have hm' : (Lib.indexAny r [a, b] == -1) = false := by simpa using hm
          simp only [Bool.false_eq_true, if_false, hm']
          rw [decide_eq_decide]; omega
end Go.Proofs.YtjkiehmjffgnlaaGreatDoor.UriN
namespace Go.Proofs.YtjkiehmjffgnlaaGreatDoor.UriN
open Go.RowKit

set_option maxHeartbeats 400000 in
set_option linter.unusedSimpArgs false in
theorem within_any (va vb : Value) (a b : List (List UInt8)) (w : World) (ha : Strs w va a) (hb : Strs w vb b) :
    Calls Tryz.prog 48 #[va, vb] w (Same0 (.bool (withinS a b)) w) := by
  obtain ⟨pa, ca, rfl, ha1, ha2, hac⟩ := ha
  obtain ⟨pb, cb, rfl, hb1, hb2, hbc⟩ := hb
  unfold maxLen at ha2 hb2
  obtain ⟨ANS, hA⟩ : ∃ A, withinS a b = A := ⟨_, rfl⟩
  rw [hA]
  by_cases hlen : a.length < b.length
  · go_enter Tryz.func48, Tryz.ntmps48
    go_wp2
    go_ret
    refine ⟨retb ?_, rfl⟩
    rw [← hA]; unfold withinS
    symm
    rw [Bool.eq_false_iff]; intro h
    have := (List.isPrefixOf_iff_prefix.1 h).length_le
    omega
  · have Hac := Lib.hid hac
    have Hbc := Lib.hid hbc
    clear hac hbc
    go_enter Tryz.func48, Tryz.ntmps48
    go_wp2
    go_loop [14] (fun i => ∃ k : Nat, k ≤ b.length ∧ i = .int .i64 k ∧ Hid (withinS (a.drop k) (b.drop k) = ANS)) (fun i => b.length - (intOf i).toNat)
    case atStart => exact ⟨0, Nat.zero_le _, rfl, hA⟩
    case round =>
      obtain ⟨k, hk, rfl, H⟩ := hrel
      clear hA
      rcases hd : b.drop k with _ | ⟨y, r⟩
      · obtain rfl : k = b.length := by have := drop_nil hd; omega
        rw [hd] at H; clear hd
        go_wp2
        go_ret
        exact ⟨retb (by rw [← H.out]; unfold withinS; cases a.drop b.length <;> rfl), rfl⟩
      · obtain ⟨hlt, hy, hr⟩ := drop_consA hd
        rcases hd' : a.drop k with _ | ⟨x, q⟩
        · have := drop_nil hd'; omega
        obtain ⟨hlt', hx, hq⟩ := drop_consA hd'
        obtain ⟨ba, oa, rfl, _, hca⟩ := Hac.out _ _ hx
        obtain ⟨bb, ob, rfl, _, hcb⟩ := Hbc.out _ _ hy
        rw [hd, hd'] at H
        have Hr := Lib.hid hr
        have Hq := Lib.hid hq
        clear hd hd' hr hq hx hy
        by_cases hxy : x = y
        · subst hxy
          go_wp2
          go_round
          case rel => exact ⟨k + 1, by omega, by go_num, by rw [Hr.out, Hq.out, ← H.out]; simp [withinS, List.isPrefixOf, Hid]⟩
          case measure => simp [intOf]; omega
        · have hne : (!x == y) = true := by simpa using hxy
          go_wp2
          go_ret
          exact ⟨retb (by
            rw [← H.out]
            have : (y == x) = false := by simpa using fun h => hxy (Eq.symm h)
            simp [withinS, List.isPrefixOf, this]), rfl⟩
end Go.Proofs.YtjkiehmjffgnlaaGreatDoor.UriN
namespace Go.Proofs.YtjkiehmjffgnlaaGreatDoor.UriN
open Go.RowKit

end Go.Proofs.YtjkiehmjffgnlaaGreatDoor.UriN
namespace Go.Proofs.YtjkiehmjffgnlaaGreatDoor.UriN
open Go.RowKit
end Go.Proofs.YtjkiehmjffgnlaaGreatDoor.UriN
namespace Go.Proofs.YtjkiehmjffgnlaaGreatDoor.UriN
open Go.RowKit

set_option maxHeartbeats 400000 in
set_option maxRecDepth 100000 in
set_option linter.unusedSimpArgs false in
theorem bare_any (c : Int) (w : World) (h0 : 0 ≤ c) (h1 : c < 256) :
    Calls Tryz.prog 72 #[.int .u8 c] w (Same0 (.bool (bareB c)) w) := by
  by_cases hlo : 97 ≤ c ∧ c ≤ 122 ∨ 65 ≤ c ∧ c ≤ 90 ∨ 48 ≤ c ∧ c ≤ 57
  · have HA := Lib.hid (bare_yes (c := c) (by omega))
    rcases hlo with ⟨k1, k2⟩ | ⟨k1, k2⟩ | ⟨k1, k2⟩
    all_goals
      go_enter Tryz.func72, Tryz.ntmps72
      go_wp2
      go_ret
      exact ⟨retb HA.out.symm, rfl⟩
  · have ht := bare_tail h0 h1 hlo
    obtain ⟨ANS, hA⟩ : ∃ A, bareB c = A := ⟨_, rfl⟩
    rw [hA] at ht ⊢
    clear hA
    go_enter Tryz.func72, Tryz.ntmps72
    go_wp2_with (go_at_call 60; refine (Tryz.strings_IndexByte _ _ _).mono ?_; rintro e w' ⟨rfl, hw⟩; obtain rfl := hw.symm)
    all_goals first
      | (exfalso; omega)
      | (go_ret; exact ⟨rfl, rfl⟩)
      | (go_ret; exact ⟨retb (by clear ht; cases ANS <;> simp <;> omega), rfl⟩)

theorem asc2 : ∀ (i : Nat) b, ([47, 0] : List UInt8)[i]? = some b → b.toNat < 128 := by
  intro i b h
  match i with
  | 0 => simp at h; subst h; decide
  | 1 => simp at h; subst h; decide
  | i + 2 => simp at h

set_option maxHeartbeats 400000 in
set_option maxRecDepth 100000 in
set_option linter.unusedSimpArgs false in
theorem segment_any (l : List UInt8) (w : World) (hs : l.length ≤ maxLen) (hE : Env w) :
    Calls Tryz.prog 95 #[.string ⟨l.toArray⟩] w (Ret (.bool (segS l)) w) := by
  have HS := Lib.hid hs
  clear hs
  by_cases z : l = [] ∨ l = [46] ∨ l = [46, 46]
  · rcases z with rfl | rfl | rfl
    all_goals
      go_enter Tryz.func95, Tryz.ntmps95
      go_wp2
      go_ret
      exact ⟨retb (by decide), Below.refl _ _⟩
  · have m1 : l ≠ [] := fun h => z (.inl h)
    have m2 : l ≠ [46] := fun h => z (.inr (.inl h))
    have m3 : l ≠ [46, 46] := fun h => z (.inr (.inr h))
    have n1 : l.isEmpty = false := by simpa using m1
    have n2 : (l == [46]) = false := by simpa using m2
    have n3 : (l == [46, 46]) = false := by simpa using m3
    have HA := Lib.hid (show segS l = (decide (l.length ≤ 64) && (Lib.validD l && !Lib.containsAny l [47, 0])) by simp [segS, goodBytes, any_two, m1, m2, m3])
    clear z m1 m2 m3
    by_cases h64 : l.length ≤ 64
    · generalize hv : Lib.validD l = v at HA
      have HV := Lib.hid hv
      clear hv
      cases v
      · go_enter Tryz.func95, Tryz.ntmps95
        go_wp2_with (go_at_call 80; refine (validString_any _ _ HS.out hE).mono ?_; rw [HV.out]; rintro e w1 ⟨rfl, hb1⟩)
        go_ret
        exact ⟨retb (by rw [HA.out]; simp), hb1⟩
      · go_enter Tryz.func95, Tryz.ntmps95
        go_wp2_with (first
          | (go_at_call 80; refine (validString_any _ _ HS.out hE).mono ?_; rw [HV.out]; rintro e w1 ⟨rfl, hb1⟩)
          | (go_at_call 121; refine (containsAny_any _ _ _ asc2 (by decide) (by decide) (by omega)).mono ?_; rintro e w2 ⟨rfl, hb2⟩))
        go_ret
        exact ⟨retb (by rw [HA.out]; simp [n1, n2, n3, h64]), hb1.trans (hb2.mono hb1.size)⟩
    · go_enter Tryz.func95, Tryz.ntmps95
      go_wp2
      go_ret
      exact ⟨retb (by rw [HA.out]; simp; omega), Below.refl _ _⟩

set_option maxHeartbeats 400000 in
set_option maxRecDepth 100000 in
set_option linter.unusedSimpArgs false in
theorem good_any (v : Value) (p : List (List UInt8)) (w : World) (hp : Strs w v p) (hf : Fits p) (hE : Env w) :
    Calls Tryz.prog 70 #[v] w (Ret (.bool (goodS p)) w) := by
  have Hp := Lib.hid hp
  have HF := Lib.hid hf
  obtain ⟨pa, ca, rfl, ha1, ha2, -⟩ := hp
  unfold maxLen at ha2
  have HG := Lib.hid (show goodS p = (p.all segS && decide (p.length ≤ 12)) from rfl)
  obtain ⟨ANS, hA⟩ : ∃ A, p.all segS = A := ⟨_, rfl⟩
  rw [hA] at HG
  clear hf
  go_enter Tryz.func70, Tryz.ntmps70
  go_wp2
  go_loopw [7] (fun i wr => ∃ k : Nat, k ≤ p.length ∧ i = .int .i64 k ∧ Hid ((p.drop k).all segS = ANS) ∧ Below w.heap.size w wr) (fun i _ => p.length - (intOf i).toNat)
  case atStart => exact ⟨0, Nat.zero_le _, rfl, hA, Below.refl _ _⟩
  case round =>
    obtain ⟨k, hk, rfl, H, hbw⟩ := hrel
    clear hA
    obtain ⟨pa', ca', hva, _, _, hac⟩ := Hp.out.below hbw (Nat.le_refl _)
    injection hva with e1 e2 e3
    subst e1 e3
    clear e2
    have hEr := hE.below hbw
    rcases hd : p.drop k with _ | ⟨x, r⟩
    · have hk2 : k = p.length := by have := drop_nil hd; omega
      rw [hd] at H
      subst hk2
      obtain rfl : true = ANS := H.out
      clear hd hac
      go_wp2
      go_ret
      exact ⟨retb (by rw [HG.out]; simp; omega), hbw⟩
    · obtain ⟨hlt, hx, hr⟩ := drop_consA hd
      obtain ⟨ba, oa, rfl, _, hca⟩ := hac _ _ hx
      have HL := Lib.hid (HF.out _ _ hx)
      rw [hd, List.all_cons] at H
      have Hr := Lib.hid hr
      clear hd hr hx hac
      generalize hv : segS x = v at H
      have HV := Lib.hid hv
      clear hv
      cases v
      · go_wp2_with (go_at_call 95; refine (segment_any _ _ HL.out hEr).mono ?_; rw [HV.out]; rintro e w1 ⟨rfl, hb1⟩)
        go_ret
        exact ⟨retb (by rw [HG.out, ← H.out]; rfl), hbw.trans (hb1.mono hbw.size)⟩
      · go_wp2_with (go_at_call 95; refine (segment_any _ _ HL.out hEr).mono ?_; rw [HV.out]; rintro e w1 ⟨rfl, hb1⟩)
        go_roundw
        case rel => exact ⟨k + 1, by omega, by go_num, by rw [Hr.out, ← H.out]; exact (Bool.true_and _).symm, hbw.trans (hb1.mono hbw.size)⟩
        case measure => simp [intOf]; omega

end Go.Proofs.YtjkiehmjffgnlaaGreatDoor.UriN
namespace Go.Proofs.YtjkiehmjffgnlaaGreatDoor.UriN
open Go.RowKit

end Go.Proofs.YtjkiehmjffgnlaaGreatDoor.UriN
namespace Go.Proofs.YtjkiehmjffgnlaaGreatDoor.UriN
open Go.RowKit

end Go.Proofs.YtjkiehmjffgnlaaGreatDoor.UriN
namespace Go.Proofs.YtjkiehmjffgnlaaGreatDoor.UriN
open Go.RowKit

end Go.Proofs.YtjkiehmjffgnlaaGreatDoor.UriN
namespace Go.Proofs.YtjkiehmjffgnlaaGreatDoor.UriN
open Go.Lib

end Go.Proofs.YtjkiehmjffgnlaaGreatDoor.UriN
