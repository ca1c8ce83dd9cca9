/-
  The walk of the law CondNot: it returns true. Conditions: the package variables hold what the row lists; the token is at most a million bytes.
-/
import Derived.Test.YthfdhanhkanhhaaDoorCondG
import Derived.Test.YthfdhanhkanhhaaDoorCondS
import Derived.Test.YthfdhanhkanhhaaDoorCondL
namespace Go.Proofs.YthfdhanhkanhhaaDoor
open Go.RowKit

def angB (l : List UInt8) : Bool := l.any fun b => b == 60 || b == 62
theorem ang_plain {l : List UInt8} (h : angB l = false) : plainTok l := fun b hb => by
  have := List.any_eq_false.1 h b hb
  simpa using this
theorem tags_cond (neg : Bool) (l : List UInt8) : Tags (condG neg l) := fun j g hj => by
  have h := List.mem_of_getElem? hj
  simp [condG] at h
  subst h
  simp
set_option maxHeartbeats 2000000 in
set_option maxRecDepth 100000 in
set_option linter.unusedSimpArgs false in
theorem law_not (t : List UInt8) (sv fv : Value) (self : List (List UInt8)) (fs : List FactT) (w : World) (hs : Strs w sv self) (hf : FactL w fv fs) (hl : t.length ≤ 1048576) (hE : Env w) :
    Calls Tryd.prog 9 #[.string ⟨t.toArray⟩, sv, fv] w (Ret (.bool true) w) := by
  have HS' := Lib.hid hs
  have HF := Lib.hid hf
  clear hs hf
  obtain ⟨ANS, hA⟩ : ∃ A, angB t = A := ⟨_, rfl⟩
  go_enter Tryd.func9, Tryd.ntmps9
  go_wp2_with fail
  refine (fixed16_any w hE).mono ?_
  rintro e w1 ⟨rfl, hb1⟩
  have hE1 := hE.below hb1
  go_wp2_with fail
  go_loop [7] (fun i => ∃ k : Nat, k ≤ t.length ∧ i = .int .i64 k ∧ Hid (angB (t.drop k) = ANS)) (fun i => t.length - (intOf i).toNat)
  case atStart => exact ⟨0, Nat.zero_le _, rfl, hA⟩
  case round =>
    obtain ⟨k, hk, rfl, H⟩ := hrel
    rcases hd : t.drop k with _ | ⟨x, q⟩
    · have hk2 : k = t.length := by have := drop_nil hd; omega
      rw [hd] at H
      obtain rfl : false = ANS := H.out
      have hp := ang_plain hA
      have N1 := not_a t hp
      have N2 := not_b t hp
      have N3 := not_c t hp
      have C1 := Lib.hid (fun w => cparse_any (40 :: 60 :: (t ++ [62, 41])) w (by simp; omega))
      have C2 := Lib.hid (fun w => cparse_any (32 :: 9 :: 40 :: 32 :: 78 :: 111 :: 116 :: 9 :: 60 :: (t ++ [62, 32, 41, 32])) w (by simp; omega))
      have C3 := Lib.hid (fun w => cparse_any (40 :: 32 :: 9 :: 60 :: (t ++ [62, 9, 41])) w (by simp; omega))
      rw [N1] at C1
      rw [N2] at C2
      rw [N3] at C3
      have hkk : ¬ ((k : Int) < t.length) := by omega
      clear hd H hA N1 N2 N3
      cases ht : tokB t
      · rw [ht] at C1 C2 C3
        simp only [Bool.false_eq_true, if_false, ParsePost] at C1 C2 C3
        go_wp2_with fail
        refine (C1.out _).mono ?_
        rintro e w2 ⟨rfl, hb2⟩
        have hbb2 := hb1.trans (hb2.mono hb1.size)
        go_wp2_with fail
        refine (C2.out _).mono ?_
        rintro e w3 ⟨rfl, hb3⟩
        have hbb3 := hbb2.trans (hb3.mono hbb2.size)
        go_wp2_with fail
        refine (C3.out _).mono ?_
        rintro e w4 ⟨rfl, hb4⟩
        go_wp2
        go_ret
        exact ⟨rfl, hbb3.trans (hb4.mono hbb3.size)⟩
      · rw [ht] at C1 C2 C3
        have hne : t ≠ [] := by intro h; rw [h] at ht; cases ht
        simp only [if_true, ParsePost] at C1 C2 C3
        have HN := Lib.hid (groups_not t hne self fs)
        go_wp2_with fail
        refine (C1.out _).mono ?_
        rintro e w2 ⟨v2, rfl, hv2, hb2⟩
        have hbb2 := hb1.trans (hb2.mono hb1.size)
        clear hb2
        go_wp2_with fail
        refine (C2.out _).mono ?_
        rintro e w3 ⟨v3, rfl, hv3, hb3⟩
        have hv23 := hv2.below hb3 (Nat.le_refl _)
        have hbb3 := hbb2.trans (hb3.mono hbb2.size)
        clear hb3 hv2
        go_wp2_with fail
        refine (C3.out _).mono ?_
        rintro e w4 ⟨v4, rfl, hv4, hb4⟩
        have hv24 := hv23.below hb4 (Nat.le_refl _)
        have hv34 := hv3.below hb4 (Nat.le_refl _)
        have hbb4 := hbb3.trans (hb4.mono hbb3.size)
        clear hb4 hv23 hv3 C1 C2 C3
        have HH := Lib.hid (fun (gv : Value) (gs : List GroupT) (wx : World) (hb : Below w.heap.size w wx) (hg : Groups wx gv gs) (ht : Tags gs) => holds_any gv sv fv gs self fs wx hg (HS'.out.below hb (Nat.le_refl _)) (HF.out.below hb (Nat.le_refl _)) ht (hE.below hb))
        generalize hxx : holdsS (condG false t) self fs = x at HN
        have Hx := Lib.hid hxx
        clear hxx
        go_wp2_with fail
        refine (HH.out _ _ _ hbb4 hv24 (tags_cond _ _)).mono ?_
        rw [Hx.out]
        rintro e w5 ⟨rfl, hb5⟩
        have hv25 := hv24.below hb5 (Nat.le_refl _)
        have hv35 := hv34.below hb5 (Nat.le_refl _)
        have hv45 := hv4.below hb5 (Nat.le_refl _)
        have hbb5 := hbb4.trans (hb5.mono hbb4.size)
        clear hb5 hv24 hv34 hv4
        go_wp2_with fail
        refine (rsame16_eq _ _ _ _ hv25 hv45).mono ?_
        rintro e w6 ⟨rfl, hb6⟩
        have hv36 := hv35.below hb6 (Nat.le_refl _)
        have hbb6 := hbb5.trans (hb6.mono hbb5.size)
        clear hb6 hv25 hv35 hv45
        go_wp2_with fail
        refine (HH.out _ _ _ hbb6 hv36 (tags_cond _ _)).mono ?_
        rw [HN.out]
        rintro e w7 ⟨rfl, hb7⟩
        have hbb7 := hbb6.trans (hb7.mono hbb6.size)
        clear hb7
        have hxn : (x == !x) = false := by cases x <;> rfl
        go_wp2_with fail
        refine (HH.out _ _ _ hbb7 (Tab.nil _ _ _) (fun j g hj => by simp at hj)).mono ?_
        rintro e w8 ⟨rfl, hb8⟩
        have hbb8 := hbb7.trans (hb8.mono hbb7.size)
        clear hb8
        go_wp2
        go_ret
        exact ⟨rfl, hbb8⟩
    · obtain ⟨hlt, hx, hq⟩ := drop_cons hd
      rw [hd] at H
      have Hq := Lib.hid hq
      have hA' := Lib.hid hA
      clear hd hq hA
      by_cases h1 : x = 60
      · subst h1
        go_wp2
        go_ret
        exact ⟨rfl, hb1⟩
      · by_cases h2 : x = 62
        · subst h2
          go_wp2
          go_ret
          exact ⟨rfl, hb1⟩
        · have H2 := Lib.hid (show angB q = ANS by
            have := H.out
            unfold angB at this ⊢
            have q1 : (x == 60) = false := by simpa using h1
            have q2 : (x == 62) = false := by simpa using h2
            rw [List.any_cons, q1, q2] at this
            exact this)
          have z1 : ((x.toNat : Int) == 60) = false := by
            rw [beq_eq_false_iff_ne]; intro h; exact h1 (UInt8.toNat_inj.1 (by show x.toNat = 60; omega))
          have z2 : ((x.toNat : Int) == 62) = false := by
            rw [beq_eq_false_iff_ne]; intro h; exact h2 (UInt8.toNat_inj.1 (by show x.toNat = 62; omega))
          clear h1 h2 H
          go_wp2
          go_round
          case rel => exact ⟨k + 1, by omega, by go_num, by rw [Hq.out]; exact H2.out⟩
          case measure => simp [intOf]; omega
end Go.Proofs.YthfdhanhkanhhaaDoor
