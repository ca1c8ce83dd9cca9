import Derived.Test.YtjkiehmjffgnlaaGreatDoorXmlZ1
import Derived.Test.YtjkiehmjffgnlaaGreatDoorXmlZ2
import Derived.Test.YtjkiehmjffgnlaaGreatDoorShelfP
namespace Go.Proofs.YtjkiehmjffgnlaaGreatDoor
set_option linter.unusedVariables false
set_option linter.unusedSimpArgs false
open Go.RowKit

/-- an XML letter, of any number. -/
def letZ (r : Int) : Bool := decide (r = 9 ∨ r = 10 ∨ r = 13 ∨ (32 ≤ r ∧ r ≤ 55295) ∨ (57344 ≤ r ∧ r ≤ 65533) ∨ (65536 ≤ r ∧ r ≤ 1114111))
theorem letZ_nat (n : Nat) : letZ (n : Int) = letC n := by
  unfold letZ letC
  rw [decide_eq_decide]
  omega
set_option maxHeartbeats 2000000 in
set_option maxRecDepth 100000 in
set_option linter.unusedSimpArgs false in
theorem xletter_any (r : Int) (w : World) : Calls Tryz.prog 79 #[.int .i32 r] w (Same0 (.bool (letZ r)) w) := by
  have hA := Lib.hid (show letZ r = _ from rfl)
  obtain ⟨ANS, hN⟩ : ∃ A, A = letZ r := ⟨_, rfl⟩
  rw [← hN]
  have HN := Lib.hid hN
  clear hN hA
  by_cases h9 : r = 9
  · subst h9
    obtain rfl : ANS = true := HN.out.trans (by decide)
    go_enter Tryz.func79, Tryz.ntmps79
    go_wp2
    go_ret
    exact ⟨rfl, rfl⟩
  by_cases h10 : r = 10
  · subst h10
    obtain rfl : ANS = true := HN.out.trans (by decide)
    go_enter Tryz.func79, Tryz.ntmps79
    go_wp2
    go_ret
    exact ⟨rfl, rfl⟩
  by_cases h13 : r = 13
  · subst h13
    obtain rfl : ANS = true := HN.out.trans (by decide)
    go_enter Tryz.func79, Tryz.ntmps79
    go_wp2
    go_ret
    exact ⟨rfl, rfl⟩
  have e9 : (r == 9) = false := beq_eq_false_iff_ne.2 h9
  have e10 : (r == 10) = false := beq_eq_false_iff_ne.2 h10
  have e13 : (r == 13) = false := beq_eq_false_iff_ne.2 h13
  by_cases a1 : (32 : Int) ≤ r <;> by_cases a2 : r ≤ (55295 : Int) <;> by_cases a3 : (57344 : Int) ≤ r <;> by_cases a4 : r ≤ (65533 : Int) <;> by_cases a5 : (65536 : Int) ≤ r <;> by_cases a6 : r ≤ (1114111 : Int) <;> first | (exfalso; omega) | skip
  all_goals
    have hv : ANS = letZ r := HN.out
    first
      | (obtain rfl : ANS = true := hv.trans (decide_eq_true (by omega))
         clear HN hv
         go_enter Tryz.func79, Tryz.ntmps79
         go_wp2
         go_ret
         exact ⟨rfl, rfl⟩)
      | (obtain rfl : ANS = false := hv.trans (decide_eq_false (by omega))
         clear HN hv
         go_enter Tryz.func79, Tryz.ntmps79
         go_wp2
         go_ret
         exact ⟨rfl, rfl⟩)
theorem firC_iff (c : UInt8) : firC c = decide (97 ≤ (c.toNat : Int) ∧ (c.toNat : Int) ≤ 122 ∨ 65 ≤ (c.toNat : Int) ∧ (c.toNat : Int) ≤ 90 ∨ (c.toNat : Int) = 95 ∨ 128 ≤ (c.toNat : Int)) := by
  unfold firC
  rw [Bool.eq_iff_iff]
  simp only [Bool.or_eq_true, decide_eq_true_eq]
  omega
set_option maxHeartbeats 2000000 in
set_option maxRecDepth 100000 in
set_option linter.unusedSimpArgs false in
theorem xfirst_any (c : UInt8) (w : World) : Calls Tryz.prog 150 #[.int .u8 (c.toNat : Int)] w (Same0 (.bool (firC c)) w) := by
  have hc := firC_iff c
  obtain ⟨ANS, hN⟩ : ∃ A, A = firC c := ⟨_, rfl⟩
  rw [← hN] at hc ⊢
  have HC := Lib.hid hc
  clear hc hN
  generalize hr : (c.toNat : Int) = r at *
  clear hr
  by_cases h95 : r = 95
  · subst h95
    obtain rfl : ANS = true := HC.out.trans (by decide)
    go_enter Tryz.func150, Tryz.ntmps150
    go_wp2
    go_ret
    exact ⟨rfl, rfl⟩
  have e95 : (r == 95) = false := beq_eq_false_iff_ne.2 h95
  by_cases a1 : (97 : Int) ≤ r <;> by_cases a2 : r ≤ (122 : Int) <;> by_cases a3 : (65 : Int) ≤ r <;> by_cases a4 : r ≤ (90 : Int) <;> by_cases a5 : (128 : Int) ≤ r <;> first | (exfalso; omega) | skip
  all_goals
    have hv := HC.out
    first
      | (obtain rfl : ANS = true := hv.trans (decide_eq_true (by omega))
         clear HC hv
         go_enter Tryz.func150, Tryz.ntmps150
         go_wp2
         go_ret
         exact ⟨rfl, rfl⟩)
      | (obtain rfl : ANS = false := hv.trans (decide_eq_false (by omega))
         clear HC hv
         go_enter Tryz.func150, Tryz.ntmps150
         go_wp2
         go_ret
         exact ⟨rfl, rfl⟩)
theorem othC_iff (c : UInt8) : othC c = (firC c || decide (48 ≤ (c.toNat : Int) ∧ (c.toNat : Int) ≤ 57 ∨ (c.toNat : Int) = 45 ∨ (c.toNat : Int) = 46)) := by
  unfold othC
  cases firC c
  · rw [Bool.eq_iff_iff]
    simp only [Bool.or_eq_true, decide_eq_true_eq, Bool.false_eq_true, false_or]
    omega
  · simp
set_option maxHeartbeats 2000000 in
set_option maxRecDepth 100000 in
set_option linter.unusedSimpArgs false in
theorem xother_any (c : UInt8) (w : World) : Calls Tryz.prog 132 #[.int .u8 (c.toNat : Int)] w (Same0 (.bool (othC c)) w) := by
  have hc := othC_iff c
  have HF := Lib.hid (xfirst_any c w)
  obtain ⟨ANS, hN⟩ : ∃ A, A = othC c := ⟨_, rfl⟩
  rw [← hN] at hc ⊢
  generalize firC c = F at *
  have HC := Lib.hid hc
  clear hc hN
  generalize hr : (c.toNat : Int) = r at *
  clear hr
  cases F
  · by_cases h45 : r = 45
    · subst h45
      obtain rfl : ANS = true := HC.out.trans (by decide)
      go_enter Tryz.func132, Tryz.ntmps132
      go_wp2_with (refine HF.out.mono ?_; rintro e w1 ⟨rfl, rfl⟩)
      go_ret
      exact ⟨rfl, rfl⟩
    by_cases h46 : r = 46
    · subst h46
      obtain rfl : ANS = true := HC.out.trans (by decide)
      go_enter Tryz.func132, Tryz.ntmps132
      go_wp2_with (refine HF.out.mono ?_; rintro e w1 ⟨rfl, rfl⟩)
      go_ret
      exact ⟨rfl, rfl⟩
    have e45 : (r == 45) = false := beq_eq_false_iff_ne.2 h45
    have e46 : (r == 46) = false := beq_eq_false_iff_ne.2 h46
    by_cases a1 : (48 : Int) ≤ r <;> by_cases a2 : r ≤ (57 : Int) <;> first | (exfalso; omega) | skip
    all_goals
      have hv := HC.out
      rw [Bool.false_or] at hv
      first
        | (obtain rfl : ANS = true := hv.trans (decide_eq_true (by omega))
           clear HC hv
           go_enter Tryz.func132, Tryz.ntmps132
           go_wp2_with (refine HF.out.mono ?_; rintro e w1 ⟨rfl, rfl⟩)
           go_ret
           first | exact ⟨rfl, rfl⟩ | exact ⟨retb (decide_eq_false (by omega)), rfl⟩ | exact ⟨retb (decide_eq_true (by omega)), rfl⟩)
        | (obtain rfl : ANS = false := hv.trans (decide_eq_false (by omega))
           clear HC hv
           go_enter Tryz.func132, Tryz.ntmps132
           go_wp2_with (refine HF.out.mono ?_; rintro e w1 ⟨rfl, rfl⟩)
           go_ret
           first | exact ⟨rfl, rfl⟩ | exact ⟨retb (decide_eq_false (by omega)), rfl⟩ | exact ⟨retb (decide_eq_true (by omega)), rfl⟩)
  · obtain rfl : ANS = true := HC.out.trans (Bool.true_or _)
    clear HC
    go_enter Tryz.func132, Tryz.ntmps132
    go_wp2_with (refine HF.out.mono ?_; rintro e w1 ⟨rfl, rfl⟩)
    go_ret
    exact ⟨rfl, rfl⟩
end Go.Proofs.YtjkiehmjffgnlaaGreatDoor
namespace Go.Proofs.YtjkiehmjffgnlaaGreatDoor
set_option linter.unusedVariables false
set_option linter.unusedSimpArgs false

theorem elem_step (f : Nat) (sc : Scope) (s : List UInt8) : elemF (f + 1) sc s = thenX (eatX [60] s) fun _ b => thenX (qnameX b) fun pl r => thenX (attrsX (r.length + 1) [] [] sc r) fun asz r1 =>
      match findX asz.2 pl.1 with
      | none => none
      | some sp =>
        match eatX [47, 62] r1 with
        | some (_, q) => some (.mk [] sp pl.2 asz.1 [], q)
        | none => thenX (eatX [62] r1) fun _ r2 => thenX (contF f asz.2 [] r2) fun ks r3 => thenX (eatX [60, 47] r3) fun _ r4 =>
            thenX (eatX (b.take (b.length - r.length)) r4) fun _ r5 => thenX (eatX [62] (whiteX r5)) fun _ r6 => some (.mk [] sp pl.2 asz.1 ks, r6) := rfl
theorem cont_step (f : Nat) (sc : Scope) (ks : List NodeT) (s : List UInt8) : contF (f + 1) sc ks s =
    if [60, 47].isPrefixOf s then some (ks, s)
    else if s = [] then none
    else match skipX s with
      | none => none
      | some (true, r) => contF f sc ks r
      | some (false, _) =>
        match eatX wCdata s with
        | some (_, r) => thenX (cutS [93, 93, 62] r) fun t q => contF f sc (addText ks (linesX t)) q
        | none =>
          if s.head? = some 60 then thenX (elemF f sc s) fun n r => contF f sc (ks ++ [n]) r
          else if s.head? = some 38 then thenX (refX s.tail) fun t r => contF f sc (addText ks t) r
          else if s.dropWhile (fun c => !stopC c) = [] ∨ hasEnd (s.takeWhile fun c => !stopC c) = true then none
          else contF f sc (addText ks (linesX (s.takeWhile fun c => !stopC c))) (s.dropWhile fun c => !stopC c) := rfl
theorem eat_len {w s r : List UInt8} {u : Unit} (h : eatX w s = some (u, r)) : s.length = w.length + r.length := by
  rw [eatX_some h, List.length_append]
theorem elem_lt : ∀ (f : Nat), (∀ (sc : Scope) (s : List UInt8) (n : NodeT) (r : List UInt8), elemF f sc s = some (n, r) → r.length < s.length) ∧
    (∀ (sc : Scope) (ks : List NodeT) (s : List UInt8) (k : List NodeT) (r : List UInt8), contF f sc ks s = some (k, r) → r.length ≤ s.length ∧ [60, 47].isPrefixOf r = true)
  | 0 => ⟨(fun _ _ _ _ h => by simp [elemF] at h), (fun _ _ _ _ _ h => by simp [contF] at h)⟩
  | f + 1 => by
    obtain ⟨ih1, ih2⟩ := elem_lt f
    constructor
    · intro sc s n r h
      rw [elem_step] at h
      obtain ⟨u, b, h1, h⟩ := thenX_some h
      obtain ⟨pl, r0, h2, h⟩ := thenX_some h
      obtain ⟨asz, r1, h3, h⟩ := thenX_some h
      have l1 := eat_len h1
      have l2 := qnameX_len h2
      have l3 := (attrs_ok _ _ _ _ _ _ _ h3).1
      simp only [List.length_cons, List.length_nil] at l1
      split at h
      · cases h
      · split at h
        · rename_i q he
          injection h with h
          injection h with _ h
          have := eat_len he
          simp only [List.length_cons, List.length_nil] at this
          subst h
          omega
        · obtain ⟨u2, r2, h4, h⟩ := thenX_some h
          obtain ⟨ks, r3, h5, h⟩ := thenX_some h
          obtain ⟨u4, r4, h6, h⟩ := thenX_some h
          obtain ⟨u5, r5, h7, h⟩ := thenX_some h
          obtain ⟨u6, r6, h8, h⟩ := thenX_some h
          injection h with h
          injection h with _ h
          subst h
          have l4 := eat_len h4
          have l5 := (ih2 _ _ _ _ _ h5).1
          have l6 := eat_len h6
          have l7 := eat_len h7
          have l8 := eat_len h8
          have l9 := white_le r5
          simp only [List.length_cons, List.length_nil] at l4 l6 l8
          omega
    · intro sc ks s k r h
      rw [cont_step] at h
      split at h
      · rename_i hp
        injection h with h
        injection h with _ h
        subst h
        exact ⟨Nat.le_refl _, hp⟩
      · split at h
        · cases h
        · split at h
          · cases h
          · rename_i r1 hs
            have l1 := (skipX_true hs).1
            have := ih2 _ _ _ _ _ h
            exact ⟨by omega, this.2⟩
          · split at h
            · rename_i r1 he
              obtain ⟨t, q, h1, h⟩ := thenX_some h
              have l1 := eat_len he
              have l2 := cut_len2 h1
              have := ih2 _ _ _ _ _ h
              exact ⟨by omega, this.2⟩
            · split at h
              · obtain ⟨n, r1, h1, h⟩ := thenX_some h
                have l1 := ih1 _ _ _ _ h1
                have := ih2 _ _ _ _ _ h
                exact ⟨by omega, this.2⟩
              · split at h
                · obtain ⟨t, r1, h1, h⟩ := thenX_some h
                  have l1 := (refX_ok h1).1
                  have := ih2 _ _ _ _ _ h
                  rw [List.length_tail] at l1
                  exact ⟨by omega, this.2⟩
                · split at h
                  · cases h
                  · have := ih2 _ _ _ _ _ h
                    have l1 := (List.dropWhile_suffix (l := s) (fun c => !stopC c)).length_le
                    exact ⟨by omega, this.2⟩
theorem fuel_any : ∀ (m : Nat), (∀ (f g : Nat) (sc : Scope) (s : List UInt8), 2 * s.length ≤ m → 2 * s.length < f → 2 * s.length < g → elemF f sc s = elemF g sc s) ∧
    (∀ (f g : Nat) (sc : Scope) (ks : List NodeT) (s : List UInt8), 2 * s.length + 1 ≤ m → 2 * s.length + 1 < f → 2 * s.length + 1 < g → contF f sc ks s = contF g sc ks s) := by
  intro m
  induction m using Nat.strongRecOn with
  | _ m ih =>
  constructor
  · intro f g sc s hm hf hg
    obtain ⟨f, rfl⟩ : ∃ k, f = k + 1 := ⟨f - 1, by omega⟩
    obtain ⟨g, rfl⟩ : ∃ k, g = k + 1 := ⟨g - 1, by omega⟩
    rw [elem_step, elem_step]
    refine thenX_congr rfl fun u b h1 => thenX_congr rfl fun pl r h2 => thenX_congr rfl fun asz r1 h3 => ?_
    have l1 := eat_len h1
    have l2 := qnameX_len h2
    have l3 := (attrs_ok _ _ _ _ _ _ _ h3).1
    simp only [List.length_cons, List.length_nil] at l1
    split
    · rfl
    · split
      · rfl
      · refine thenX_congr rfl fun u2 r2 h4 => thenX_congr ?_ fun _ _ _ => rfl
        have l4 := eat_len h4
        simp only [List.length_cons, List.length_nil] at l4
        exact (ih (2 * r2.length + 1) (by omega)).2 f g asz.2 [] r2 (by omega) (by omega) (by omega)
  · intro f g sc ks s hm hf hg
    obtain ⟨f, rfl⟩ : ∃ k, f = k + 1 := ⟨f - 1, by omega⟩
    obtain ⟨g, rfl⟩ : ∃ k, g = k + 1 := ⟨g - 1, by omega⟩
    rw [cont_step, cont_step]
    split
    · rfl
    · split
      · rfl
      · rename_i hne
        have hpos := List.length_pos_iff.2 hne
        split
        · rfl
        · rename_i r hs
          have l1 := (skipX_true hs).1
          exact (ih (2 * r.length + 1) (by omega)).2 f g sc ks r (by omega) (by omega) (by omega)
        · split
          · rename_i r he
            refine thenX_congr rfl fun t q hc => ?_
            have l1 := eat_len he
            have l2 := cut_len2 hc
            simp only [List.length_cons, List.length_nil] at l2
            exact (ih (2 * q.length + 1) (by omega)).2 f g sc _ q (by omega) (by omega) (by omega)
          · split
            · refine thenX_congr ((ih (2 * s.length) (by omega)).1 f g sc s (by omega) (by omega) (by omega)) fun n r he => ?_
              have l1 := (elem_lt g).1 _ _ _ _ he
              exact (ih (2 * r.length + 1) (by omega)).2 f g sc _ r (by omega) (by omega) (by omega)
            · split
              · refine thenX_congr rfl fun t r hr => ?_
                have l1 := (refX_ok hr).1
                rw [List.length_tail] at l1
                exact (ih (2 * r.length + 1) (by omega)).2 f g sc _ r (by omega) (by omega) (by omega)
              · split
                · rfl
                · rename_i h60 h38 hz
                  have l1 : (s.dropWhile fun c => !stopC c).length < s.length := by
                    obtain ⟨c, q, rfl⟩ := List.exists_cons_of_ne_nil hne
                    have hc : stopC c = false := by
                      unfold stopC
                      simp only [List.head?_cons, Option.some.injEq] at h60 h38
                      simp [h60, h38]
                    rw [List.dropWhile_cons, if_pos (by rw [hc]; rfl)]
                    have := (List.dropWhile_suffix (l := q) (fun c => !stopC c)).length_le
                    simp only [List.length_cons]; omega
                  exact (ih (2 * (s.dropWhile fun c => !stopC c).length + 1) (by omega)).2 f g sc _ _ (by omega) (by omega) (by omega)
def elemX (sc : Scope) (s : List UInt8) : X1 NodeT := elemF (2 * s.length + 1) sc s
def contX (sc : Scope) (ks : List NodeT) (s : List UInt8) : X1 (List NodeT) := contF (2 * s.length + 2) sc ks s
theorem elemF_X {f : Nat} {sc : Scope} {s : List UInt8} (h : 2 * s.length < f) : elemF f sc s = elemX sc s := (fuel_any _).1 _ _ _ _ (Nat.le_refl _) h (by omega)
theorem contF_X {f : Nat} {sc : Scope} {ks : List NodeT} {s : List UInt8} (h : 2 * s.length + 1 < f) : contF f sc ks s = contX sc ks s := (fuel_any _).2 _ _ _ _ _ (Nat.le_refl _) h (by omega)
theorem elemX_eq (sc : Scope) (s : List UInt8) : elemX sc s = thenX (eatX [60] s) fun _ b => thenX (qnameX b) fun pl r => thenX (attrsX (r.length + 1) [] [] sc r) fun asz r1 =>
      match findX asz.2 pl.1 with
      | none => none
      | some sp =>
        match eatX [47, 62] r1 with
        | some (_, q) => some (.mk [] sp pl.2 asz.1 [], q)
        | none => thenX (eatX [62] r1) fun _ r2 => thenX (contX asz.2 [] r2) fun ks r3 => thenX (eatX [60, 47] r3) fun _ r4 =>
            thenX (eatX (b.take (b.length - r.length)) r4) fun _ r5 => thenX (eatX [62] (whiteX r5)) fun _ r6 => some (.mk [] sp pl.2 asz.1 ks, r6) := by
  unfold elemX
  rw [elem_step]
  refine thenX_congr rfl fun u b h1 => thenX_congr rfl fun pl r h2 => thenX_congr rfl fun asz r1 h3 => ?_
  have l1 := eat_len h1
  have l2 := qnameX_len h2
  have l3 := (attrs_ok _ _ _ _ _ _ _ h3).1
  simp only [List.length_cons, List.length_nil] at l1
  split
  · rfl
  · split
    · rfl
    · refine thenX_congr rfl fun u2 r2 h4 => thenX_congr ?_ fun _ _ _ => rfl
      have l4 := eat_len h4
      simp only [List.length_cons, List.length_nil] at l4
      exact contF_X (by omega)
theorem contX_eq (sc : Scope) (ks : List NodeT) (s : List UInt8) : contX sc ks s =
    if [60, 47].isPrefixOf s then some (ks, s)
    else if s = [] then none
    else match skipX s with
      | none => none
      | some (true, r) => contX sc ks r
      | some (false, _) =>
        match eatX wCdata s with
        | some (_, r) => thenX (cutS [93, 93, 62] r) fun t q => contX sc (addText ks (linesX t)) q
        | none =>
          if s.head? = some 60 then thenX (elemX sc s) fun n r => contX sc (ks ++ [n]) r
          else if s.head? = some 38 then thenX (refX s.tail) fun t r => contX sc (addText ks t) r
          else if s.dropWhile (fun c => !stopC c) = [] ∨ hasEnd (s.takeWhile fun c => !stopC c) = true then none
          else contX sc (addText ks (linesX (s.takeWhile fun c => !stopC c))) (s.dropWhile fun c => !stopC c) := by
  conv => lhs; unfold contX
  rw [cont_step]
  split
  · rfl
  · split
    · rfl
    · rename_i hne
      have hpos := List.length_pos_iff.2 hne
      split
      · rfl
      · rename_i r hs
        have l1 := (skipX_true hs).1
        exact contF_X (by omega)
      · split
        · rename_i r he
          refine thenX_congr rfl fun t q hc => ?_
          have l1 := eat_len he
          have l2 := cut_len2 hc
          simp only [List.length_cons, List.length_nil] at l2
          exact contF_X (by omega)
        · split
          · refine thenX_congr (elemF_X (by omega)) fun n r he => ?_
            have l1 := (elem_lt _).1 _ _ _ _ he
            exact contF_X (by omega)
          · split
            · refine thenX_congr rfl fun t r hr => ?_
              have l1 := (refX_ok hr).1
              rw [List.length_tail] at l1
              exact contF_X (by omega)
            · split
              · rfl
              · rename_i h60 h38 hz
                have l1 : (s.dropWhile fun c => !stopC c).length < s.length := by
                  obtain ⟨c, q, rfl⟩ := List.exists_cons_of_ne_nil hne
                  have hc : stopC c = false := by
                    unfold stopC
                    simp only [List.head?_cons, Option.some.injEq] at h60 h38
                    simp [h60, h38]
                  rw [List.dropWhile_cons, if_pos (by rw [hc]; rfl)]
                  have := (List.dropWhile_suffix (l := q) (fun c => !stopC c)).length_le
                  simp only [List.length_cons]; omega
                exact contF_X (by omega)
theorem elemX_lt {sc : Scope} {s r : List UInt8} {n : NodeT} (h : elemX sc s = some (n, r)) : r.length < s.length := (elem_lt _).1 _ _ _ _ h
theorem elemX_head {sc : Scope} {s r : List UInt8} {n : NodeT} (h : elemX sc s = some (n, r)) : ∃ c q, s = 60 :: c :: q ∧ firC c = true := by
  rw [elemX_eq] at h
  obtain ⟨u, b, h1, h⟩ := thenX_some h
  obtain ⟨pl, r0, h2, -⟩ := thenX_some h
  unfold qnameX at h2
  obtain ⟨a, q, h3, -⟩ := thenX_some h2
  obtain ⟨e1, e2, -, -⟩ := nameX_some h3
  have e := eatX_some h1
  rcases a with _ | ⟨c, a⟩
  · cases e2
  · refine ⟨c, a ++ q, by rw [e, e1]; rfl, ?_⟩
    unfold nameOk at e2
    rw [Bool.and_eq_true] at e2
    exact e2.1
theorem skip_head {s r : List UInt8} (h : skipX s = some (true, r)) : ∃ c q, s = 60 :: c :: q ∧ (c = 33 ∨ c = 63) := by
  unfold skipX at h
  split at h
  · rename_i r1 he
    exact ⟨33, _, eatX_some he, .inl rfl⟩
  · split at h
    · rename_i r1 he
      exact ⟨63, _, eatX_some he, .inr rfl⟩
    · injection h with h
      injection h with h _
      cases h
def plainH (s : List UInt8) : Prop := ∃ c q, s = c :: q ∧ (c ≠ 60 ∨ ∃ d q', q = d :: q' ∧ firC d = true)
theorem plainH.app {s : List UInt8} (h : plainH s) (t : List UInt8) : plainH (s ++ t) := by
  obtain ⟨c, q, rfl, h⟩ := h
  refine ⟨c, q ++ t, rfl, h.imp id fun ⟨d, q', e, hd⟩ => ⟨d, q' ++ t, by rw [e]; rfl, hd⟩⟩
theorem plainH.tests {s : List UInt8} (h : plainH s) : [60, 47].isPrefixOf s = false ∧ s ≠ [] ∧ skipX s = some (false, s) ∧ eatX wCdata s = none := by
  obtain ⟨c, q, rfl, h⟩ := h
  have hf : ∀ d : UInt8, firC d = true → d ≠ 33 ∧ d ≠ 63 ∧ d ≠ 47 := fun d hd => by
    refine ⟨?_, ?_, ?_⟩ <;> · intro e; subst e; revert hd; decide
  have no : ∀ x w, (x = 33 ∨ x = 63 ∨ x = 47) → (60 :: x :: w).isPrefixOf (c :: q) = false := fun x w hx => by
    rcases h with h | ⟨d, q', rfl, hd⟩
    · have : ((60 : UInt8) == c) = false := by rw [beq_eq_false_iff_ne]; exact Ne.symm h
      rw [List.isPrefixOf, this]; rfl
    · obtain ⟨f1, f2, f3⟩ := hf d hd
      have : (x == d) = false := by
        rw [beq_eq_false_iff_ne]
        rcases hx with rfl | rfl | rfl <;> first | exact Ne.symm f1 | exact Ne.symm f2 | exact Ne.symm f3
      rw [List.isPrefixOf, List.isPrefixOf, this]; simp
  refine ⟨no 47 [] (.inr (.inr rfl)), by simp, skipX_other (no 33 _ (.inl rfl)) (no 63 _ (.inr (.inl rfl))), ?_⟩
  unfold eatX
  rw [show wCdata.isPrefixOf (c :: q) = false from no 33 _ (.inl rfl)]
  rfl
theorem ext_any : ∀ (m : Nat), (∀ (sc : Scope) (s r : List UInt8) (n : NodeT), 2 * s.length ≤ m → elemX sc s = some (n, r) → ∀ t, elemX sc (s ++ t) = some (n, r ++ t)) ∧
    (∀ (sc : Scope) (ks k : List NodeT) (s r : List UInt8), 2 * s.length + 1 ≤ m → contX sc ks s = some (k, r) → ∀ t, contX sc ks (s ++ t) = some (k, r ++ t)) := by
  intro m
  induction m using Nat.strongRecOn with
  | _ m ih =>
  constructor
  · intro sc s r n hm h t
    rw [elemX_eq] at h ⊢
    obtain ⟨u, b, h1, h⟩ := thenX_some h
    obtain ⟨pl, r0, h2, h⟩ := thenX_some h
    obtain ⟨asz, r1, h3, h⟩ := thenX_some h
    have l1 := eat_len h1
    have l2 := qnameX_len h2
    have l3 := (attrs_ok _ _ _ _ _ _ _ h3).1
    simp only [List.length_cons, List.length_nil] at l1
    split at h
    · cases h
    · rename_i sp hsp
      have hr1 : r1 ≠ [] ∧ (2 ≤ r1.length ∨ [62].isPrefixOf r1 = true) := by
        split at h
        · rename_i q he
          have := eat_len he
          simp only [List.length_cons, List.length_nil] at this
          exact ⟨by intro e; rw [e] at this; simp at this; omega, .inl (by omega)⟩
        · obtain ⟨u2, r2, h4, -⟩ := thenX_some h
          have e := eatX_some h4
          exact ⟨by rw [e]; simp, .inr (by rw [e]; rfl)⟩
      have hr0 : r0 ≠ [] := by intro e; rw [e] at l3; exact hr1.1 (List.eq_nil_of_length_eq_zero (by simpa using l3))
      have htk : (b ++ t).take ((b ++ t).length - (r0 ++ t).length) = b.take (b.length - r0.length) := by
        rw [List.length_append, List.length_append, Nat.add_sub_add_right, List.take_append_of_le_length (by omega)]
      rw [eatX_some h1, List.append_assoc, eatX_app, thenX_mk, qnameX_app h2 hr0 t, thenX_mk, (attrs_ok _ _ _ _ _ _ _ h3).2 hr1.1 t ((r0 ++ t).length + 1) (by omega) hr1.2, thenX_mk]
      simp only [hsp]
      split at h
      · rename_i q he
        injection h with h
        injection h with h h'
        subst h h'
        rw [eatX_some he, List.append_assoc, eatX_app]
      · rename_i hno
        obtain ⟨u2, r2, h4, h⟩ := thenX_some h
        obtain ⟨ks, r3, h5, h⟩ := thenX_some h
        obtain ⟨u4, r4, h6, h⟩ := thenX_some h
        obtain ⟨u5, r5, h7, h⟩ := thenX_some h
        obtain ⟨u6, r6, h8, h⟩ := thenX_some h
        injection h with h
        injection h with h h'
        subst h h'
        have l4 := eat_len h4
        simp only [List.length_cons, List.length_nil] at l4
        have hno2 : eatX [47, 62] (r1 ++ t) = none := by
          rw [eatX_some h4]
          unfold eatX
          rw [if_neg]
          simp [List.isPrefixOf]
        have hw : whiteX r5 ≠ [] := by rw [eatX_some h8]; simp
        rw [hno2]
        simp only
        rw [eatX_some h4, List.append_assoc, eatX_app, thenX_mk, (ih (2 * r2.length + 1) (by omega)).2 asz.2 [] ks r2 r3 (by omega) h5 t, thenX_mk, eatX_some h6, List.append_assoc, eatX_app, thenX_mk, htk, eatX_some h7, List.append_assoc, eatX_app, thenX_mk,
          white_app hw, eatX_some h8, List.append_assoc, eatX_app, thenX_mk]
  · intro sc ks k s r hm h t
    rw [contX_eq] at h ⊢
    split at h
    · rename_i hp
      injection h with h
      injection h with h h'
      subst h h'
      rw [if_pos (prefix_app hp t)]
    · rename_i hp
      split at h
      · cases h
      · rename_i hne
        have hne2 : s ++ t ≠ [] := by simp [hne]
        split at h
        · cases h
        · rename_i r1 hs
          obtain ⟨l1, hs2⟩ := skipX_true hs
          obtain ⟨c, q, e, hc⟩ := skip_head hs
          have hp2 : ¬ [60, 47].isPrefixOf (s ++ t) = true := by
            rw [e]
            rcases hc with rfl | rfl <;> simp [List.isPrefixOf]
          rw [if_neg hp2, if_neg hne2, hs2 t]
          exact (ih (2 * r1.length + 1) (by omega)).2 sc ks k r1 r (by omega) h t
        · rename_i r1 hs
          split at h
          · rename_i r2 he
            obtain ⟨x, q, h1, h⟩ := thenX_some h
            have l1 := eat_len he
            have l2 := cut_len2 h1
            simp only [List.length_cons, List.length_nil] at l2
            have e := eatX_some he
            have hp2 : ¬ [60, 47].isPrefixOf (s ++ t) = true := by rw [e]; simp [List.isPrefixOf, wCdata]
            have hs2 : skipX (s ++ t) = some (false, s ++ t) := skipX_other (by rw [e]; simp [List.isPrefixOf, wCdata, wCom]) (by rw [e]; simp [List.isPrefixOf, wCdata])
            rw [if_neg hp2, if_neg hne2, hs2, e, List.append_assoc, eatX_app]
            show thenX (cutS [93, 93, 62] (r2 ++ t)) _ = _
            rw [cut_app t h1, thenX_mk]
            exact (ih (2 * q.length + 1) (by omega)).2 sc _ k q r (by omega) h t
          · have hph : plainH s := by
              obtain ⟨c, q, e⟩ := List.exists_cons_of_ne_nil hne
              by_cases hc : c = 60
              · subst hc
                rw [if_pos (by rw [e]; rfl)] at h
                obtain ⟨n, r2, h1, h⟩ := thenX_some h
                obtain ⟨d, q', e2, hd⟩ := elemX_head h1
                exact ⟨60, d :: q', e2, .inr ⟨d, q', rfl, hd⟩⟩
              · exact ⟨c, q, e, .inl hc⟩
            obtain ⟨t1, t2, t3, t4⟩ := (hph.app t).tests
            rw [if_neg (by rw [t1]; simp), if_neg t2, t3, t4]
            have hhd : (s ++ t).head? = s.head? := by
              obtain ⟨c, q, e⟩ := List.exists_cons_of_ne_nil hne
              rw [e]; rfl
            simp only
            rw [hhd]
            split at h
            · rename_i h60
              obtain ⟨n, r2, h1, h⟩ := thenX_some h
              have l1 := elemX_lt h1
              rw [if_pos h60, (ih (2 * s.length) (by omega)).1 sc s r2 n (by omega) h1 t, thenX_mk]
              exact (ih (2 * r2.length + 1) (by omega)).2 sc _ k r2 r (by omega) h t
            · rename_i h60
              rw [if_neg h60]
              split at h
              · rename_i h38
                obtain ⟨x, r2, h1, h⟩ := thenX_some h
                obtain ⟨l1, h2⟩ := refX_ok h1
                rw [List.length_tail] at l1
                have htl : (s ++ t).tail = s.tail ++ t := by
                  obtain ⟨c, q, e⟩ := List.exists_cons_of_ne_nil hne
                  rw [e]; rfl
                rw [if_pos h38, htl, h2 t, thenX_mk]
                exact (ih (2 * r2.length + 1) (by omega)).2 sc _ k r2 r (by omega) h t
              · rename_i h38
                rw [if_neg h38]
                split at h
                · cases h
                · rename_i hz
                  have hd : (s.dropWhile fun c => !stopC c) ≠ [] := fun e => hz (.inl e)
                  obtain ⟨d1, d2⟩ := dropW_app hd t
                  have l1 : (s.dropWhile fun c => !stopC c).length < s.length := by
                    obtain ⟨c, q, rfl⟩ := List.exists_cons_of_ne_nil hne
                    have hc : stopC c = false := by
                      unfold stopC
                      simp only [List.head?_cons, Option.some.injEq] at h60 h38
                      simp [h60, h38]
                    rw [List.dropWhile_cons, if_pos (by rw [hc]; rfl)]
                    have := (List.dropWhile_suffix (l := q) (fun c => !stopC c)).length_le
                    simp only [List.length_cons]; omega
                  rw [d1, d2, if_neg (fun hh => hh.elim (fun e => hd (List.append_eq_nil_iff.1 e).1) (fun e => hz (.inr e)))]
                  exact (ih (2 * (s.dropWhile fun c => !stopC c).length + 1) (by omega)).2 sc _ k _ r (by omega) h t
theorem elemX_app {sc : Scope} {s r : List UInt8} {n : NodeT} (h : elemX sc s = some (n, r)) (t : List UInt8) : elemX sc (s ++ t) = some (n, r ++ t) := (ext_any _).1 sc s r n (Nat.le_refl _) h t
end Go.Proofs.YtjkiehmjffgnlaaGreatDoor
