/-
  Parts of the walks and plain laws of layer 10, joined: XmlLaws6 XmlF. Conditions: as each theorem states them.
-/
import Derived.Test.YtopogglcnnjdlaaGreatDoorXmlZ6
import Derived.Test.YtopogglcnnjdlaaGreatDoorXmlZ5
/-! XmlLaws6 -/
namespace Go.Proofs.YtopogglcnnjdlaaGreatDoor
set_option linter.unusedVariables false
set_option linter.unusedSimpArgs false

/-- what is read of the bytes behind a declaration. -/
def coreX (s : List UInt8) : Option NodeT :=
  match thenX (miscX (s.length + 1) s) fun _ r => thenX (elemX [] r) fun n r => thenX (miscX (r.length + 1) r) fun _ r => if r = [] then some (n, r) else none with
  | none => none
  | some (n, _) => some n
def declared (s : List UInt8) : Bool := [60, 63, 120, 109, 108].isPrefixOf s && decide (5 < s.length) && whC (s.getD 5 0)
def endsX (o : Option NodeT) : Except Int NodeT :=
  match o with
  | none => .error 30
  | some n => if goodT n then .ok n else .error 31
theorem parseX_eq (s : List UInt8) : parseX s = if 65536 < s.length then .error 5 else if lettersX s = false then .error 30 else
    endsX (if declared s then (match cutS [63, 62] s with | none => none | some (_, r) => coreX r) else coreX s) := by
  have key : ∀ r : List UInt8, (match thenX (miscX (r.length + 1) r) fun _ r => thenX (elemF (2 * r.length + 1) [] r) fun n r => thenX (miscX (r.length + 1) r) fun _ r => if r = [] then some (n, r) else none with
      | none => (.error 30 : Except Int NodeT)
      | some (n, _) => if goodT n then .ok n else .error 31) = endsX (coreX r) := fun r => by
    unfold coreX endsX
    show (match thenX (miscX (r.length + 1) r) fun _ r => thenX (elemX [] r) fun n r => thenX (miscX (r.length + 1) r) fun _ r => if r = [] then some (n, r) else none with
      | none => (.error 30 : Except Int NodeT)
      | some (n, _) => if goodT n then .ok n else .error 31) = _
    generalize (thenX (miscX (r.length + 1) r) fun _ r => thenX (elemX [] r) fun n r => thenX (miscX (r.length + 1) r) fun _ r => if r = [] then some (n, r) else none : X1 NodeT) = x
    rcases x with _ | ⟨n, q⟩ <;> rfl
  unfold parseX
  split
  · rfl
  · split
    · rfl
    · show (match (if declared s then (cutS [63, 62] s).map (·.2) else some s : Option (List UInt8)) with
        | none => (.error 30 : Except Int NodeT)
        | some s1 => _) = _
      by_cases hd : declared s = true
      · rw [if_pos hd, if_pos hd]
        rcases cutS [63, 62] s with _ | ⟨a, b⟩
        · rfl
        · exact key b
      · rw [if_neg hd, if_neg hd]
        exact key s
theorem misc_step (f : Nat) (s : List UInt8) : miscX (f + 1) s = if (whiteX s).length < s.length then miscX f (whiteX s) else
      match skipX s with
      | none => none
      | some (true, r) => miscX f r
      | some (false, _) => some ((), s) := rfl
theorem misc_fuel : ∀ (f g : Nat) (s : List UInt8), s.length < f → s.length < g → miscX f s = miscX g s
  | 0, _, _, h, _ => absurd h (Nat.not_lt_zero _)
  | _ + 1, 0, _, _, h => absurd h (Nat.not_lt_zero _)
  | f + 1, g + 1, s, h1, h2 => by
    rw [misc_step, misc_step]
    split
    · exact misc_fuel f g _ (by omega) (by omega)
    · split
      · rfl
      · rename_i r hs
        have := (skipX_true hs).1
        exact misc_fuel f g _ (by omega) (by omega)
      · rfl
theorem misc_len : ∀ (f : Nat) (s r : List UInt8) (u : Unit), miscX f s = some (u, r) → r.length ≤ s.length
  | 0, _, _, _, h => by cases h
  | f + 1, s, r, u, h => by
    rw [misc_step] at h
    split at h
    · have := misc_len f _ _ _ h
      omega
    · split at h
      · cases h
      · rename_i r1 hs
        have := (skipX_true hs).1
        have := misc_len f _ _ _ h
        omega
      · injection h with h
        injection h with _ h
        rw [h]
        exact Nat.le_refl _
/-- misc of s, asz a word of its own. -/
def miscS (s : List UInt8) : X1 Unit := miscX (s.length + 1) s
theorem miscS_eq (s : List UInt8) : miscS s = if (whiteX s).length < s.length then miscS (whiteX s) else
      match skipX s with
      | none => none
      | some (true, r) => miscS r
      | some (false, _) => some ((), s) := by
  conv => lhs; unfold miscS
  rw [misc_step]
  split
  · exact misc_fuel _ _ _ (by omega) (by omega)
  · split
    · rfl
    · rename_i r hs
      have := (skipX_true hs).1
      exact misc_fuel _ _ _ (by omega) (by omega)
    · rfl
theorem miscS_skip {s r : List UInt8} (h : skipX s = some (true, r)) : miscS s = miscS r := by
  obtain ⟨c, q, rfl, -⟩ := skip_head h
  rw [miscS_eq, xwhite_no (by decide), if_neg (Nat.lt_irrefl _), h]
theorem miscS_white {s : List UInt8} (h : (whiteX s).length < s.length) : miscS s = miscS (whiteX s) := by
  rw [miscS_eq, if_pos h]
theorem miscS_plain {s : List UInt8} (h : plainH s) (hw : whiteX s = s) : miscS s = some ((), s) := misc_plain h hw _
theorem white_stop {s : List UInt8} (h : ¬ (whiteX s).length < s.length) (hne : s ≠ []) : ∃ c q, s = c :: q ∧ whC c = false := by
  obtain ⟨c, q, rfl⟩ := List.exists_cons_of_ne_nil hne
  refine ⟨c, q, rfl, ?_⟩
  rcases hc : whC c with _ | _
  · rfl
  · exfalso
    apply h
    unfold whiteX
    rw [List.dropWhile_cons, if_pos hc]
    have := (List.dropWhile_suffix (l := q) whC).length_le
    simp only [List.length_cons]
    omega
/-- what stands behind makes no difference to what is skipped ahead of an element. -/
theorem misc_app : ∀ (n : Nat) (s r : List UInt8), s.length ≤ n → miscS s = some ((), r) → plainH r → ∀ t, miscS (s ++ t) = some ((), r ++ t)
  | n, s, r, hn, h, hp, t => by
    by_cases hne : s = []
    · subst hne
      have : miscS [] = some ((), []) := rfl
      rw [this] at h
      injection h with h
      injection h with _ h
      subst h
      obtain ⟨c, q, e, -⟩ := hp
      cases e
    · by_cases hw : (whiteX s).length < s.length
      · rw [miscS_white hw] at h
        have hw0 : whiteX s ≠ [] := by
          intro e
          rw [e] at h
          have : miscS [] = some ((), []) := rfl
          rw [this] at h
          injection h with h
          injection h with _ h
          subst h
          obtain ⟨c, q, e, -⟩ := hp
          cases e
        cases n with
        | zero => exact absurd (List.eq_nil_of_length_eq_zero (by omega)) hne
        | succ n =>
          rw [miscS_white (by rw [white_app hw0, List.length_append, List.length_append]; omega), white_app hw0]
          exact misc_app n _ r (by omega) h hp t
      · obtain ⟨c, q, hc, hcw⟩ := white_stop hw hne
        rw [miscS_eq, if_neg hw] at h
        split at h
        · cases h
        · rename_i r1 hs
          obtain ⟨l1, l2⟩ := skipX_true hs
          cases n with
          | zero => exact absurd (List.eq_nil_of_length_eq_zero (by omega)) hne
          | succ n =>
            rw [miscS_skip (l2 t)]
            exact misc_app n _ r (by omega) h hp t
        · injection h with h
          injection h with _ h
          subst h
          refine miscS_plain (hp.app t) ?_
          rw [hc, List.cons_append, xwhite_no hcw]
/-! noise -/
def noiseN (a : UInt8) : List UInt8 := [60, 33, 45, 45, 32, a, 32, 45, 32, 45, 45, 62]
def piN : List UInt8 := [60, 63, 112, 105, 32, 120, 63, 62]
theorem skip_noise {a : UInt8} (h1 : 97 ≤ a.toNat) (h2 : a.toNat ≤ 122) (t : List UInt8) : skipX (noiseN a ++ t) = some (true, t) := by
  have ha : (45 : UInt8) ≠ a := by intro e; subst e; revert h1; decide
  unfold skipX
  rw [show noiseN a ++ t = wCom ++ ([32, a, 32, 45, 32, 45, 45, 62] ++ t) from rfl, eatX_app]
  have hc : cutS [45, 45] ([32, a, 32, 45, 32, 45, 45, 62] ++ t) = some ([32, a, 32, 45, 32], 62 :: t) := by
    simp [cutS, List.isPrefixOf, ha]
  simp only
  rw [hc, thenX_mk, show eatX [62] (62 :: t) = some ((), t) from eatX_app [62] t]
  rfl
theorem skip_pi (t : List UInt8) : skipX (piN ++ t) = some (true, t) := by
  unfold skipX
  have h0 : eatX wCom (piN ++ t) = none := by
    unfold eatX
    rw [if_neg]
    simp [List.isPrefixOf, wCom, piN]
  rw [h0, show piN ++ t = [60, 63] ++ ([112, 105, 32, 120, 63, 62] ++ t) from rfl, eatX_app]
  simp only
  have hn : nameX ([112, 105, 32, 120, 63, 62] ++ t) = some ([112, 105], [32, 120, 63, 62] ++ t) := name_read (n := [112, 105]) (by decide) (fun c q e => by injection e with e _; subst e; decide)
  rw [hn, thenX_mk, if_neg (by decide)]
  have hc : cutS [63, 62] ([32, 120, 63, 62] ++ t) = some ([32, 120], t) := by simp [cutS, List.isPrefixOf]
  rw [hc]
  rfl
def tailN (a : UInt8) : List UInt8 := 10 :: (piN ++ noiseN a)
def preN (a : UInt8) (s : List UInt8) : List UInt8 := noiseN a ++ (32 :: 10 :: (noiseN a ++ s))
theorem misc_pre {a : UInt8} (h1 : 97 ≤ a.toNat) (h2 : a.toNat ≤ 122) (s : List UInt8) : miscS (preN a s) = miscS s := by
  unfold preN
  have hw : whiteX (32 :: 10 :: (noiseN a ++ s)) = noiseN a ++ s := by
    unfold whiteX
    rw [List.dropWhile_cons, if_pos (by decide), List.dropWhile_cons, if_pos (by decide)]
    exact xwhite_no (by decide) _
  rw [miscS_skip (skip_noise h1 h2 _), miscS_white (by rw [hw]; simp only [List.length_cons]; omega), hw, miscS_skip (skip_noise h1 h2 _)]
theorem misc_tail0 {a : UInt8} (h1 : 97 ≤ a.toNat) (h2 : a.toNat ≤ 122) : miscS (piN ++ noiseN a) = some ((), []) := by
  have := skip_noise h1 h2 []
  rw [List.append_nil] at this
  rw [miscS_skip (skip_pi _), miscS_skip this]
  rfl
theorem white_tail (a : UInt8) : whiteX (tailN a) = piN ++ noiseN a := by
  unfold whiteX tailN
  rw [List.dropWhile_cons, if_pos (by decide)]
  exact xwhite_no (by decide) _
theorem white_nil_app {s t : List UInt8} (h : whiteX s = []) : whiteX (s ++ t) = whiteX t := by
  induction s with
  | nil => rfl
  | cons c s ih =>
    unfold whiteX at h ⊢
    rw [List.dropWhile_cons] at h
    split at h
    · rename_i hc
      rw [List.cons_append, List.dropWhile_cons, if_pos hc]
      exact ih h
    · cases h
theorem misc_tail {a : UInt8} (h1 : 97 ≤ a.toNat) (h2 : a.toNat ≤ 122) : ∀ (n : Nat) (s : List UInt8), s.length ≤ n → miscS s = some ((), []) → miscS (s ++ tailN a) = some ((), [])
  | n, s, hn, h => by
    have t0 := misc_tail0 h1 h2
    by_cases hw0 : whiteX s = []
    · have hw := white_nil_app (t := tailN a) hw0
      rw [white_tail] at hw
      rw [miscS_white (by rw [hw]; unfold tailN; simp; omega), hw, t0]
    · have hne : s ≠ [] := by intro e; subst e; exact hw0 rfl
      by_cases hw : (whiteX s).length < s.length
      · rw [miscS_white hw] at h
        cases n with
        | zero => exact absurd (List.eq_nil_of_length_eq_zero (by omega)) hne
        | succ n =>
          rw [miscS_white (by rw [white_app hw0, List.length_append, List.length_append]; omega), white_app hw0]
          exact misc_tail h1 h2 n _ (by omega) h
      · rw [miscS_eq, if_neg hw] at h
        split at h
        · cases h
        · rename_i r1 hs
          obtain ⟨l1, l2⟩ := skipX_true hs
          cases n with
          | zero => exact absurd (List.eq_nil_of_length_eq_zero (by omega)) hne
          | succ n =>
            rw [miscS_skip (l2 _)]
            exact misc_tail h1 h2 n _ (by omega) h
        · injection h with h
          injection h with _ h
          exact absurd h hne
theorem coreX_S (s : List UInt8) : coreX s = match thenX (miscS s) fun _ r => thenX (elemX [] r) fun n r => thenX (miscS r) fun _ r => if r = [] then some (n, r) else none with
  | none => none
  | some (n, _) => some n := rfl
theorem core_some {s : List UInt8} {n : NodeT} (h : coreX s = some n) : ∃ r1 r2, miscS s = some ((), r1) ∧ elemX [] r1 = some (n, r2) ∧ miscS r2 = some ((), []) := by
  rw [coreX_S] at h
  split at h
  · cases h
  · rename_i n' q hx
    injection h with h
    subst h
    obtain ⟨u, r1, h1, h⟩ := thenX_some hx
    obtain ⟨n1, r2, h2, h⟩ := thenX_some h
    obtain ⟨u2, r3, h3, h⟩ := thenX_some h
    split at h
    · rename_i hr
      injection h with h
      injection h with h _
      subst h hr
      exact ⟨r1, r2, h1, h2, h3⟩
    · cases h
theorem core_mk {s r1 r2 : List UInt8} {n : NodeT} (h1 : miscS s = some ((), r1)) (h2 : elemX [] r1 = some (n, r2)) (h3 : miscS r2 = some ((), [])) : coreX s = some n := by
  rw [coreX_S, h1, thenX_mk, h2, thenX_mk, h3, thenX_mk, if_pos rfl]
theorem core_tail {a : UInt8} (h1 : 97 ≤ a.toNat) (h2 : a.toNat ≤ 122) {s : List UInt8} {n : NodeT} (h : coreX s = some n) : coreX (s ++ tailN a) = some n := by
  obtain ⟨r1, r2, e1, e2, e3⟩ := core_some h
  obtain ⟨c, q, hq, hc⟩ := elemX_head e2
  exact core_mk (misc_app _ s r1 (Nat.le_refl _) e1 ⟨60, c :: q, hq, .inr ⟨c, q, rfl, hc⟩⟩ _) (elemX_app e2 _) (misc_tail h1 h2 _ r2 (Nat.le_refl _) e3)
theorem core_pre {a : UInt8} (h1 : 97 ≤ a.toNat) (h2 : a.toNat ≤ 122) (s : List UInt8) : coreX (preN a s) = coreX s := by
  rw [coreX_S, coreX_S, misc_pre h1 h2]
/-- a declaration is no instruction. -/
theorem core_declared {s : List UInt8} (h : declared s = true) : coreX s = none := by
  unfold declared at h
  simp only [Bool.and_eq_true, decide_eq_true_eq] at h
  obtain ⟨⟨h1, h2⟩, h3⟩ := h
  rw [List.isPrefixOf_iff_prefix] at h1
  obtain ⟨t, rfl⟩ := h1
  rcases t with _ | ⟨c, t⟩
  · simp at h2
  · have hc : whC c = true := h3
    have ho : othC c = false := by
      have := u8_allX (fun c => !whC c || !othC c) (by decide +kernel) c
      simpa [hc] using this
    have hsk : skipX ([60, 63, 120, 109, 108] ++ c :: t) = none := by
      unfold skipX
      have h0 : eatX wCom ([60, 63, 120, 109, 108] ++ c :: t) = none := by
        unfold eatX
        rw [if_neg]
        simp [List.isPrefixOf, wCom]
      rw [h0, show [60, 63, 120, 109, 108] ++ c :: t = [60, 63] ++ ([120, 109, 108] ++ c :: t) from rfl, eatX_app]
      simp only
      rw [name_read (n := [120, 109, 108]) (by decide) (fun c' q e => by injection e with e _; rw [← e]; exact ho), thenX_mk, if_pos (by decide)]
    have : miscS ([60, 63, 120, 109, 108] ++ c :: t) = none := by
      rw [miscS_eq, show whiteX ([60, 63, 120, 109, 108] ++ c :: t) = [60, 63, 120, 109, 108] ++ c :: t from xwhite_no (by decide) _, if_neg (Nat.lt_irrefl _), hsk]
    rw [coreX_S, this]
    rfl
theorem letters_app2 {a : List UInt8} (h : lettersX a = true) (b : List UInt8) : lettersX (a ++ b) = lettersX b := letters_app a.length a b (Nat.le_refl _) h
theorem letters_noise {a : UInt8} (h1 : 97 ≤ a.toNat) (h2 : a.toNat ≤ 122) : lettersX (noiseN a) = true := by
  have ha : letC a.toNat = true := by unfold letC; rw [decide_eq_true_eq]; omega
  have e : noiseN a = [60, 33, 45, 45, 32] ++ (a :: [32, 45, 32, 45, 45, 62]) := rfl
  rw [e]
  refine letters_and (by decide +kernel) ?_
  rw [letters_ascii (by omega) ha]
  decide +kernel
theorem declared_app {s : List UInt8} (t : List UInt8) (h : declared s = true) : declared (s ++ t) = true := by
  unfold declared at h ⊢
  simp only [Bool.and_eq_true, decide_eq_true_eq] at h ⊢
  obtain ⟨⟨h1, h2⟩, h3⟩ := h
  exact ⟨⟨prefix_app h1 t, by rw [List.length_append]; omega⟩, by rw [getD_app h2]; exact h3⟩
theorem letters_pre {a : UInt8} (h1 : 97 ≤ a.toNat) (h2 : a.toNat ≤ 122) (s : List UInt8) : lettersX (preN a s) = lettersX s := by
  have hn := letters_noise h1 h2
  unfold preN
  generalize noiseN a = N at *
  rw [letters_app2 hn, letters_ascii (by decide) (by decide), letters_ascii (by decide) (by decide), letters_app2 hn]
theorem declared_pre (a : UInt8) (s : List UInt8) : declared (preN a s) = false := by
  unfold declared
  have : [60, 63, 120, 109, 108].isPrefixOf (preN a s) = false := by simp [List.isPrefixOf, preN, noiseN]
  rw [this]
  rfl
/-- P10.1: noise ahead of a text. -/
theorem parse_pre {a : UInt8} (h1 : 97 ≤ a.toNat) (h2 : a.toNat ≤ 122) {s : List UInt8} (hs : s.length ≤ 60000) : (declared s = false → parseX (preN a s) = parseX s) ∧ (declared s = true → ∀ n, parseX s = .ok n → parseX (preN a s) = .error 30) := by
  have hl : (preN a s).length = 26 + s.length := by unfold preN noiseN; simp; omega
  have n1 : ¬ 65536 < (preN a s).length := by omega
  have n2 : ¬ 65536 < s.length := by omega
  have k1 := letters_pre h1 h2 s
  have k2 := declared_pre a s
  have k3 := core_pre h1 h2 s
  generalize preN a s = P at *
  constructor
  · intro hd
    rw [parseX_eq P, parseX_eq s, if_neg n1, if_neg n2, k1, k2, hd, k3]
    simp only [Bool.false_eq_true, if_false]
  · intro hd n hn
    rw [parseX_eq s, if_neg n2] at hn
    split at hn
    · cases hn
    · rename_i hle
      rw [parseX_eq P, if_neg n1, k1, if_neg hle, k2, k3, if_neg (by simp), core_declared hd]
      rfl
theorem endsX_some {o : Option NodeT} {n : NodeT} (ho : endsX o = .ok n) : o = some n := by
  rcases o with _ | m
  · cases ho
  · unfold endsX at ho
    simp only at ho
    split at ho
    · injection ho with ho; rw [ho]
    · cases ho
theorem letters_tail {a : UInt8} (h1 : 97 ≤ a.toNat) (h2 : a.toNat ≤ 122) : lettersX (tailN a) = true := by
  have hn := letters_noise h1 h2
  unfold tailN
  generalize noiseN a = N at *
  rw [letters_ascii (by decide) (by decide)]
  exact letters_and (by decide +kernel) hn
/-- and behind it. -/
theorem parse_tail {a : UInt8} (h1 : 97 ≤ a.toNat) (h2 : a.toNat ≤ 122) {s : List UInt8} (hs : s.length ≤ 60000) {n : NodeT} (hn : parseX s = .ok n) : parseX (s ++ tailN a) = .ok n := by
  have hl : (tailN a).length = 21 := by unfold tailN piN noiseN; simp
  have lt := letters_tail h1 h2
  have hc1 := fun (x : List UInt8) (h : coreX x = some n) => core_tail h1 h2 h
  generalize tailN a = T at *
  have n1 : ¬ 65536 < (s ++ T).length := by rw [List.length_append]; omega
  have n2 : ¬ 65536 < s.length := by omega
  rw [parseX_eq s, if_neg n2] at hn
  by_cases hle : lettersX s = false
  · rw [if_pos hle] at hn; cases hn
  · rw [if_neg hle] at hn
    have hle' : lettersX s = true := by simpa using hle
    have hle2 : ¬ lettersX (s ++ T) = false := by rw [letters_app2 hle', lt]; simp
    rw [parseX_eq (s ++ T), if_neg n1, if_neg hle2]
    by_cases hd : declared s = true
    · rw [if_pos hd] at hn
      rw [if_pos (declared_app _ hd)]
      have h0 := endsX_some hn
      rcases hc : cutS [63, 62] s with _ | ⟨x, r⟩
      · rw [hc] at h0; cases h0
      · rw [hc] at h0 hn
        simp only at h0 hn
        rw [cut_app _ hc]
        simp only
        rw [hc1 _ h0, ← h0]
        exact hn
    · rw [if_neg hd] at hn
      have h0 := endsX_some hn
      have hd2 : ¬ declared (s ++ T) = true := by
        intro h
        apply hd
        have hcore := hc1 _ h0
        rw [core_declared h] at hcore
        cases hcore
      rw [if_neg hd2, hc1 _ h0, ← h0]
      exact hn
end Go.Proofs.YtopogglcnnjdlaaGreatDoor
/-! XmlF -/
namespace Go.Proofs.YtopogglcnnjdlaaGreatDoor
set_option linter.unusedVariables false
set_option linter.unusedSimpArgs false
open Go.RowKit

theorem skipX_eq (s : List UInt8) : skipX s = match eatX wCom s with
  | some (_, r) => thenX (cutS [45, 45] r) fun _ r => thenX (eatX [62] r) fun _ r => some (true, r)
  | none =>
    match eatX [60, 63] s with
    | some (_, r) => thenX (nameX r) fun n r => if foldX n then none else thenX (cutS [63, 62] r) fun _ r => some (true, r)
    | none => some (false, s) := rfl
set_option maxHeartbeats 4000000 in
set_option maxRecDepth 100000 in
set_option linter.unusedSimpArgs false in
theorem xskip_any (b : Nat) (s : List UInt8) (w : World) (h : PX w b s) (hs : s.length ≤ 1000000) (hE : XE w b) : Calls Tryz.prog 105 #[.pointer (some ⟨b, 0, none⟩)] w (XOut b (skipX s) boolV w) := by
  have HE1 := Lib.hid (xeat_any b s wCom w h)
  unfold wCom at HE1
  have HEt := Lib.hid (fun w s word (h : PX w b s) => xeat_any b s word w h)
  have HMu := Lib.hid (fun w s word (h : PX w b s) => xmust_any b s word w h)
  have HUp := Lib.hid (fun w1 s word (h : PX w1 b s) (hs : s.length ≤ 1000000) (hg : w.grownBy w1 (some b)) => xupto_any b s word w1 h (by omega) (hE.step hg))
  have HNm := Lib.hid (fun w s (h : PX w b s) (hs : s.length ≤ 1000000) => xpname_any b s w h (by omega))
  have HFo := Lib.hid (fun n w1 (hn : n.length ≤ 1000000) (hg : w.grownBy w1 (some b)) => xfold_any n w1 (by omega) (hE.step hg).at)
  have hX := skipX_eq s
  obtain ⟨ANS, hA⟩ : ∃ A, skipX s = A := ⟨_, rfl⟩
  rw [hA] at hX ⊢
  have HX := Lib.hid hX
  clear h hA hX hE
  go_enter Tryz.func105, Tryz.ntmps105
  go_wp2_with fail
  refine HE1.out.mono ?_
  rintro e w1 ⟨hg1, hx⟩
  clear HE1
  rcases h1 : eatX [60, 33, 45, 45] s with _ | ⟨u, r⟩
  · rw [h1] at hx
    obtain ⟨rfl, hp1⟩ := hx
    have HX1 := Lib.hid (show ANS = match eatX [60, 63] s with
      | some (_, r) => thenX (nameX r) fun n r => if foldX n then none else thenX (cutS [63, 62] r) fun _ r => some (true, r)
      | none => some (false, s) by rw [HX.out]; unfold wCom; rw [h1])
    have HP1 := Lib.hid hp1
    have HG1 := Lib.hid hg1
    clear h1 hp1 hg1 HX
    go_wp2_with fail
    refine (HEt.out w1 s [60, 63] HP1.out).mono ?_
    rintro e w2 ⟨hg2, hx2⟩
    have hg2' := grown_trans HG1.out hg2
    rcases h2 : eatX [60, 63] s with _ | ⟨u, r⟩
    · rw [h2] at hx2 HX1
      obtain ⟨rfl, hp2⟩ := hx2
      have HP2 := Lib.hid hp2
      have HG2 := Lib.hid hg2'
      clear h2 hp2 hg2 hg2' HP1 HG1
      go_wp2
      go_ret
      exact xout_ok HX1.out HG2.out rfl HP2.out
    · rw [h2] at hx2 HX1
      obtain ⟨rfl, hp2⟩ := hx2
      have hl2 := eat_lenX h2
      have HP2 := Lib.hid hp2
      have HG2 := Lib.hid hg2'
      clear h2 hp2 hg2 hg2' HP1 HG1
      go_wp2_with fail
      refine (HNm.out w2 r HP2.out (by omega)).mono ?_
      rintro e w3 ⟨hg3, hx3⟩
      have hg3' := grown_trans HG2.out hg3
      rcases h3 : nameX r with _ | ⟨n, r3⟩
      · rw [h3] at hx3 HX1
        subst hx3
        exact ⟨rfl, xout_no HX1.out hg3'⟩
      · rw [h3] at hx3
        obtain ⟨v, rfl, rfl, hp3⟩ := hx3
        have HX3 := Lib.hid (show ANS = if foldX n then none else thenX (cutS [63, 62] r3) fun _ r => some (true, r) by rw [HX1.out]; show thenX (nameX r) _ = _; rw [h3]; rfl)
        have hl3 := nameX_len h3
        have hln : n.length ≤ 1000000 := by
          have := congrArg List.length (nameX_some h3).1
          rw [List.length_append] at this
          omega
        have HP3 := Lib.hid hp3
        have HG3 := Lib.hid hg3'
        have HFn := Lib.hid (HFo.out n w3 hln HG3.out)
        clear h3 hp3 hg3 hg3' HP2 HG2 HX1 HFo
        go_wp2_with fail
        refine HFn.out.mono ?_
        rintro e w4 ⟨rfl, hb4⟩
        have HP4 := Lib.hid (HP3.out.below hb4)
        have HG4 := Lib.hid (grown_trans HG3.out (Below.toGrown hb4 (some b)))
        clear hb4 HP3 HG3 HFn
        cases hf : foldX n
        · rw [hf] at HX3
          clear hf
          go_wp2_with fail
          refine (HUp.out w4 r3 [63, 62] HP4.out (by omega) HG4.out).mono ?_
          rintro e w5 ⟨hg5, hx5⟩
          have hg5' := grown_trans HG4.out hg5
          rcases h5 : cutS [63, 62] r3 with _ | ⟨a, r5⟩
          · rw [h5] at hx5 HX3
            subst hx5
            exact ⟨rfl, xout_no HX3.out hg5'⟩
          · rw [h5] at hx5 HX3
            obtain ⟨v, rfl, rfl, hp5⟩ := hx5
            have HP5 := Lib.hid hp5
            have HG5 := Lib.hid hg5'
            clear h5 hp5 hg5 hg5' HP4 HG4
            go_wp2
            go_ret
            exact xout_ok HX3.out HG5.out rfl HP5.out
        · rw [hf] at HX3
          clear hf
          go_wp2_with fail
          refine (xfail_any _).mono ?_
          rintro e w5 ⟨rfl, rfl⟩
          exact ⟨rfl, xout_no HX3.out HG4.out⟩
  · rw [h1] at hx
    obtain ⟨rfl, hp1⟩ := hx
    have HX1 := Lib.hid (show ANS = thenX (cutS [45, 45] r) fun _ r => thenX (eatX [62] r) fun _ r => some (true, r) by rw [HX.out]; unfold wCom; rw [h1])
    have hl1 := eat_lenX h1
    have HP1 := Lib.hid hp1
    have HG1 := Lib.hid hg1
    clear h1 hp1 hg1 HX
    go_wp2_with fail
    refine (HUp.out w1 r [45, 45] HP1.out (by omega) HG1.out).mono ?_
    rintro e w2 ⟨hg2, hx2⟩
    have hg2' := grown_trans HG1.out hg2
    rcases h2 : cutS [45, 45] r with _ | ⟨a, r2⟩
    · rw [h2] at hx2 HX1
      subst hx2
      exact ⟨rfl, xout_no HX1.out hg2'⟩
    · rw [h2] at hx2 HX1
      obtain ⟨v, rfl, rfl, hp2⟩ := hx2
      have HP2 := Lib.hid hp2
      have HG2 := Lib.hid hg2'
      clear h2 hp2 hg2 hg2' HP1 HG1
      go_wp2_with fail
      refine (HMu.out w2 r2 [62] HP2.out).mono ?_
      rintro e w3 ⟨hg3, hx3⟩
      have hg3' := grown_trans HG2.out hg3
      rcases h3 : eatX [62] r2 with _ | ⟨u, r3⟩
      · rw [h3] at hx3
        have HX2 := Lib.hid (show ANS = none by rw [HX1.out]; show thenX (eatX [62] r2) _ = _; rw [h3]; rfl)
        subst hx3
        exact ⟨rfl, xout_no HX2.out hg3'⟩
      · rw [h3] at hx3
        have HX2 := Lib.hid (show ANS = some (true, r3) by rw [HX1.out]; show thenX (eatX [62] r2) _ = _; rw [h3]; rfl)
        obtain ⟨v, rfl, rfl, hp3⟩ := hx3
        have HP3 := Lib.hid hp3
        have HG3 := Lib.hid hg3'
        clear h3 hp3 hg3 hg3' HP2 HG2 HX1
        go_wp2
        go_ret
        exact xout_ok HX2.out HG3.out rfl HP3.out
theorem white_same {s : List UInt8} (h : ¬ (whiteX s).length < s.length) : whiteX s = s := by
  rcases s with _ | ⟨c, q⟩
  · rfl
  · obtain ⟨c', q', e, hc⟩ := white_stop h (by simp)
    rw [e]
    exact xwhite_no hc _
set_option maxHeartbeats 4000000 in
set_option maxRecDepth 100000 in
set_option linter.unusedSimpArgs false in
theorem xmisc_any (b : Nat) (s : List UInt8) (w : World) (h : PX w b s) (hs : s.length ≤ 1000000) (hE : XE w b) : Calls Tryz.prog 59 #[.pointer (some ⟨b, 0, none⟩)] w (XOut b (miscS s) noV w) := by
  have HW := Lib.hid (fun w s (h : PX w b s) => xwhite_any b s w h)
  have HSk := Lib.hid (fun w1 s (h : PX w1 b s) (hs : s.length ≤ 1000000) (hg : w.grownBy w1 (some b)) => xskip_any b s w1 h hs (hE.step hg))
  have H := Lib.hid h
  obtain ⟨ANS, hA⟩ : ∃ A, miscS s = A := ⟨_, rfl⟩
  rw [hA]
  have HA := Lib.hid hA
  clear h hA hE
  go_enter Tryz.func59, Tryz.ntmps59
  go_wp2_with fail
  go_loopg [7] s.length (fun g _ wr => ∃ s' : List UInt8, s'.length ≤ g ∧ s'.length ≤ 1000000 ∧ PX wr b s' ∧ w.grownBy wr (some b) ∧ Hid (miscS s' = ANS))
  case atStart => exact ⟨s, Nat.le_refl _, hs, H.out, World.grownBy.refl _ _, HA⟩
  case round =>
    obtain ⟨s', hl, hl2, hp, hg, HK⟩ := hrel
    have HP := Lib.hid hp
    have HG := Lib.hid hg
    clear hp hg H HA
    go_wp2_with fail
    refine (HW.out wr s' HP.out).mono ?_
    rintro e w1 ⟨hg1, rfl, hp1⟩
    have hg1' := grown_trans HG.out hg1
    have HP1 := Lib.hid hp1
    have HG1 := Lib.hid hg1'
    by_cases hw : (whiteX s').length < s'.length
    · have hd : decide ((whiteX s').length < s'.length) = true := decide_eq_true hw
      have HK1 := Lib.hid (show miscS (whiteX s') = ANS by rw [← HK.out, miscS_white hw])
      rw [hd]
      clear hp1 hg1 hg1' HP HG HK hd
      go_wp2
      go_roundg (whiteX s').length
      case measure => omega
      case rel => exact ⟨whiteX s', Nat.le_refl _, by omega, HP1.out, HG1.out, HK1⟩
    · have hd : decide ((whiteX s').length < s'.length) = false := decide_eq_false hw
      rw [hd]
      have hws := white_same hw
      rw [hws] at HP1
      have hKe := miscS_eq s'
      rw [if_neg hw, HK.out] at hKe
      have HKe := Lib.hid hKe
      clear hp1 hg1 hg1' HP HG HK hd hws hKe
      go_wp2_with fail
      refine (HSk.out w1 s' HP1.out hl2 HG1.out).mono ?_
      rintro e w2 ⟨hg2, hx2⟩
      have hg2' := grown_trans HG1.out hg2
      rcases h2 : skipX s' with _ | ⟨t, r⟩
      · rw [h2] at hx2 HKe
        subst hx2
        exact ⟨rfl, xout_no HKe.out hg2'⟩
      · rw [h2] at hx2 HKe
        obtain ⟨v, rfl, rfl, hp2⟩ := hx2
        cases t
        · have he := (skipX_false h2).1
          subst he
          have HP2 := Lib.hid hp2
          have HG2 := Lib.hid hg2'
          clear h2 hp2 hg2 hg2' HP1 HG1
          go_wp2
          go_end0
          exact xout_ok HKe.out HG2.out rfl HP2.out
        · have hlr := (skipX_true h2).1
          have HP2 := Lib.hid hp2
          have HG2 := Lib.hid hg2'
          have HK2 := Lib.hid (show miscS r = ANS from HKe.out.symm)
          clear h2 hp2 hg2 hg2' HP1 HG1 HKe
          go_wp2
          go_roundg r.length
          case measure => omega
          case rel => exact ⟨r, Nat.le_refl _, by omega, HP2.out, HG2.out, HK2⟩
end Go.Proofs.YtopogglcnnjdlaaGreatDoor
