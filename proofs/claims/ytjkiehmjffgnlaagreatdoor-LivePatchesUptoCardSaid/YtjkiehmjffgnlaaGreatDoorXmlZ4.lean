import Derived.Test.YtjkiehmjffgnlaaGreatDoorXmlZ3
import Derived.Test.YtjkiehmjffgnlaaGreatDoorUtf8
import Derived.Lib.Replace
import Derived.Lib.SlTrimSet
import Derived.Lib.IndexAny
import Derived.Test.YtjkiehmjffgnlaaGreatDoorXmlZ1
namespace Go.Proofs.YtjkiehmjffgnlaaGreatDoor
set_option linter.unusedVariables false
set_option linter.unusedSimpArgs false
open Go.Lib

theorem decode_same {l m : List UInt8} (h : okL l = true) (hl : l ≠ []) (hm : (decodeL l).2 ≤ m.length) (hj : ∀ j, j < (decodeL l).2 → m.getD j 0 = l.getD j 0) : decodeL m = decodeL l ∧ (decodeL l).2 ≤ l.length := by
  have hle := decodeL_le l hl
  refine ⟨?_, hle⟩
  have e := decodeL_N l
  unfold okL at h
  rw [decodeL_N m]
  unfold decodeN at e ⊢
  have g0 : 0 < (decodeL l).2 → (m.getD 0 0).toNat = (l.getD 0 0).toNat := fun h => by rw [hj 0 h]
  have g1 : 1 < (decodeL l).2 → (m.getD 1 0).toNat = (l.getD 1 0).toNat := fun h => by rw [hj 1 h]
  have g2 : 2 < (decodeL l).2 → (m.getD 2 0).toNat = (l.getD 2 0).toNat := fun h => by rw [hj 2 h]
  have g3 : 3 < (decodeL l).2 → (m.getD 3 0).toNat = (l.getD 3 0).toNat := fun h => by rw [hj 3 h]
  have hw := decodeL_width l
  have no : decodeL l ≠ (65533, 1) := by
    intro e2
    rw [e2] at h
    simp at h
  split at e
  · rename_i h0
    rw [e] at g0 hm ⊢
    have := g0 Nat.zero_lt_one
    rw [if_pos (by omega), this]
  · rename_i h0
    split at e
    · rename_i h1
      split at e
      · rename_i h2
        rw [e] at g0 g1 hm ⊢
        simp only at g0 g1 hm
        have k0 := g0 (by omega)
        have k1 := g1 (by omega)
        rw [k0, k1, if_neg h0, if_pos ⟨h1.1, by omega, h1.2.2⟩, if_pos h2]
      · exact absurd e no
    · rename_i h1
      split at e
      · rename_i h2
        split at e
        · rename_i h3
          rw [e] at g0 g1 g2 hm ⊢
          simp only at g0 g1 g2 hm
          have k0 := g0 (by omega)
          have k1 := g1 (by omega)
          have k2 := g2 (by omega)
          rw [k0, k1, k2, if_neg h0, if_neg (by omega), if_pos ⟨h2.1, ⟨by omega, h2.2.1.2⟩, by omega, h2.2.2.2⟩, if_pos h3]
        · exact absurd e no
      · rename_i h2
        split at e
        · rename_i h3
          split at e
          · rename_i h4
            rw [e] at g0 g1 g2 g3 hm ⊢
            simp only at g0 g1 g2 g3 hm
            have k0 := g0 (by omega)
            have k1 := g1 (by omega)
            have k2 := g2 (by omega)
            have k3 := g3 (by omega)
            rw [k0, k1, k2, k3, if_neg h0, if_neg (by omega), if_neg (by omega), if_pos ⟨h3.1, ⟨by omega, h3.2.1.2⟩, ⟨by omega, h3.2.2.1.2⟩, by omega, h3.2.2.2.2⟩, if_pos h4]
          · exact absurd e no
        · exact absurd e no
theorem allL_fuel : ∀ (n m : Nat) (l : List UInt8), l.length ≤ n → l.length ≤ m → allL n l = allL m l
  | 0, 0, _, _, _ => rfl
  | 0, m + 1, l, h, _ => by
    have : l = [] := List.eq_nil_of_length_eq_zero (by omega)
    subst this
    rfl
  | n + 1, 0, l, _, h => by
    have : l = [] := List.eq_nil_of_length_eq_zero (by omega)
    subst this
    rfl
  | n + 1, m + 1, l, h1, h2 => by
    unfold allL
    split
    · rfl
    · have := decodeL_width l
      rw [allL_fuel n m _ (by rw [List.length_drop]; omega) (by rw [List.length_drop]; omega)]
theorem letters_nil : lettersX [] = true := rfl
theorem letters_step {l : List UInt8} (hne : l ≠ []) : lettersX l = (okL l && letC (decodeL l).1 && lettersX (l.drop (decodeL l).2)) := by
  have hw := decodeL_width l
  have hpos := List.length_pos_iff.2 hne
  unfold lettersX
  rw [valid_ok hne]
  obtain ⟨n, hn⟩ : ∃ n, l.length = n + 1 := ⟨l.length - 1, by omega⟩
  have e : allL l.length l = (letC (decodeL l).1 && allL (l.drop (decodeL l).2).length (l.drop (decodeL l).2)) := by
    rw [hn]
    conv => lhs; unfold allL
    rw [if_neg hne, allL_fuel n (l.drop (decodeL l).2).length _ (by rw [List.length_drop]; omega) (Nat.le_refl _)]
  rw [e]
  generalize allL (l.drop (decodeL l).2).length (l.drop (decodeL l).2) = A
  generalize validD (l.drop (decodeL l).2) = B
  cases okL l <;> cases letC (decodeL l).1 <;> cases A <;> cases B <;> rfl
theorem getD_app {l t : List UInt8} {j : Nat} (h : j < l.length) : (l ++ t).getD j 0 = l.getD j 0 := by
  rw [List.getD_eq_getElem?_getD, List.getD_eq_getElem?_getD, List.getElem?_append_left h]
theorem letters_app : ∀ (n : Nat) (a b : List UInt8), a.length ≤ n → lettersX a = true → lettersX (a ++ b) = lettersX b
  | 0, a, b, h, _ => by
    have : a = [] := List.eq_nil_of_length_eq_zero (by omega)
    subst this
    rfl
  | n + 1, a, b, h, ha => by
    by_cases hne : a = []
    · subst hne; rfl
    · rw [letters_step hne] at ha
      simp only [Bool.and_eq_true] at ha
      obtain ⟨⟨h1, h2⟩, h3⟩ := ha
      have hw := decodeL_width a
      obtain ⟨e, hle⟩ := decode_same h1 hne (m := a ++ b) (by rw [List.length_append]; have := decodeL_le a hne; omega) (fun j hj => getD_app (by have := decodeL_le a hne; omega))
      have hok : okL (a ++ b) = true := by unfold okL; rw [e]; exact h1
      rw [letters_step (by simp [hne]), e, hok, h2, List.drop_append_of_le_length hle]
      exact letters_app n _ b (by rw [List.length_drop]; omega) h3
theorem letters_and {a b : List UInt8} (ha : lettersX a = true) (hb : lettersX b = true) : lettersX (a ++ b) = true := by
  rw [letters_app _ a b (Nat.le_refl _) ha, hb]
theorem letters_ascii {c : UInt8} (h : c.toNat < 128) (hl : letC c.toNat = true) (l : List UInt8) : lettersX (c :: l) = lettersX l := by
  rw [letters_step (by simp), decodeL_ascii c l h]
  have : okL (c :: l) = true := by
    unfold okL
    rw [decodeL_ascii c l h]
    simp only [Bool.not_eq_true', decide_eq_false_iff_not]
    omega
  rw [this, hl]
  rfl
theorem u8_allX (p : UInt8 → Bool) (h : ∀ n : Fin 256, p (UInt8.ofNat n.val) = true) (c : UInt8) : p c = true := by
  have := h ⟨c.toNat, c.toNat_lt⟩
  simpa using this
theorem short_parts {s : List UInt8} (h : shortX s = true) : nameOk s = true ∧ s.length ≤ 60 ∧ lettersX s = true := by
  unfold shortX at h
  simp only [Bool.and_eq_true, decide_eq_true_eq] at h
  exact ⟨h.1.1, h.1.2, h.2⟩
theorem attrsOk_cons {seen : List (List UInt8)} {a : AttrT} {r : List AttrT} (h : attrsOk seen (a :: r) = true) : shortX a.name = true ∧ a.name ≠ wXmlns ∧ a.name ∉ seen ∧ lettersX a.value = true ∧ attrsOk (a.name :: seen) r = true := by
  unfold attrsOk at h
  simp only [Bool.and_eq_true, Bool.not_eq_true', decide_eq_false_iff_not] at h
  exact ⟨h.1.1.1.1, h.1.1.1.2, h.1.1.2, h.1.2, h.2⟩
theorem goodN_text {d : Nat} {t s n : List UInt8} {asz : List AttrT} {ks : List NodeT} (hn : n = []) (h : goodN d (.mk t s n asz ks) = true) : t ≠ [] ∧ lettersX t = true ∧ s = [] ∧ asz = [] ∧ ks = [] := by
  unfold goodN at h
  rw [if_pos hn] at h
  simp only [Bool.and_eq_true, Bool.not_eq_true', decide_eq_false_iff_not, decide_eq_true_eq, List.isEmpty_iff] at h
  exact ⟨h.1.1.1.1, h.1.1.1.2, h.1.1.2, h.1.2, h.2⟩
theorem goodN_elem {d : Nat} {t s n : List UInt8} {asz : List AttrT} {ks : List NodeT} (hn : n ≠ []) (h : goodN d (.mk t s n asz ks) = true) :
    d < 16 ∧ t = [] ∧ shortX n = true ∧ s.length ≤ 60 ∧ lettersX s = true ∧ attrsOk [] asz = true ∧ noTwo ks = true ∧ goodL (d + 1) ks = true := by
  unfold goodN at h
  rw [if_neg hn] at h
  simp only [Bool.and_eq_true, decide_eq_true_eq] at h
  exact ⟨h.1.1.1.1.1.1.1, h.1.1.1.1.1.1.2, h.1.1.1.1.1.2, h.1.1.1.1.2, h.1.1.1.2, h.1.1.2, h.1.2, h.2⟩
theorem goodL_cons {d : Nat} {k : NodeT} {r : List NodeT} (h : goodL d (k :: r) = true) : goodN d k = true ∧ goodL d r = true := by
  unfold goodL at h
  simpa only [Bool.and_eq_true] using h
end Go.Proofs.YtjkiehmjffgnlaaGreatDoor
namespace Go.Proofs.YtjkiehmjffgnlaaGreatDoor
set_option linter.unusedVariables false
set_option linter.unusedSimpArgs false

def crlfX : List UInt8 → List UInt8
  | [] => []
  | [c] => [c]
  | c :: d :: r => if c = 13 ∧ d = 10 then 10 :: crlfX r else c :: crlfX (d :: r)
def crX (s : List UInt8) : List UInt8 := s.map fun c => if c = 13 then 10 else c
theorem lines_two : ∀ s : List UInt8, linesX s = crX (crlfX s)
  | [] => rfl
  | [c] => by
    unfold linesX crlfX crX
    by_cases h : c = 13 <;> simp [h]
  | c :: d :: r => by
    unfold linesX crlfX
    by_cases h : c = 13
    · by_cases h2 : d = 10
      · rw [if_pos h, if_pos h2, if_pos ⟨h, h2⟩, lines_two r]
        rfl
      · rw [if_pos h, if_neg h2, if_neg (fun hh => h2 hh.2), lines_two (d :: r), h]
        rfl
    · rw [if_neg h, if_neg (fun hh => h hh.1), lines_two (d :: r)]
      unfold crX
      rw [List.map_cons, if_neg h]
/-- one word for another, by the cuts at it. -/
theorem rep_cut {old new : List UInt8} (G : List UInt8 → List UInt8) (hG : ∀ s, G s = match cutS old s with | none => s | some (a, b) => a ++ (new ++ G b)) (ho : 1 ≤ old.length) :
    ∀ (n : Nat) (s : List UInt8), s.length ≤ n → Lib.replaceK old new (Lib.count s old) s = G s := by
  intro n
  induction n with
  | zero =>
    intro s hs
    have : s = [] := List.eq_nil_of_length_eq_zero (by omega)
    subst this
    have hi : Lib.index [] old = -1 := by
      unfold Lib.index
      have : old.isEmpty = false := by cases old with | nil => simp at ho | cons => rfl
      rw [this]; rfl
    have hc : cutS old [] = none := by
      unfold cutS
      rw [if_neg (by intro e; rw [e] at ho; simp at ho)]
    rw [Lib.count_miss hi, hG, hc]
    rfl
  | succ n ih =>
    intro s hs
    have hx := index_cut old s
    rw [hG]
    rcases hc : cutS old s with _ | ⟨a, b⟩
    · rw [hc] at hx
      simp only at hx
      rw [Lib.count_miss hx]
      rfl
    · rw [hc] at hx
      simp only at hx
      obtain ⟨h1, h2⟩ := hx
      have hlen := congrArg List.length h2
      rw [List.length_append, List.length_append] at hlen
      have e1 : s.drop (a.length + old.length) = b := by rw [h2, ← List.append_assoc, ← List.length_append, List.drop_left]
      have e2 : s.take a.length = a := by rw [h2, List.take_left]
      have hcnt : Lib.count s old = Lib.count b old + 1 := by
        have := Lib.count_hit (s := s) (sub := old) (i := a.length) (by intro e; rw [e] at ho; simp at ho) h1
        rw [e1] at this
        omega
      rw [hcnt, Lib.replaceK_hit old new _ s a.length h1, e1, e2, ih b (by omega)]
      simp
theorem crlf_hit (r : List UInt8) : crlfX (13 :: 10 :: r) = 10 :: crlfX r := by rw [crlfX, if_pos ⟨rfl, rfl⟩]
theorem crlf_miss {x d : UInt8} {r : List UInt8} (h : ¬ (x = 13 ∧ d = 10)) : crlfX (x :: d :: r) = x :: crlfX (d :: r) := by rw [crlfX, if_neg h]
theorem crlf_cut (s : List UInt8) : crlfX s = match cutS [13, 10] s with | none => s | some (a, b) => a ++ ([10] ++ crlfX b) := by
  induction s with
  | nil => rfl
  | cons x r ih =>
    have hcut : cutS [13, 10] (x :: r) = if [13, 10].isPrefixOf (x :: r) then some ([], (x :: r).drop 2) else (cutS [13, 10] r).map fun p => (x :: p.1, p.2) := rfl
    rw [hcut]
    cases r with
    | nil =>
      have : [13, 10].isPrefixOf [x] = false := by simp [List.isPrefixOf]
      rw [this]
      rfl
    | cons d r =>
      by_cases h : x = 13 ∧ d = 10
      · obtain ⟨rfl, rfl⟩ := h
        rw [if_pos (by simp [List.isPrefixOf]), crlf_hit]
        rfl
      · have hp : [13, 10].isPrefixOf (x :: d :: r) = false := by
          rcases Decidable.not_and_iff_or_not.1 h with h | h
          · simp [List.isPrefixOf, Ne.symm h]
          · simp [List.isPrefixOf, Ne.symm h]
        rw [hp, crlf_miss h, ih]
        rcases cutS [13, 10] (d :: r) with _ | ⟨a, b⟩ <;> rfl
theorem cr_cut (s : List UInt8) : crX s = match cutS [13] s with | none => s | some (a, b) => a ++ ([10] ++ crX b) := by
  induction s with
  | nil => rfl
  | cons x r ih =>
    have hcut : cutS [13] (x :: r) = if [13].isPrefixOf (x :: r) then some ([], (x :: r).drop 1) else (cutS [13] r).map fun p => (x :: p.1, p.2) := rfl
    rw [hcut]
    by_cases h : x = 13
    · subst h
      rw [if_pos (by simp [List.isPrefixOf])]
      rfl
    · have hp : [13].isPrefixOf (x :: r) = false := by simp [List.isPrefixOf, Ne.symm h]
      rw [hp]
      show (if x = 13 then (10 : UInt8) else x) :: crX r = _
      rw [if_neg h, ih]
      rcases cutS [13] r with _ | ⟨a, b⟩ <;> rfl
theorem replaceAll_crlf (s : List UInt8) : Lib.replaceAll s [13, 10] [10] = crlfX s := by
  show Lib.replace s [13, 10] [10] (-1) = _
  unfold Lib.replace Lib.replaceNum
  rw [if_neg (by decide), if_pos (.inl (by decide))]
  exact rep_cut crlfX crlf_cut (by decide) _ s (Nat.le_refl _)
theorem replaceAll_cr (s : List UInt8) : Lib.replaceAll s [13] [10] = crX s := by
  show Lib.replace s [13] [10] (-1) = _
  unfold Lib.replace Lib.replaceNum
  rw [if_neg (by decide), if_pos (.inl (by decide))]
  exact rep_cut crX cr_cut (by decide) _ s (Nat.le_refl _)
theorem trimLeft_white (s : List UInt8) : Lib.trimLeftS s [9, 10, 13, 32] = whiteX s := by
  unfold Lib.trimLeftS whiteX
  congr 1
  funext c
  have := u8_allX (fun c => ([9, 10, 13, 32] : List UInt8).contains c == whC c) (by decide +kernel) c
  simpa using this
theorem indexAny_stop (s : List UInt8) : (s.dropWhile (fun c => !stopC c) = [] ∧ Lib.indexAny s [38, 60] = -1 ∧ Lib.indexAny s [60, 38] = -1) ∨
    (s.dropWhile (fun c => !stopC c) ≠ [] ∧ Lib.indexAny s [38, 60] = (s.takeWhile fun c => !stopC c).length ∧ Lib.indexAny s [60, 38] = (s.takeWhile fun c => !stopC c).length) := by
  induction s with
  | nil => exact .inl ⟨rfl, rfl, rfl⟩
  | cons x s ih =>
    have e1 : ([38, 60] : List UInt8).contains x = stopC x := by
      have := u8_allX (fun c => ([38, 60] : List UInt8).contains c == stopC c) (by decide +kernel) x
      simpa using this
    have e2 : ([60, 38] : List UInt8).contains x = stopC x := by
      have := u8_allX (fun c => ([60, 38] : List UInt8).contains c == stopC c) (by decide +kernel) x
      simpa using this
    unfold Lib.indexAny
    rw [e1, e2, List.dropWhile_cons, List.takeWhile_cons]
    cases hx : stopC x
    · simp only [Bool.not_false, if_true]
      rcases ih with ⟨h1, h2, h3⟩ | ⟨h1, h2, h3⟩
      · exact .inl ⟨h1, by rw [h2]; rfl, by rw [h3]; rfl⟩
      · refine .inr ⟨h1, ?_, ?_⟩
        · have : (Lib.indexAny s [38, 60] == -1) = false := by rw [h2, beq_eq_false_iff_ne]; omega
          rw [this, h2]
          simp
        · have : (Lib.indexAny s [60, 38] == -1) = false := by rw [h3, beq_eq_false_iff_ne]; omega
          rw [this, h3]
          simp
    · exact .inr ⟨by simp, rfl, rfl⟩
end Go.Proofs.YtjkiehmjffgnlaaGreatDoor
namespace Go.Proofs.YtjkiehmjffgnlaaGreatDoor
set_option linter.unusedVariables false
set_option linter.unusedSimpArgs false
open Go.RowKit

theorem ascii4 : ∀ (j : Nat) (b : UInt8), (⟨#[9, 10, 13, 32]⟩ : ByteArray).data.toList[j]? = some b → b.toNat < 128 := fun j b h =>
  (show ∀ b ∈ ([9, 10, 13, 32] : List UInt8), b.toNat < 128 by decide) b (List.mem_of_getElem? h)
set_option maxHeartbeats 400000 in
set_option maxRecDepth 100000 in
set_option linter.unusedSimpArgs false in
theorem xfail_any (w : World) : Calls Tryz.prog 64 #[] w (fun e w' => e = .panicked brokenE ∧ w = w') := by
  go_enter Tryz.func64, Tryz.ntmps64
  go_wp2
  exact ⟨rfl, rfl, rfl⟩
def EatP (b : Nat) (s word : List UInt8) (w : World) (e : Ending) (w' : World) : Prop := w.grownBy w' (some b) ∧ match eatX word s with
  | some (_, r) => e = .returned (.bool true) ∧ PX w' b r
  | none => e = .returned (.bool false) ∧ PX w' b s
theorem trimP_eq (s p : List UInt8) : Lib.trimPrefix s p = if p.isPrefixOf s then s.drop p.length else s := by
  unfold Lib.trimPrefix Lib.hasPrefix
  rfl
set_option maxHeartbeats 400000 in
set_option maxRecDepth 100000 in
set_option linter.unusedSimpArgs false in
theorem xeat_any (b : Nat) (s word : List UInt8) (w : World) (h : PX w b s) : Calls Tryz.prog 90 #[.pointer (some ⟨b, 0, none⟩), .string ⟨word.toArray⟩] w (EatP b s word w) := by
  have c0 := h.c0
  have f0 := h.f0
  have H := Lib.hid h
  have HCut := Lib.hid (xcutPrefix_any s word w)
  have hE := Lib.hid (show eatX word s = if word.isPrefixOf s then some ((), s.drop word.length) else none from rfl)
  rw [trimP_eq] at HCut
  obtain ⟨E, hEE⟩ : ∃ E, E = EatP b s word w := ⟨_, rfl⟩
  rw [← hEE]
  have HEE := Lib.hid hEE
  clear h hEE
  cases hp : word.isPrefixOf s
  · rw [hp] at HCut hE
    have HS := Lib.hid (H.out.set s)
    clear hp
    go_enter Tryz.func90, Tryz.ntmps90
    go_wp2_with fail
    refine HCut.out.mono ?_
    rintro e w1 ⟨rfl, rfl⟩
    go_wp2
    try go_ret
    rw [HEE.out]
    refine ⟨xgrown_cell _ _ _ _, ?_⟩
    rw [hE.out]
    exact ⟨rfl, HS.out⟩
  · rw [hp] at HCut hE
    have HS := Lib.hid (H.out.set (s.drop word.length))
    clear hp
    go_enter Tryz.func90, Tryz.ntmps90
    go_wp2_with fail
    refine HCut.out.mono ?_
    rintro e w1 ⟨rfl, rfl⟩
    go_wp2
    try go_ret
    rw [HEE.out]
    refine ⟨xgrown_cell _ _ _ _, ?_⟩
    rw [hE.out]
    exact ⟨rfl, HS.out⟩
def noV {α : Type} (_ : World) (v : Value) (_ : α) : Prop := v = .tuple #[]
def strV (_ : World) (v : Value) (a : List UInt8) : Prop := v = .string ⟨a.toArray⟩
def boolV (_ : World) (v : Value) (a : Bool) : Prop := v = .bool a
def pairV (_ : World) (v : Value) (a : List UInt8 × List UInt8) : Prop := v = .tuple #[.string ⟨a.1.toArray⟩, .string ⟨a.2.toArray⟩]
set_option maxHeartbeats 400000 in
set_option maxRecDepth 100000 in
set_option linter.unusedSimpArgs false in
theorem xmust_any (b : Nat) (s word : List UInt8) (w : World) (h : PX w b s) : Calls Tryz.prog 86 #[.pointer (some ⟨b, 0, none⟩), .string ⟨word.toArray⟩] w (XOut b (eatX word s) noV w) := by
  have HEat := Lib.hid (xeat_any b s word w h)
  have HX := Lib.hid (show eatX word s = _ from rfl)
  clear h
  go_enter Tryz.func86, Tryz.ntmps86
  go_wp2_with fail
  refine HEat.out.mono ?_
  rintro e w1 ⟨hg, hx⟩
  rcases hr : eatX word s with _ | ⟨u, r⟩
  · rw [hr] at hx
    obtain ⟨rfl, -⟩ := hx
    have HR := Lib.hid hr
    clear HEat HX hr
    go_wp2_with fail
    refine (xfail_any _).mono ?_
    rintro e w2 ⟨rfl, rfl⟩
    exact ⟨rfl, xout_no HR.out hg⟩
  · rw [hr] at hx
    obtain ⟨rfl, hp⟩ := hx
    have HR := Lib.hid hr
    clear HEat HX hr
    go_wp2
    go_end0
    exact xout_ok HR.out hg rfl hp
set_option maxHeartbeats 400000 in
set_option maxRecDepth 100000 in
set_option linter.unusedSimpArgs false in
theorem xupto_any (b : Nat) (s word : List UInt8) (w : World) (h : PX w b s) (hs : s.length ≤ 1000000000) (hE : XE w b) : Calls Tryz.prog 61 #[.pointer (some ⟨b, 0, none⟩), .string ⟨word.toArray⟩] w (XOut b (cutS word s) strV w) := by
  have c0 := h.c0
  have f0 := h.f0
  have H := Lib.hid h
  have HCut := Lib.hid (xcut_any s word w hs hE.at)
  clear h hE
  go_enter Tryz.func61, Tryz.ntmps61
  go_wp2_with fail
  refine HCut.out.mono ?_
  rcases hr : cutS word s with _ | ⟨a, r⟩
  · rintro e w1 ⟨rfl, hb⟩
    have HB := Lib.hid hb
    have HR := Lib.hid hr
    clear hb HCut hr
    unfold xcutT
    go_wp2_with fail
    refine (xfail_any _).mono ?_
    rintro e w2 ⟨rfl, rfl⟩
    exact ⟨rfl, xout_no HR.out (Below.toGrown HB.out _)⟩
  · rintro e w1 ⟨rfl, hb⟩
    have hp := H.out.below hb
    have HS := Lib.hid (hp.set r)
    have HG := Lib.hid (grown_trans (Below.toGrown hb (some b)) (xgrown_cell w1 b 0 (.string ⟨r.toArray⟩)))
    have c1 := hp.c0
    have f1 := hp.f0
    have HR := Lib.hid hr
    clear hp hb HCut hr
    unfold xcutT
    go_wp2
    go_ret
    exact xout_ok HR.out HG.out rfl HS.out
theorem xtrimLeft_any (s : List UInt8) (w : World) : Calls Tryz.prog 107 #[.string ⟨s.toArray⟩, .string ⟨#[9, 10, 13, 32]⟩] w (Ret (.string ⟨(whiteX s).toArray⟩) w) := by
  rw [← trimLeft_white s]
  exact Any.strings_TrimLeft_laid Tryz.lays161 (by kernel_rfl) ⟨s.toArray⟩ ⟨#[9, 10, 13, 32]⟩ w (by decide) (ascii4)
def WhiteP (b : Nat) (s : List UInt8) (w : World) (e : Ending) (w' : World) : Prop := w.grownBy w' (some b) ∧ e = .returned (.bool (decide ((whiteX s).length < s.length))) ∧ PX w' b (whiteX s)
set_option maxHeartbeats 400000 in
set_option maxRecDepth 100000 in
set_option linter.unusedSimpArgs false in
theorem xwhite_any (b : Nat) (s : List UInt8) (w : World) (h : PX w b s) : Calls Tryz.prog 84 #[.pointer (some ⟨b, 0, none⟩)] w (WhiteP b s w) := by
  have c0 := h.c0
  have H := Lib.hid h
  have HT := Lib.hid (xtrimLeft_any s w)
  have HW := Lib.hid (show WhiteP b s w = fun e w' => w.grownBy w' (some b) ∧ e = .returned (.bool (decide ((whiteX s).length < s.length))) ∧ PX w' b (whiteX s) from rfl)
  rw [HW.out]
  clear h HW
  generalize whiteX s = r at *
  go_enter Tryz.func84, Tryz.ntmps84
  go_wp2_with fail
  refine HT.out.mono ?_
  rintro e w1 ⟨rfl, hb⟩
  have hp := H.out.below hb
  have HS := Lib.hid (hp.set r)
  have HG := Lib.hid (grown_trans (Below.toGrown hb (some b)) (xgrown_cell w1 b 0 (.string ⟨r.toArray⟩)))
  have c1 := hp.c0
  have f1 := hp.f0
  clear hp hb HT c0
  go_wp2
  go_ret
  exact ⟨HG.out, rfl, HS.out⟩
end Go.Proofs.YtjkiehmjffgnlaaGreatDoor
