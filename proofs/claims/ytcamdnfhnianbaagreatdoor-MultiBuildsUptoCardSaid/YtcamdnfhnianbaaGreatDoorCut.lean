/-
  Plain: strings.Cut and strings.Split at a word, on texts of lines. No condition.
-/
import Derived.Lib.SplitLaws
namespace Go.Proofs.YtcamdnfhnianbaaGreatDoor
open Go.Lib

/-- the text ahead of the first sep, and behind it. -/
def cutS (sep : List UInt8) : List UInt8 → Option (List UInt8 × List UInt8)
  | [] => if sep = [] then some ([], []) else none
  | x :: r => if sep.isPrefixOf (x :: r) then some ([], (x :: r).drop sep.length) else (cutS sep r).map fun p => (x :: p.1, p.2)
theorem index_cut (sep : List UInt8) : ∀ s : List UInt8, (match cutS sep s with
    | some (a, b) => index s sep = a.length ∧ s = a ++ (sep ++ b)
    | none => index s sep = -1)
  | [] => by
    unfold cutS index
    by_cases h : sep = []
    · subst h; simp
    · rw [if_neg h]
      have : sep.isEmpty = false := by simpa using h
      rw [this]; rfl
  | x :: r => by
    have ih := index_cut sep r
    unfold cutS index
    by_cases hp : sep.isPrefixOf (x :: r) = true
    · rw [if_pos hp, if_pos hp]
      refine ⟨rfl, ?_⟩
      rw [List.isPrefixOf_iff_prefix] at hp
      obtain ⟨t, ht⟩ := hp
      rw [← ht]
      simp
    · rw [if_neg hp, if_neg hp]
      rcases hc : cutS sep r with _ | ⟨a, b⟩
      · rw [hc] at ih
        simp only at ih
        simp [ih]
      · rw [hc] at ih
        simp only at ih
        obtain ⟨h1, h2⟩ := ih
        show (if (index r sep == -1) = true then (-1 : Int) else index r sep + 1) = ((x :: a).length : Nat) ∧ x :: r = (x :: a) ++ (sep ++ b)
        refine ⟨?_, by rw [h2]; rfl⟩
        have : (index r sep == -1) = false := by rw [h1, beq_eq_false_iff_ne]; omega
        rw [this, h1]
        simp
theorem cut_eq (s sep : List UInt8) : cut s sep = match cutS sep s with
    | some (a, b) => (a, b, true)
    | none => (s, [], false) := by
  have h := index_cut sep s
  unfold cut
  rcases hc : cutS sep s with _ | ⟨a, b⟩
  · rw [hc] at h
    simp only at h
    rw [h, if_neg (by decide)]
  · rw [hc] at h
    simp only at h
    obtain ⟨h1, h2⟩ := h
    rw [h1, if_pos (by omega)]
    have e1 : s.take (a.length : Int).toNat = a := by rw [h2]; simp
    have e2 : s.drop ((a.length : Int).toNat + sep.length) = b := by
      rw [h2, Int.toNat_natCast, ← List.append_assoc, ← List.length_append]
      simp
    rw [e1, e2]
/-- no first byte of sep stands ahead: the cut is there. -/
theorem cut_at (c : UInt8) (t : List UInt8) : ∀ (a b : List UInt8), c ∉ a → cutS (c :: t) (a ++ (c :: t ++ b)) = some (a, b)
  | [], b, _ => by
    show (if (c :: t).isPrefixOf (c :: (t ++ b)) = true then _ else _) = _
    rw [if_pos (by rw [List.isPrefixOf_iff_prefix]; exact ⟨b, rfl⟩)]
    simp
  | x :: a, b, h => by
    have hx : c ≠ x := fun e => h (by simp [e])
    have ih := cut_at c t a b (fun hh => h (by simp [hh]))
    show (if (c :: t).isPrefixOf (x :: (a ++ (c :: t ++ b))) = true then _ else (cutS (c :: t) (a ++ (c :: t ++ b))).map _) = _
    rw [if_neg (by simp [List.isPrefixOf, hx]), ih]
    rfl
theorem cut_none (c : UInt8) (t : List UInt8) : ∀ (a : List UInt8), c ∉ a → cutS (c :: t) a = none
  | [], _ => rfl
  | x :: a, h => by
    have hx : c ≠ x := fun e => h (by simp [e])
    have ih := cut_none c t a (fun hh => h (by simp [hh]))
    show (if (c :: t).isPrefixOf (x :: a) = true then _ else _) = _
    rw [if_neg (by simp [List.isPrefixOf, hx]), ih]
    rfl
/-- lines, line ends between them. -/
def topOf : List (List UInt8) → List UInt8
  | [] => []
  | [l] => l
  | l :: l' :: ls => l ++ (13 :: 10 :: topOf (l' :: ls))
/-- a line that is not empty and holds no 13. -/
def LineOk (l : List UInt8) : Prop := l ≠ [] ∧ (13 : UInt8) ∉ l
theorem cut4_line (l r : List UInt8) (hl : LineOk l) : cutS [13, 10, 13, 10] (l ++ (13 :: 10 :: r)) = if [13, 10].isPrefixOf r then some (l, r.drop 2) else (cutS [13, 10, 13, 10] (13 :: 10 :: r)).map fun p => (l ++ p.1, p.2) := by
  obtain ⟨-, h⟩ := hl
  have key : ∀ l : List UInt8, (13 : UInt8) ∉ l → cutS [13, 10, 13, 10] (l ++ (13 :: 10 :: r)) = (cutS [13, 10, 13, 10] (13 :: 10 :: r)).map fun p => (l ++ p.1, p.2) := by
    intro l
    induction l with
    | nil =>
      intro _
      rw [List.nil_append]
      rcases cutS [13, 10, 13, 10] (13 :: 10 :: r) with _ | ⟨a, b⟩ <;> rfl
    | cons x l ih =>
      intro h
      have hx : (13 : UInt8) ≠ x := fun e => h (by simp [e])
      have ih' := ih (fun hh => h (by simp [hh]))
      show (if [13, 10, 13, 10].isPrefixOf (x :: (l ++ (13 :: 10 :: r))) = true then _ else (cutS [13, 10, 13, 10] (l ++ (13 :: 10 :: r))).map _) = _
      rw [if_neg (by simp [List.isPrefixOf, hx]), ih']
      rcases cutS [13, 10, 13, 10] (13 :: 10 :: r) with _ | ⟨a, b⟩ <;> rfl
  rw [key l h]
  by_cases hp : [13, 10].isPrefixOf r = true
  · rw [if_pos hp]
    have : cutS [13, 10, 13, 10] (13 :: 10 :: r) = some ([], r.drop 2) := by
      show (if [13, 10, 13, 10].isPrefixOf (13 :: 10 :: r) = true then _ else _) = _
      rw [if_pos (by simpa [List.isPrefixOf] using hp)]
      rfl
    rw [this]
    simp
  · rw [if_neg hp]
theorem cut4_step (l r : List UInt8) (hl : LineOk l) : (cutS [13, 10, 13, 10] (13 :: 10 :: (l ++ r))) = (cutS [13, 10, 13, 10] (l ++ r)).map fun p => (13 :: 10 :: p.1, p.2) := by
  obtain ⟨x, l', rfl⟩ : ∃ x l', l = x :: l' := by
    cases l with
    | nil => exact absurd rfl hl.1
    | cons x l' => exact ⟨x, l', rfl⟩
  have hx : (13 : UInt8) ≠ x := fun e => hl.2 (by simp [e])
  show (if [13, 10, 13, 10].isPrefixOf (13 :: 10 :: (x :: (l' ++ r))) = true then _ else ((if [13, 10, 13, 10].isPrefixOf (10 :: (x :: (l' ++ r))) = true then _ else (cutS [13, 10, 13, 10] (x :: (l' ++ r))).map _)).map _) = _
  rw [if_neg (by simp [List.isPrefixOf, hx]), if_neg (by simp [List.isPrefixOf])]
  show ((cutS [13, 10, 13, 10] (x :: (l' ++ r))).map _).map _ = (cutS [13, 10, 13, 10] (x :: (l' ++ r))).map _
  cases cutS [13, 10, 13, 10] (x :: (l' ++ r)) <;> rfl
theorem cut_top : ∀ (ls : List (List UInt8)) (b : List UInt8), ls ≠ [] → (∀ l ∈ ls, LineOk l) → cutS [13, 10, 13, 10] (topOf ls ++ (13 :: 10 :: 13 :: 10 :: b)) = some (topOf ls, b)
  | [], _, h, _ => absurd rfl h
  | [l], b, _, h => by
    have := cut4_line l (13 :: 10 :: b) (h l (by simp))
    rw [if_pos (by simp [List.isPrefixOf])] at this
    exact this
  | l :: l' :: ls, b, _, h => by
    have ih := cut_top (l' :: ls) b (by simp) (fun x hx => h x (by simp at hx ⊢; exact .inr hx))
    have hl := h l (by simp)
    have hl' := h l' (by simp)
    have e : topOf (l :: l' :: ls) ++ (13 :: 10 :: 13 :: 10 :: b) = l ++ (13 :: 10 :: (topOf (l' :: ls) ++ (13 :: 10 :: 13 :: 10 :: b))) := by
      show (l ++ (13 :: 10 :: topOf (l' :: ls))) ++ _ = _
      simp
    obtain ⟨q, hq⟩ : ∃ q, topOf (l' :: ls) = l' ++ q := by
      cases ls with
      | nil => exact ⟨[], by simp [topOf]⟩
      | cons a r => exact ⟨_, rfl⟩
    have hnp : ¬ ([13, 10] : List UInt8).isPrefixOf (topOf (l' :: ls) ++ (13 :: 10 :: 13 :: 10 :: b)) = true := by
      rw [hq]
      obtain ⟨x, t, rfl⟩ : ∃ x t, l' = x :: t := by
        cases l' with
        | nil => exact absurd rfl hl'.1
        | cons x t => exact ⟨x, t, rfl⟩
      have hx : (13 : UInt8) ≠ x := fun e => hl'.2 (by simp [e])
      simp [List.isPrefixOf, hx]
    rw [e, cut4_line l _ hl, if_neg hnp]
    have hs := cut4_step l' (q ++ (13 :: 10 :: 13 :: 10 :: b)) hl'
    rw [← List.append_assoc, ← hq] at hs
    rw [hs, ih]
    simp [topOf]
theorem index_crlf (l r : List UInt8) (h : (13 : UInt8) ∉ l) : index (l ++ (13 :: 10 :: r)) [13, 10] = l.length := by
  have h1 := index_cut [13, 10] (l ++ (13 :: 10 :: r))
  rw [show l ++ (13 :: 10 :: r) = l ++ (13 :: [10] ++ r) from rfl, cut_at 13 [10] l r h] at h1
  exact h1.1
theorem index_no (l : List UInt8) (h : (13 : UInt8) ∉ l) : index l [13, 10] = -1 := by
  have h1 := index_cut [13, 10] l
  rw [cut_none 13 [10] l h] at h1
  exact h1
theorem count_top : ∀ (ls : List (List UInt8)), ls ≠ [] → (∀ l ∈ ls, (13 : UInt8) ∉ l) → ∀ fuel, (topOf ls).length < fuel → countFrom [13, 10] fuel (topOf ls) + 1 = ls.length
  | [], h, _, _, _ => absurd rfl h
  | _, _, _, 0, h => absurd h (Nat.not_lt_zero _)
  | [l], _, h, f + 1, _ => by
    show (if (index l [13, 10] == -1) = true then 0 else _) + 1 = 1
    rw [index_no l (h l (by simp)), if_pos (by decide)]
  | l :: l' :: ls, _, h, f + 1, hf => by
    have hl := h l (by simp)
    have e : topOf (l :: l' :: ls) = l ++ (13 :: 10 :: topOf (l' :: ls)) := rfl
    have hlen : (topOf (l' :: ls)).length < f := by
      rw [e] at hf
      simp at hf
      omega
    have ih := count_top (l' :: ls) (by simp) (fun x hx => h x (by simp at hx ⊢; exact .inr hx)) f hlen
    rw [e]
    show (if (index (l ++ (13 :: 10 :: topOf (l' :: ls))) [13, 10] == -1) = true then 0 else 1 + countFrom [13, 10] f ((l ++ (13 :: 10 :: topOf (l' :: ls))).drop ((index (l ++ (13 :: 10 :: topOf (l' :: ls))) [13, 10]).toNat + 2))) + 1 = _
    rw [index_crlf l _ hl]
    have hn : ¬ (((l.length : Int) == -1) = true) := by rw [beq_iff_eq]; omega
    have hd : (l ++ (13 :: 10 :: topOf (l' :: ls))).drop ((l.length : Int).toNat + 2) = topOf (l' :: ls) := by
      rw [Int.toNat_natCast]
      simp
    rw [if_neg hn, hd]
    simp only [List.length_cons] at ih ⊢
    omega
theorem splitK_top : ∀ (ls : List (List UInt8)), ls ≠ [] → (∀ l ∈ ls, (13 : UInt8) ∉ l) → splitK [13, 10] 0 (ls.length - 1) (topOf ls) = ls
  | [], h, _ => absurd rfl h
  | [l], _, _ => rfl
  | l :: l' :: ls, _, h => by
    have hl := h l (by simp)
    have ih := splitK_top (l' :: ls) (by simp) (fun x hx => h x (by simp at hx ⊢; exact .inr hx))
    show (if (index (l ++ (13 :: 10 :: topOf (l' :: ls))) [13, 10] == -1) = true then _ else (l ++ (13 :: 10 :: topOf (l' :: ls))).take ((index (l ++ (13 :: 10 :: topOf (l' :: ls))) [13, 10]).toNat + 0) :: splitK [13, 10] 0 (ls.length) ((l ++ (13 :: 10 :: topOf (l' :: ls))).drop ((index (l ++ (13 :: 10 :: topOf (l' :: ls))) [13, 10]).toNat + 2))) = _
    rw [index_crlf l _ hl]
    have hn : ¬ (((l.length : Int) == -1) = true) := by rw [beq_iff_eq]; omega
    have hd : (l ++ (13 :: 10 :: topOf (l' :: ls))).drop ((l.length : Int).toNat + 2) = topOf (l' :: ls) := by
      rw [Int.toNat_natCast]
      simp
    have ht : (l ++ (13 :: 10 :: topOf (l' :: ls))).take ((l.length : Int).toNat + 0) = l := by simp
    rw [if_neg hn, hd, ht]
    have ih' : splitK [13, 10] 0 ls.length (topOf (l' :: ls)) = l' :: ls := ih
    rw [ih']
theorem split_top (ls : List (List UInt8)) (h0 : ls ≠ []) (h : ∀ l ∈ ls, (13 : UInt8) ∉ l) : split (topOf ls) [13, 10] = ls := by
  have hc := count_top ls h0 h ((topOf ls).length + 1) (Nat.lt_succ_self _)
  have e : count (topOf ls) [13, 10] = ls.length - 1 := by
    have : count (topOf ls) [13, 10] = countFrom [13, 10] ((topOf ls).length + 1) (topOf ls) := rfl
    omega
  unfold split
  rw [e]
  exact splitK_top ls h0 h
end Go.Proofs.YtcamdnfhnianbaaGreatDoor
