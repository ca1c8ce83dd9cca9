/-
  Plain laws of layer 16: what a header of one condition says, with and without Not, with and without white. No condition.
-/
import Derived.Test.YthfdhanhkanhhaaDoorCondSpec
namespace Go.Proofs.YthfdhanhkanhhaaDoor

/-- may these bytes be a token? -/
def tokB (l : List UInt8) : Bool := !decide (l = []) && visS l
/-- neither < nor > stands in it. -/
def plainTok (l : List UInt8) : Prop := ∀ b ∈ l, b ≠ 60 ∧ b ≠ 62
theorem white_ne (c : UInt8) (r : List UInt8) (h : c ≠ 32) (h' : c ≠ 9) : whiteS (c :: r) = c :: r := by
  unfold whiteS Lib.trimLeftS
  rw [List.dropWhile_cons_of_neg]
  simp [h, h']
theorem white_32 (r : List UInt8) : whiteS (32 :: r) = whiteS r := rfl
theorem white_9 (r : List UInt8) : whiteS (9 :: r) = whiteS r := rfl
theorem white_nil : whiteS [] = [] := rfl
theorem index_tok : ∀ (l r : List UInt8), plainTok l → Lib.indexByte (l ++ 62 :: r) 62 = l.length
  | [], r, _ => by simp [Lib.indexByte]
  | b :: l, r, h => by
    have hb := (h b (by simp)).2
    have ih := index_tok l r (fun x hx => h x (by simp [hx]))
    have hne : (b == 62) = false := by simpa using hb
    rw [List.cons_append, Lib.indexByte, hne, ih]
    simp
theorem no_lt : ∀ (l : List UInt8), plainTok l → Lib.containsAny l [60] = false
  | l, h => by
    unfold Lib.containsAny
    rw [Lib.indexAny_one]
    have : Lib.indexByte l 60 = -1 := by
      induction l with
      | nil => rfl
      | cons b l ih =>
        have hb := (h b (by simp)).1
        have hne : (b == 60) = false := by simpa using hb
        rw [Lib.indexByte, hne, ih (fun x hx => h x (by simp [hx]))]
        rfl
    rw [this]
    rfl
theorem betw_tok (l r : List UInt8) (h : plainTok l) : betwS 62 [60] 33 (l ++ 62 :: r) = if tokB l then some (l, r) else none := by
  unfold betwS
  rw [index_tok l r h]
  have h1 : (l ++ 62 :: r).take ((l.length : Int)).toNat = l := by simp
  have h2 : (l ++ 62 :: r).drop (((l.length : Int)).toNat + 1) = r := by simp
  rw [h1, h2]
  have h3 : midS [60] 33 l = visS l := by
    unfold midS visS
    rw [no_lt l h]
    simp only [Bool.not_false, Bool.true_and]
    congr 1
  rw [h3]
  unfold tokB
  by_cases h0 : l = [] <;> cases hv : visS l <;> simp [h0]
theorem cond_tok (l r : List UInt8) (h : plainTok l) : condS (60 :: (l ++ 62 :: r)) = if tokB l then (⟨false, l, []⟩, true, r) else (⟨false, [], []⟩, false, l ++ 62 :: r) := by
  have hw : whiteS (60 :: (l ++ 62 :: r)) = 60 :: (l ++ 62 :: r) := white_ne _ _ (by decide) (by decide)
  have e1 : eatB wNot (60 :: (l ++ 62 :: r)) = false := by unfold eatB; rw [hw]; rfl
  have e2 : eatR wNot (60 :: (l ++ 62 :: r)) = 60 :: (l ++ 62 :: r) := by unfold eatR; rw [e1, hw]; rfl
  have e3 : eatB [60] (60 :: (l ++ 62 :: r)) = true := by unfold eatB; rw [hw]; simp [List.isPrefixOf]
  have e4 : eatR [60] (60 :: (l ++ 62 :: r)) = l ++ 62 :: r := by unfold eatR; rw [e3, hw]; simp
  unfold condS
  rw [e1, e2, e3, e4, if_pos rfl, betw_tok l r h]
  cases tokB l <;> rfl
theorem cond_not (l r : List UInt8) (h : plainTok l) : condS (78 :: 111 :: 116 :: 9 :: 60 :: (l ++ 62 :: r)) = if tokB l then (⟨true, l, []⟩, true, r) else (⟨true, [], []⟩, false, l ++ 62 :: r) := by
  have hw : whiteS (60 :: (l ++ 62 :: r)) = 60 :: (l ++ 62 :: r) := white_ne _ _ (by decide) (by decide)
  have hw1 : whiteS (78 :: 111 :: 116 :: 9 :: 60 :: (l ++ 62 :: r)) = 78 :: 111 :: 116 :: 9 :: 60 :: (l ++ 62 :: r) := white_ne _ _ (by decide) (by decide)
  have e1 : eatB wNot (78 :: 111 :: 116 :: 9 :: 60 :: (l ++ 62 :: r)) = true := by unfold eatB; rw [hw1]; simp [wNot, List.isPrefixOf]
  have e2 : eatR wNot (78 :: 111 :: 116 :: 9 :: 60 :: (l ++ 62 :: r)) = 9 :: 60 :: (l ++ 62 :: r) := by unfold eatR; rw [e1, hw1]; rfl
  have e3 : eatB [60] (9 :: 60 :: (l ++ 62 :: r)) = true := by unfold eatB; rw [white_9, hw]; simp [List.isPrefixOf]
  have e4 : eatR [60] (9 :: 60 :: (l ++ 62 :: r)) = l ++ 62 :: r := by unfold eatR; rw [e3, white_9, hw]; simp
  unfold condS
  rw [e1, e2, e3, e4, if_pos rfl, betw_tok l r h]
  cases tokB l <;> rfl
/-- a list of one condition, white ahead of its end. -/
theorem list_one {s s' r r' : List UInt8} {c : CondT} {ok : Bool} (hs : eatB [41] s = false) (hr : eatR [41] s = s') (hc : condS s' = (c, ok, r)) (he : eatB [41] r = true) (hr' : eatR [41] r = r') (hl : 1 ≤ s.length) :
    listS s = if ok then some ([c], r') else none := by
  obtain ⟨n, hn⟩ : ∃ n, s.length = n + 1 := ⟨s.length - 1, by omega⟩
  unfold listS
  rw [hn]
  show (if eatB [41] s then _ else _) = _
  rw [hs, if_neg (by decide), hr, hc]
  cases ok
  · rfl
  · show (if eatB [41] r then _ else _) = _
    rw [he, if_pos rfl, hr']
    rfl
/-- a header of one list, white ahead of and behind it. -/
theorem head_one {s t : List UInt8} {l : Option (List CondT × List UInt8)} (hw : whiteS s = 40 :: t) (hl : listS t = l) (hq : ∀ c r, l = some (c, r) → whiteS r = []) : headS s = l.map fun x => [⟨false, [], x.1⟩] := by
  unfold headS
  rw [hw]
  have hlen : 1 ≤ s.length := by have := white_len s; rw [hw] at this; simp at this; omega
  obtain ⟨n, hn⟩ : ∃ n, s.length = n + 1 := ⟨s.length - 1, by omega⟩
  rw [hn]
  have hw2 : whiteS (40 :: t) = 40 :: t := white_ne _ _ (by decide) (by decide)
  have e1 : eatB [40] (40 :: t) = true := by unfold eatB; rw [hw2]; simp [List.isPrefixOf]
  have e2 : eatR [40] (40 :: t) = t := by unfold eatR; rw [e1, hw2]; rfl
  show (if (40 :: t) = [] then _ else if eatB [40] (40 :: t) then _ else _) = _
  rw [if_neg (by simp), e1, if_pos rfl, e2, hl]
  cases l with
  | none => rfl
  | some x =>
    obtain ⟨c, r⟩ := x
    show headF (n + 1) (whiteS r) _ _ _ _ = _
    rw [hq c r rfl]
    rfl
def condG (neg : Bool) (l : List UInt8) : List GroupT := [⟨false, [], [⟨neg, l, []⟩]⟩]
theorem hd_any {s t t' r r' x l : List UInt8} {neg : Bool} (hw : whiteS s = 40 :: t) (e1 : eatB [41] t = false) (e2 : eatR [41] t = t') (hc : condS t' = if tokB l then (⟨neg, l, []⟩, true, r) else (⟨neg, [], []⟩, false, x)) (he : eatB [41] r = true) (hr' : eatR [41] r = r') (hw' : whiteS r' = []) (hl : 1 ≤ t.length) :
    headS s = if tokB l then some (condG neg l) else none := by
  cases ht : tokB l
  · rw [ht] at hc
    have hL : listS t = none := by
      obtain ⟨n, hn⟩ : ∃ n, t.length = n + 1 := ⟨t.length - 1, by omega⟩
      unfold listS
      rw [hn]
      show (if eatB [41] t then _ else _) = _
      rw [e1, if_neg (by decide), e2, hc]
      rfl
    rw [head_one hw hL (fun c r h => by cases h)]
    rfl
  · rw [ht] at hc
    have hL := list_one e1 e2 hc he hr' hl
    rw [head_one hw hL (fun c r h => by
      rw [if_pos rfl] at h
      injection h with h
      injection h with h1 h2
      subst h2
      exact hw')]
    rfl
theorem not_a (l : List UInt8) (h : plainTok l) : headS (40 :: 60 :: (l ++ [62, 41])) = if tokB l then some (condG false l) else none := by
  have hw : whiteS (60 :: (l ++ [62, 41])) = 60 :: (l ++ [62, 41]) := white_ne _ _ (by decide) (by decide)
  have e1 : eatB [41] (60 :: (l ++ [62, 41])) = false := by unfold eatB; rw [hw]; rfl
  have e2 : eatR [41] (60 :: (l ++ [62, 41])) = 60 :: (l ++ [62, 41]) := by unfold eatR; rw [e1, hw]; rfl
  exact hd_any (white_ne _ _ (by decide) (by decide)) e1 e2 (cond_tok l [41] h) (by decide) (show eatR [41] [41] = [] from by decide) rfl (by simp)
theorem not_b (l : List UInt8) (h : plainTok l) : headS (32 :: 9 :: 40 :: 32 :: 78 :: 111 :: 116 :: 9 :: 60 :: (l ++ [62, 32, 41, 32])) = if tokB l then some (condG true l) else none := by
  have hw : whiteS (32 :: 78 :: 111 :: 116 :: 9 :: 60 :: (l ++ [62, 32, 41, 32])) = 78 :: 111 :: 116 :: 9 :: 60 :: (l ++ [62, 32, 41, 32]) := by rw [white_32]; exact white_ne _ _ (by decide) (by decide)
  have e1 : eatB [41] (32 :: 78 :: 111 :: 116 :: 9 :: 60 :: (l ++ [62, 32, 41, 32])) = false := by unfold eatB; rw [hw]; rfl
  have e2 : eatR [41] (32 :: 78 :: 111 :: 116 :: 9 :: 60 :: (l ++ [62, 32, 41, 32])) = 78 :: 111 :: 116 :: 9 :: 60 :: (l ++ [62, 32, 41, 32]) := by unfold eatR; rw [e1, hw]; rfl
  exact hd_any (by rw [white_32, white_9]; exact white_ne _ _ (by decide) (by decide)) e1 e2 (cond_not l [32, 41, 32] h) (by decide) (show eatR [41] [32, 41, 32] = [32] from by decide) rfl (by simp)
theorem not_c (l : List UInt8) (h : plainTok l) : headS (40 :: 32 :: 9 :: 60 :: (l ++ [62, 9, 41])) = if tokB l then some (condG false l) else none := by
  have hw : whiteS (32 :: 9 :: 60 :: (l ++ [62, 9, 41])) = 60 :: (l ++ [62, 9, 41]) := by rw [white_32, white_9]; exact white_ne _ _ (by decide) (by decide)
  have e1 : eatB [41] (32 :: 9 :: 60 :: (l ++ [62, 9, 41])) = false := by unfold eatB; rw [hw]; rfl
  have e2 : eatR [41] (32 :: 9 :: 60 :: (l ++ [62, 9, 41])) = 60 :: (l ++ [62, 9, 41]) := by unfold eatR; rw [e1, hw]; rfl
  exact hd_any (white_ne _ _ (by decide) (by decide)) e1 e2 (cond_tok l [9, 41] h) (by decide) (show eatR [41] [9, 41] = [] from by decide) rfl (by simp)
theorem groups_not (l : List UInt8) (hl : l ≠ []) (self : List (List UInt8)) (fs : List FactT) : holdsS (condG true l) self fs = !holdsS (condG false l) self fs := by
  unfold condG
  simp only [holdsS, groupS, holdsG, List.all_cons, List.all_nil, Bool.and_true, Bool.or_false, factsS, okC, Bool.false_eq_true, if_false]
  have : ∀ neg f, isC f ⟨neg, l, []⟩ = decide (l ∈ f.toks) := fun neg f => by unfold isC; rw [if_neg hl]
  rw [this, this]
  cases decide (l ∈ (findS fs self).toks) <;> rfl
end Go.Proofs.YthfdhanhkanhhaaDoor
