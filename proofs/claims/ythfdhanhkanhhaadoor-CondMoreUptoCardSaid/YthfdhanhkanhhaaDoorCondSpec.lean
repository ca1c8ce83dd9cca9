/-
  What cond.Parse computes, in plain words: white taken off, a word eaten, what stands between two bytes, a condition, a list, a header. No condition.
-/
import Derived.Test.YthfdhanhkanhhaaDoorCondPlain
import Derived.Lib.SlTrimSet
import Derived.Lib.IndexLaws
namespace Go.Proofs.YthfdhanhkanhhaaDoor

def whiteS (s : List UInt8) : List UInt8 := Lib.trimLeftS s [32, 9]
def eatB (word s : List UInt8) : Bool := word.isPrefixOf (whiteS s)
def eatR (word s : List UInt8) : List UInt8 := if eatB word s then (whiteS s).drop word.length else whiteS s
/-- may these bytes stand between? -/
def midS (bad : List UInt8) (low : Int) (b : List UInt8) : Bool := !Lib.containsAny b bad && b.all fun c => decide (low ≤ (c.toNat : Int) ∧ (c.toNat : Int) ≤ 126)
/-- what stands up to a byte, and what stands behind it; none: it isn't right. -/
def betwS (e : UInt8) (bad : List UInt8) (low : Int) (s : List UInt8) : Option (List UInt8 × List UInt8) :=
  if Lib.indexByte s e < 0 ∨ s.take (Lib.indexByte s e).toNat = [] ∨ midS bad low (s.take (Lib.indexByte s e).toNat) = false then none
  else some (s.take (Lib.indexByte s e).toNat, s.drop ((Lib.indexByte s e).toNat + 1))
def wNot : List UInt8 := [78, 111, 116]
/-- a condition: its cells, whether it is one, what is left. -/
def condS (s : List UInt8) : CondT × Bool × List UInt8 :=
  if eatB [60] (eatR wNot s) then
    match betwS 62 [60] 33 (eatR [60] (eatR wNot s)) with
    | some (t, r) => (⟨eatB wNot s, t, []⟩, true, r)
    | none => (⟨eatB wNot s, [], []⟩, false, eatR [60] (eatR wNot s))
  else if eatB [91] (eatR [60] (eatR wNot s)) then
    match betwS 93 [] 32 (eatR [91] (eatR [60] (eatR wNot s))) with
    | some (t, r) => (⟨eatB wNot s, [], t⟩, true, r)
    | none => (⟨eatB wNot s, [], []⟩, false, eatR [91] (eatR [60] (eatR wNot s)))
  else (⟨eatB wNot s, [], []⟩, false, eatR [91] (eatR [60] (eatR wNot s)))
/-- a list's conditions behind its (, and what is left; none: it isn't right. -/
def listF : Nat → List UInt8 → List CondT → Option (List CondT × List UInt8)
  | 0, _, _ => none
  | n + 1, s, out =>
    if eatB [41] s then (if out = [] then none else some (out, eatR [41] s))
    else if (condS (eatR [41] s)).2.1 then listF n (condS (eatR [41] s)).2.2 (out ++ [(condS (eatR [41] s)).1]) else none
def listS (s : List UInt8) : Option (List CondT × List UInt8) := listF (s.length + 1) s []
/-- a header from here on. -/
def headF : Nat → List UInt8 → List GroupT → List UInt8 → Bool → Bool → Option (List GroupT)
  | 0, _, _, _, _, _ => none
  | n + 1, s, out, tag, tagged, fresh =>
    if s = [] then (if out = [] ∨ fresh = true then none else some out)
    else if eatB [40] s then
      match listS (eatR [40] s) with
      | none => none
      | some (l, r) => headF n (whiteS r) (out ++ [⟨tagged, tag, l⟩]) tag tagged false
    else if eatB [60] (eatR [40] s) && !fresh && (tagged || decide (out = [])) then
      match betwS 62 [60] 33 (eatR [60] (eatR [40] s)) with
      | none => none
      | some (t, r) => headF n (whiteS r) out t true true
    else none
def headS (s : List UInt8) : Option (List GroupT) := headF (s.length + 1) (whiteS s) [] [] false false

theorem white_len (s : List UInt8) : (whiteS s).length ≤ s.length := by
  unfold whiteS Lib.trimLeftS
  exact List.Sublist.length_le (List.dropWhile_sublist _)
theorem eatR_len (word s : List UInt8) : (eatR word s).length ≤ s.length := by
  have := white_len s
  unfold eatR
  split
  · rw [List.length_drop]; omega
  · exact this
theorem eatB_len {word s : List UInt8} (h : eatB word s = true) : word.length ≤ (whiteS s).length := by
  unfold eatB at h
  rw [List.isPrefixOf_iff_prefix] at h
  exact List.IsPrefix.length_le h
theorem eatR_lt {word s : List UInt8} (h : eatB word s = true) (h1 : 1 ≤ word.length) : (eatR word s).length < s.length := by
  have h2 := eatB_len h
  have := white_len s
  unfold eatR
  rw [if_pos h, List.length_drop]; omega
theorem betw_len {e : UInt8} {bad : List UInt8} {low : Int} {s t r : List UInt8} (h : betwS e bad low s = some (t, r)) : t ≠ [] ∧ r.length < s.length ∧ t.length < s.length := by
  unfold betwS at h
  split at h
  · cases h
  · rename_i hn
    injection h with h
    injection h with h1 h2
    have hne : t ≠ [] := by subst h1; intro h0; exact hn (.inr (.inl h0))
    have hs : 0 < s.length := by
      rcases s with _ | ⟨a, s⟩
      · subst h1; simp at hne
      · simp
    subst h2
    refine ⟨hne, by rw [List.length_drop]; omega, ?_⟩
    have hge : 0 ≤ Lib.indexByte s e := by omega
    have hlt : Lib.indexByte s e < s.length := by
      obtain ⟨o, ho⟩ := Int.eq_ofNat_of_zero_le hge
      have h5 := (Lib.indexByte_some ho).1
      have h6 := (List.getElem?_eq_some_iff.1 h5).1
      omega
    subst h1
    rw [List.length_take]; omega
theorem cond_len {s : List UInt8} (h : (condS s).2.1 = true) : (condS s).2.2.length < s.length := by
  have e1 := eatR_len wNot s
  have e2 := eatR_len [60] (eatR wNot s)
  have e3 := eatR_len [91] (eatR [60] (eatR wNot s))
  revert h
  unfold condS
  split
  · split
    · rename_i t r hb
      intro _
      have := (betw_len hb).2.1
      show r.length < _
      omega
    · intro h; cases h
  · split
    · split
      · rename_i t r hb
        intro _
        have := (betw_len hb).2.1
        show r.length < _
        omega
      · intro h; cases h
    · intro h; cases h
/-- more fuel than bytes: the same. -/
theorem listF_fuel : ∀ (n m : Nat) (s : List UInt8) (out : List CondT), s.length < n → s.length < m → listF n s out = listF m s out
  | 0, _, _, _, h, _ => absurd h (Nat.not_lt_zero _)
  | _, 0, _, _, _, h => absurd h (Nat.not_lt_zero _)
  | n + 1, m + 1, s, out, h1, h2 => by
    unfold listF
    split
    · rfl
    · split
      · rename_i hc
        have h3 := cond_len hc
        have h4 := eatR_len [41] s
        exact listF_fuel n m _ _ (by omega) (by omega)
      · rfl
theorem list_len : ∀ (n : Nat) (s : List UInt8) (out l : List CondT) (r : List UInt8), listF n s out = some (l, r) → r.length < s.length
  | 0, _, _, _, _, h => by cases h
  | n + 1, s, out, l, r, h => by
    unfold listF at h
    split at h
    · rename_i he
      split at h
      · cases h
      · injection h with h
        injection h with h1 h2
        subst h2
        exact eatR_lt he (by simp)
    · split at h
      · rename_i hc
        have h3 := cond_len hc
        have h4 := eatR_len [41] s
        have := list_len n _ _ _ _ h
        omega
      · cases h
theorem headF_fuel : ∀ (n m : Nat) (s : List UInt8) (out : List GroupT) (tag : List UInt8) (tagged fresh : Bool), s.length < n → s.length < m → headF n s out tag tagged fresh = headF m s out tag tagged fresh
  | 0, _, _, _, _, _, _, h, _ => absurd h (Nat.not_lt_zero _)
  | _, 0, _, _, _, _, _, _, h => absurd h (Nat.not_lt_zero _)
  | n + 1, m + 1, s, out, tag, tagged, fresh, h1, h2 => by
    unfold headF
    split
    · rfl
    · split
      · rename_i he
        have h3 := eatR_len [40] s
        split
        · rfl
        · rename_i l r hl
          have h4 := list_len _ _ _ _ _ hl
          have h5 := white_len r
          exact headF_fuel n m _ _ _ _ _ (by omega) (by omega)
      · split
        · have h3 := eatR_len [40] s
          have h4 := eatR_len [60] (eatR [40] s)
          split
          · rfl
          · rename_i t r hb
            have h5 := (betw_len hb).2.1
            have h6 := white_len r
            exact headF_fuel n m _ _ _ _ _ (by omega) (by omega)
        · rfl
end Go.Proofs.YthfdhanhkanhhaaDoor
