/-
  Plain words of layer 9 (uri), no program in sight: what a byte is worth as a digit, what a piece says, what is a path, a path's form, what a target says. No condition.
-/
import Derived.Lib.ValidU
import Derived.Lib.MapLaws
import Derived.Lib.IndexAny
import Derived.Lib.Bytealg
namespace Go.Proofs.YthfdhanhkanhhaaDoor

/-- a digit's worth; -1: none. -/
def digV (c : Int) : Int := if 48 ≤ c ∧ c ≤ 57 then c - 48 else if 97 ≤ c ∧ c ≤ 102 then c - 87 else if 65 ≤ c ∧ c ≤ 70 then c - 55 else -1
def seenB (c : Int) : Bool := decide (33 ≤ c ∧ c ≤ 126 ∧ c ≠ 63 ∧ c ≠ 35)
/-- all bytes from 33 to 126, and none of them a ? or a #. -/
def plainS (l : List UInt8) : Bool := l.all fun c => seenB c.toNat
def bareB (c : Int) : Bool := decide (97 ≤ c ∧ c ≤ 122 ∨ 65 ≤ c ∧ c ≤ 90 ∨ 48 ≤ c ∧ c ≤ 57 ∨ c = 45 ∨ c = 46 ∨ c = 95 ∨ c = 126)
def withinS (a b : List (List UInt8)) : Bool := b.isPrefixOf a
def hexByte (a b : UInt8) : UInt8 := UInt8.ofNat (16 * (digV a.toNat).toNat + (digV b.toNat).toNat)
/-- what a piece says; none: a % without two digits. -/
def decS : List UInt8 → Option (List UInt8)
  | [] => some []
  | c :: r => if c = 37 then match r with
      | a :: b :: r' => if digV a.toNat < 0 ∨ digV b.toNat < 0 then none else (decS r').map (hexByte a b :: ·)
      | _ => none
    else (decS r).map (c :: ·)
/-- does a byte stand in it? -/
def hasB (l : List UInt8) (c : Int) : Bool := l.any fun x => decide ((x.toNat : Int) = c)
def goodBytes (s : List UInt8) : Bool := Lib.validD s && !(hasB s 47 || hasB s 0)
/-- what a piece says, and whether it is right. -/
def sayS (p : List UInt8) : List UInt8 × Bool := match decS p with
  | none => ([], false)
  | some s => (s, goodBytes s)
def segS (s : List UInt8) : Bool := decide (s ≠ [] ∧ s ≠ [46] ∧ s ≠ [46, 46] ∧ s.length ≤ 64) && goodBytes s
def goodS (p : List (List UInt8)) : Bool := p.all segS && decide (p.length ≤ 12)
def hexU (n : Nat) : UInt8 := UInt8.ofNat (if n < 10 then 48 + n else 55 + n)
def encB (c : UInt8) : List UInt8 := if bareB c.toNat then [c] else [37, hexU (c.toNat / 16), hexU (c.toNat % 16)]
def encS (s : List UInt8) : List UInt8 := s.flatMap encB
def formS (p : List (List UInt8)) : List UInt8 := p.flatMap fun s => 47 :: encS s
def textS (p : List (List UInt8)) : List UInt8 := if goodS p then (if p = [] then [47] else formS p) else []
/-- the pieces between slashes. -/
def piecesS : List UInt8 → List (List UInt8)
  | [] => [[]]
  | x :: r => if x = 47 then [] :: piecesS r else match piecesS r with
      | h :: t => (x :: h) :: t
      | [] => [[x]]
/-- the pieces gone through from the left: the path so far, whether the last one made a directory; or an error's number. -/
def goS : List (List UInt8) → List (List UInt8) → Bool → List (List UInt8) × Bool × Int
  | [], path, dir => if path.length > 12 then ([], false, 5) else (path, dir, 0)
  | p :: ps, path, _ =>
    if (sayS p).2 = false then ([], false, 20)
    else if (sayS p).1.length > 64 then ([], false, 5)
    else if (sayS p).1 = [46, 46] then (if path = [] then ([], false, 20) else goS ps path.dropLast true)
    else if (sayS p).1 = [] ∨ (sayS p).1 = [46] then goS ps path true
    else goS ps (path ++ [(sayS p).1]) false
def httpS : List UInt8 := [104, 116, 116, 112, 58, 47, 47]
/-- a target without the scheme and the host; none: it is wrong. -/
def localS (t : List UInt8) : Option (List UInt8) :=
  if httpS.isPrefixOf t then
    if t.drop 7 = [] ∨ Lib.indexByte (t.drop 7) 47 = 0 then none
    else if Lib.indexByte (t.drop 7) 47 < 0 then (if plainS (t.drop 7) then some [47] else none)
    else some ((t.drop 7).drop (Lib.indexByte (t.drop 7) 47).toNat)
  else some t
def parseS (t : List UInt8) : List (List UInt8) × Bool × Int :=
  match localS t with
  | none => ([], false, 20)
  | some s => if plainS s && s.head? == some 47 then goS (piecesS (s.drop 1)) [] false else ([], false, 20)


theorem hasB_cons (x : UInt8) (r : List UInt8) (c : Int) : hasB (x :: r) c = (decide ((x.toNat : Int) = c) || hasB r c) := rfl
theorem plainS_cons (x : UInt8) (r : List UInt8) : plainS (x :: r) = (seenB x.toNat && plainS r) := rfl
theorem seen_no {c : Int} (h : c < 33 ∨ 126 < c ∨ c = 63 ∨ c = 35) : seenB c = false := by unfold seenB; simp; omega
theorem seen_yes {c : Int} (h : 33 ≤ c ∧ c ≤ 126 ∧ c ≠ 63 ∧ c ≠ 35) : seenB c = true := by unfold seenB; simp; omega
theorem bare_no {c : Int} (h : ¬ (97 ≤ c ∧ c ≤ 122 ∨ 65 ≤ c ∧ c ≤ 90 ∨ 48 ≤ c ∧ c ≤ 57 ∨ c = 45 ∨ c = 46 ∨ c = 95 ∨ c = 126)) : bareB c = false := by unfold bareB; simpa using h
theorem bare_yes {c : Int} (h : 97 ≤ c ∧ c ≤ 122 ∨ 65 ≤ c ∧ c ≤ 90 ∨ 48 ≤ c ∧ c ≤ 57 ∨ c = 45 ∨ c = 46 ∨ c = 95 ∨ c = 126) : bareB c = true := by unfold bareB; simpa using h
def lowI (k : Nat) : Int := if k < 10 then 48 + k else 87 + k
def upI (k : Nat) : Int := if k < 10 then 48 + k else 55 + k
theorem low_at (k : Nat) (h : k < 16) (h' : k < (⟨#[48, 49, 50, 51, 52, 53, 54, 55, 56, 57, 97, 98, 99, 100, 101, 102]⟩ : ByteArray).size) :
    (((⟨#[48, 49, 50, 51, 52, 53, 54, 55, 56, 57, 97, 98, 99, 100, 101, 102]⟩ : ByteArray)[k]'h').toNat : Int) = lowI k := by
  match k, h with
  | 0, _ | 1, _ | 2, _ | 3, _ | 4, _ | 5, _ | 6, _ | 7, _ | 8, _ | 9, _ | 10, _ | 11, _ | 12, _ | 13, _ | 14, _ | 15, _ => rfl
  | k + 16, h => omega
theorem up_at (k : Nat) (h : k < 16) (h' : k < (⟨#[48, 49, 50, 51, 52, 53, 54, 55, 56, 57, 65, 66, 67, 68, 69, 70]⟩ : ByteArray).size) :
    (((⟨#[48, 49, 50, 51, 52, 53, 54, 55, 56, 57, 65, 66, 67, 68, 69, 70]⟩ : ByteArray)[k]'h').toNat : Int) = upI k := by
  match k, h with
  | 0, _ | 1, _ | 2, _ | 3, _ | 4, _ | 5, _ | 6, _ | 7, _ | 8, _ | 9, _ | 10, _ | 11, _ | 12, _ | 13, _ | 14, _ | 15, _ => rfl
  | k + 16, h => omega
theorem dig_found {c : Int} {k : Nat} (hk : k < 16) (h : lowI k = c ∨ upI k = c) : digV c = k := by
  unfold lowI upI at h; unfold digV
  rcases h with h | h <;> split at h <;> (repeat' split) <;> omega
theorem dig_none {c : Int} (h : ∀ k, k < 16 → lowI k ≠ c ∧ upI k ≠ c) : digV c = -1 := by
  unfold digV
  (repeat' split)
  · have := (h (c - 48).toNat (by omega)).1; unfold lowI at this; split at this <;> omega
  · have := (h (c - 87).toNat (by omega)).1; unfold lowI at this; split at this <;> omega
  · have := (h (c - 55).toNat (by omega)).2; unfold upI at this; split at this <;> omega
  · rfl
def visB (c : Int) : Bool := decide (33 ≤ c ∧ c ≤ 126)
def visS (l : List UInt8) : Bool := l.all fun c => visB c.toNat
theorem visS_cons (x : UInt8) (r : List UInt8) : visS (x :: r) = (visB x.toNat && visS r) := rfl
theorem vis_no {c : Int} (h : c < 33 ∨ 126 < c) : visB c = false := by unfold visB; simp; omega
theorem vis_yes {c : Int} (h : 33 ≤ c ∧ c ≤ 126) : visB c = true := by unfold visB; simp; omega
theorem plain_split (l : List UInt8) : plainS l = (visS l && (!hasB l 63 && !hasB l 35)) := by
  induction l with
  | nil => rfl
  | cons x r ih =>
    rw [plainS_cons, visS_cons, hasB_cons, hasB_cons, ih]
    have : seenB x.toNat = (visB x.toNat && (!decide ((x.toNat : Int) = 63) && !decide ((x.toNat : Int) = 35))) := by
      unfold seenB visB
      rw [Bool.eq_iff_iff]; simp; omega
    rw [this]
    cases visB x.toNat <;> cases decide ((x.toNat : Int) = 63) <;> cases decide ((x.toNat : Int) = 35) <;> simp
theorem bare_tail {c : Int} (h0 : 0 ≤ c) (h1 : c < 256) (hlo : ¬ (97 ≤ c ∧ c ≤ 122 ∨ 65 ≤ c ∧ c ≤ 90 ∨ 48 ≤ c ∧ c ≤ 57)) : decide ((0 : Int) ≤ Lib.indexByte [45, 46, 95, 126] c.toNat.toUInt8) = bareB c := by
  obtain ⟨n, rfl⟩ := Int.eq_ofNat_of_zero_le h0
  have hn : n < 256 := by omega
  have key : ∀ m : Fin 256, ¬ (97 ≤ (m.val : Int) ∧ (m.val : Int) ≤ 122 ∨ 65 ≤ (m.val : Int) ∧ (m.val : Int) ≤ 90 ∨ 48 ≤ (m.val : Int) ∧ (m.val : Int) ≤ 57) → decide ((0 : Int) ≤ Lib.indexByte [45, 46, 95, 126] (m.val : Int).toNat.toUInt8) = bareB m.val := by decide +kernel
  exact key ⟨n, hn⟩ hlo
theorem dig_bd (c : Int) : -1 ≤ digV c ∧ digV c ≤ 15 := by unfold digV; (repeat' split) <;> omega
theorem decS_cons (c : UInt8) (r : List UInt8) (h : c ≠ 37) : decS (c :: r) = (decS r).map (c :: ·) := by
  rcases r with _ | ⟨a, _ | ⟨b, r⟩⟩ <;> simp [decS, h]
theorem decS_pct (a b : UInt8) (r : List UInt8) : decS (37 :: a :: b :: r) = if digV a.toNat < 0 ∨ digV b.toNat < 0 then none else (decS r).map (hexByte a b :: ·) := by
  rw [decS, if_pos rfl]
theorem decS_end : decS [37] = none := rfl
theorem decS_end1 (a : UInt8) : decS [37, a] = none := rfl
theorem hexByte_toNat (a b : UInt8) (h1 : 0 ≤ digV a.toNat) (h2 : 0 ≤ digV b.toNat) : ((hexByte a b).toNat : Int) = 16 * digV a.toNat + digV b.toNat := by
  have := dig_bd a.toNat
  have := dig_bd b.toNat
  unfold hexByte
  rw [UInt8.toNat_ofNat']
  omega
theorem any_two (a b : UInt8) (l : List UInt8) : Lib.containsAny l [a, b] = (hasB l a.toNat || hasB l b.toNat) := by
  unfold Lib.containsAny
  induction l with
  | nil => rfl
  | cons x r ih =>
    have hge := Lib.indexAny_ge [a, b] r
    rw [hasB_cons, hasB_cons]
    unfold Lib.indexAny
    by_cases hxa : x = a
    · subst hxa; simp
    · by_cases hxb : x = b
      · subst hxb; simp
      · have h1 : [a, b].contains x = false := by simp [hxa, hxb]
        have h2 : decide ((x.toNat : Int) = a.toNat) = false := by
          rw [decide_eq_false_iff_not]; intro e; exact hxa (UInt8.toNat_inj.1 (by omega))
        have h3 : decide ((x.toNat : Int) = b.toNat) = false := by
          rw [decide_eq_false_iff_not]; intro e; exact hxb (UInt8.toNat_inj.1 (by omega))
        rw [h1, h2, h3, Bool.false_or, Bool.false_or, ← ih]
        by_cases hm : Lib.indexAny r [a, b] = -1
        · simp [hm]
        · have hm' : (Lib.indexAny r [a, b] == -1) = false := by simpa using hm
          simp only [Bool.false_eq_true, if_false, hm']
          rw [decide_eq_decide]; omega
end Go.Proofs.YthfdhanhkanhhaaDoor
