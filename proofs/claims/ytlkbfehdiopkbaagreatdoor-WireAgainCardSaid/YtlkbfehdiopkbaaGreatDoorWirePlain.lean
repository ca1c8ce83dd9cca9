/-
  Plain words of layer 11 (wire), no program in sight: what is read off the front of bytes, step by step; each step hangs on the bytes that it takes alone. No condition.
-/
import Derived.Test.YtlkbfehdiopkbaaGreatDoorRepLaws
namespace Go.Proofs.YtlkbfehdiopkbaaGreatDoor
set_option linter.unusedVariables false
set_option linter.unusedSimpArgs false

/-- a status (-1: more bytes are wanted), or what was read and what is left. -/
abbrev Rd1 (α : Type) := Except Int (α × List UInt8)
structure ReqT where
  method : List UInt8
  target : List UInt8
  hdrs : List HdrT
  body : List UInt8
  close : Bool
deriving DecidableEq

def endsCR (a : List UInt8) : Bool := decide (a.reverse.head? = some 13) && !a.dropLast.contains 13
def lineS (long broken : Int) (s : List UInt8) : Rd1 (List UInt8) :=
  match cutS [10] s with
  | none => if 1026 ≤ s.length then .error long else .error (-1)
  | some (a, b) => if 1026 ≤ a.length then .error long else if endsCR a then .ok (a.dropLast, b) else .error broken
def takeS (n : Nat) (s : List UInt8) : Rd1 (List UInt8) := if s.length < n then .error (-1) else .ok (s.take n, s.drop n)
def thenS {α β : Type} (x : Rd1 α) (f : α → List UInt8 → Rd1 β) : Rd1 β :=
  match x with
  | .error e => .error e
  | .ok (a, r) => f a r
def skipS : List UInt8 → List UInt8
  | a :: b :: r => if a = 13 ∧ b = 10 then skipS r else a :: b :: r
  | s => s
def beginS (s : List UInt8) : Rd1 (List UInt8) := lineS 414 400 (skipS s)
def vHttp : List UInt8 := [72, 84, 84, 80, 47]
def digC (c : UInt8) : Bool := decide (48 ≤ c.toNat ∧ c.toNat ≤ 57)
def verOk (v : List UInt8) : Bool := vHttp.isPrefixOf v && (match v.drop 5 with | [a, b, c] => digC a && decide (b = 46) && digC c | _ => false)
def targC (c : UInt8) : Bool := decide (33 ≤ c.toNat ∧ c.toNat ≤ 126)
def reqLine (l : List UInt8) : Except Int (List UInt8 × List UInt8) :=
  match Lib.split l [32] with
  | [m, t, v] => if tokS m && !decide (t = []) && t.all targC && verOk v then (if v = vHttp ++ [49, 46, 49] then .ok (m, t) else .error 505) else .error 400
  | _ => .error 400
def hdrOf (l : List UInt8) : Option HdrT :=
  match cutS [58] l with
  | none => none
  | some (n, v) => if tokS n && v.all (fun c => valC c.toNat) then some ⟨lowS n, trimW v⟩ else none
def headS : Nat → Nat → List HdrT → List UInt8 → Rd1 (List HdrT)
  | 0, _, hs, s => thenS (lineS 431 400 s) fun l r => if l = [] then .ok (hs, r) else .error 431
  | f + 1, sz, hs, s => thenS (lineS 431 400 s) fun l r => if l = [] then .ok (hs, r) else if 4096 < sz + l.length + 2 then .error 431 else
      match hdrOf l with
      | none => .error 400
      | some h => headS f (sz + l.length + 2) (hs ++ [h]) r
def vals (hs : List HdrT) (name : List UInt8) : List (List UInt8) := (hs.filter fun h => decide (h.name = name)).map (·.value)
def wHost : List UInt8 := [104, 111, 115, 116]
def wChunked : List UInt8 := [99, 104, 117, 110, 107, 101, 100]
def wClose : List UInt8 := [99, 108, 111, 115, 101]
def hexC (c : UInt8) : Bool := digC c || decide (97 ≤ (c ||| 32).toNat ∧ (c ||| 32).toNat ≤ 102)
def hexV (c : UInt8) : Nat := if c.toNat ≤ 57 then c.toNat - 48 else (c ||| 32).toNat - 87
def hexN (l : List UInt8) : Nat := l.foldl (fun a c => a * 16 + hexV c) 0
def sizeS (l : List UInt8) : Option Nat :=
  let h := l.takeWhile hexC
  if h = [] ∨ 8 < h.length then none
  else match l.drop h.length with
    | [] => some (hexN h)
    | c :: _ => if c = 59 ∨ c = 32 ∨ c = 9 then some (hexN h) else none
def trailS : Nat → List UInt8 → Rd1 Unit
  | 0, s => thenS (lineS 431 400 s) fun l r => if l = [] then .ok ((), r) else .error 431
  | f + 1, s => thenS (lineS 431 400 s) fun l r => if l = [] then .ok ((), r) else trailS f r
def oneS (c : UInt8) (s : List UInt8) : Rd1 Unit := thenS (takeS 1 s) fun d r => if d = [c] then .ok ((), r) else .error 400
def chunksS : Nat → List UInt8 → List UInt8 → Rd1 (List UInt8)
  | 0, _, _ => .error 413
  | f + 1, out, s => thenS (lineS 400 400 s) fun l r =>
      match sizeS l with
      | none => .error 400
      | some n => if n = 0 then thenS (trailS 32 r) fun _ r => .ok (out, r)
        else if 8192 < out.length + n then .error 413
        else thenS (takeS n r) fun d r => thenS (oneS 13 r) fun _ r => thenS (oneS 10 r) fun _ r => chunksS f (out ++ d) r
def bodyS (hs : List HdrT) (s : List UInt8) : Rd1 (List UInt8) :=
  if (vals hs wHost).length ≠ 1 ∨ (vals hs wCoding ≠ [] ∧ vals hs wLength ≠ []) then .error 400
  else match vals hs wCoding with
    | _ :: _ :: _ => .error 501
    | [c] => if lowS c = wChunked then chunksS 8193 [] s else .error 501
    | [] => match vals hs wLength with
      | [] => .ok ([], s)
      | [v] => if v = [] ∨ 18 < v.length ∨ v.all digC = false then .error 400 else if 8192 < numS v then .error 413 else takeS (numS v) s
      | _ => .error 400
def closeS (hs : List HdrT) : Bool := (vals hs wConn).any fun v => (Lib.split v [44]).any fun p => decide (lowS (trimW p) = wClose)
def readW (s : List UInt8) : Rd1 ReqT :=
  thenS (beginS s) fun l r =>
    match reqLine l with
    | .error e => .error e
    | .ok (m, t) => thenS (headS 32 0 [] r) fun hs r => thenS (bodyS hs r) fun b r => .ok (⟨m, t, hs, b, closeS hs⟩, r)

/-! read off the front -/
/-- not a byte behind what is taken makes a difference; what is refused stays refused. -/
structure Front {α : Type} (p : List UInt8 → Rd1 α) : Prop where
  ok : ∀ s a r, p s = .ok (a, r) → ∃ u, s = u ++ r ∧ ∀ t, p (u ++ t) = .ok (a, t)
  no : ∀ s e, p s = .error e → e ≠ -1 → ∀ t, p (s ++ t) = .error e
theorem Front.error {α : Type} (e : Int) : Front (fun _ => (.error e : Rd1 α)) := ⟨(fun s a r h => by cases h), (fun s e' h _ t => h)⟩
theorem Front.pure {α : Type} (a : α) : Front (fun s => (.ok (a, s) : Rd1 α)) :=
  ⟨(fun s a' r h => by injection h with h; injection h with h1 h2; subst h1 h2; exact ⟨[], rfl, fun t => rfl⟩), (fun s e h => by cases h)⟩
theorem thenS_ok {α β : Type} {x : Rd1 α} {f : α → List UInt8 → Rd1 β} {b : β} {r : List UInt8} (h : thenS x f = .ok (b, r)) : ∃ a q, x = .ok (a, q) ∧ f a q = .ok (b, r) := by
  rcases x with e | ⟨a, q⟩
  · cases h
  · exact ⟨a, q, rfl, h⟩
theorem thenS_no {α β : Type} {x : Rd1 α} {f : α → List UInt8 → Rd1 β} {e : Int} (h : thenS x f = .error e) : x = .error e ∨ ∃ a q, x = .ok (a, q) ∧ f a q = .error e := by
  rcases x with e' | ⟨a, q⟩
  · injection h with h
    subst h
    exact .inl rfl
  · exact .inr ⟨a, q, rfl, h⟩
theorem Front.then {α β : Type} {p : List UInt8 → Rd1 α} {f : α → List UInt8 → Rd1 β} (hp : Front p) (hf : ∀ a, Front (f a)) : Front (fun s => thenS (p s) f) := by
  refine ⟨fun s b r h => ?_, fun s e h he t => ?_⟩
  · obtain ⟨a, q, h1, h2⟩ := thenS_ok h
    obtain ⟨u, rfl, hu⟩ := hp.ok _ _ _ h1
    obtain ⟨v, rfl, hv⟩ := (hf a).ok _ _ _ h2
    refine ⟨u ++ v, by rw [List.append_assoc], fun t => ?_⟩
    show thenS (p (u ++ v ++ t)) f = _
    rw [List.append_assoc, hu]
    exact hv t
  · rcases thenS_no h with h1 | ⟨a, q, h1, h2⟩
    · show thenS (p (s ++ t)) f = _
      rw [hp.no _ _ h1 he t]
      rfl
    · obtain ⟨u, rfl, hu⟩ := hp.ok _ _ _ h1
      show thenS (p (u ++ q ++ t)) f = _
      rw [List.append_assoc, hu]
      exact (hf a).no _ _ h2 he t
theorem cut1_cons (c x : UInt8) (r : List UInt8) : cutS [c] (x :: r) = if x = c then some ([], r) else (cutS [c] r).map fun p => (x :: p.1, p.2) := by
  show (if [c].isPrefixOf (x :: r) = true then some ([], (x :: r).drop 1) else _) = _
  by_cases hx : x = c
  · subst hx
    rw [if_pos rfl, if_pos (by simp [List.isPrefixOf])]
    rfl
  · rw [if_neg hx, if_neg]
    simp only [List.isPrefixOf, Bool.and_true, beq_iff_eq]
    exact fun e => hx e.symm
theorem cut1_some {c : UInt8} {s a b : List UInt8} (h : cutS [c] s = some (a, b)) : s = a ++ c :: b ∧ c ∉ a := by
  induction s generalizing a with
  | nil => simp [cutS] at h
  | cons x r ih =>
    rw [cut1_cons] at h
    by_cases hx : x = c
    · rw [if_pos hx] at h
      injection h with h
      injection h with h1 h2
      subst h1 h2 hx
      exact ⟨rfl, by simp⟩
    · rw [if_neg hx] at h
      obtain ⟨⟨p, q⟩, hc, hpq⟩ := Option.map_eq_some_iff.1 h
      injection hpq with h1 h2
      subst h1 h2
      obtain ⟨i2, i3⟩ := ih hc
      refine ⟨by rw [i2]; rfl, fun hm => ?_⟩
      rcases List.mem_cons.1 hm with hm | hm
      · exact hx hm.symm
      · exact i3 hm
theorem cut1_none {c : UInt8} {s : List UInt8} (h : cutS [c] s = none) : c ∉ s := by
  induction s with
  | nil => simp
  | cons x r ih =>
    rw [cut1_cons] at h
    by_cases hx : x = c
    · rw [if_pos hx] at h; cases h
    · rw [if_neg hx, Option.map_eq_none_iff] at h
      intro hm
      rcases List.mem_cons.1 hm with hm | hm
      · exact hx hm.symm
      · exact ih h hm
theorem cut1_skip {c : UInt8} : ∀ {s : List UInt8}, c ∉ s → ∀ t, cutS [c] (s ++ t) = (cutS [c] t).map fun p => (s ++ p.1, p.2)
  | [], _, t => by
    rw [List.nil_append]
    cases cutS [c] t with
    | none => rfl
    | some p => rfl
  | x :: s, h, t => by
    have hx : ¬ x = c := fun e => h (by simp [e])
    rw [List.cons_append, cut1_cons, if_neg hx, cut1_skip (fun hm => h (by simp [hm])) t]
    cases cutS [c] t with
    | none => rfl
    | some p => rfl
theorem cut1_at {c : UInt8} {a : List UInt8} (h : c ∉ a) (b : List UInt8) : cutS [c] (a ++ c :: b) = some (a, b) := by
  rw [cut1_skip h, cut1_cons, if_pos rfl]
  simp
theorem endsCR_iff (a : List UInt8) : endsCR a = true ↔ ∃ q, a = q ++ [13] ∧ (13 : UInt8) ∉ q := by
  unfold endsCR
  rcases last_cases a with rfl | ⟨q, x, rfl⟩
  · simp
  · simp only [List.reverse_append, List.reverse_cons, List.reverse_nil, List.nil_append, List.singleton_append, List.head?_cons, List.dropLast_concat, Bool.and_eq_true, decide_eq_true_eq, Bool.not_eq_true', List.contains_eq_mem, decide_eq_false_iff_not]
    constructor
    · rintro ⟨h1, h2⟩
      injection h1 with h1
      subst h1
      exact ⟨q, rfl, h2⟩
    · rintro ⟨q', h1, h2⟩
      have h3 := List.append_inj' h1 rfl
      obtain ⟨rfl, h3⟩ := h3
      injection h3 with h3
      exact ⟨by rw [h3], h2⟩
theorem lineS_mk (long broken : Int) {l : List UInt8} (r : List UInt8) (h1 : (13 : UInt8) ∉ l) (h2 : (10 : UInt8) ∉ l) (h3 : l.length ≤ 1024) : lineS long broken (l ++ 13 :: 10 :: r) = .ok (l, r) := by
  have hc : cutS [10] (l ++ 13 :: 10 :: r) = some (l ++ [13], r) := by
    have := cut1_at (c := 10) (a := l ++ [13]) (by simp [h2]) r
    rwa [List.append_assoc] at this
  unfold lineS
  rw [hc]
  simp only
  rw [if_neg (by simp; omega), if_pos ((endsCR_iff _).2 ⟨l, rfl, h1⟩), List.dropLast_concat]
theorem lineS_ok {long broken : Int} {s l r : List UInt8} (h : lineS long broken s = .ok (l, r)) : s = l ++ 13 :: 10 :: r ∧ (13 : UInt8) ∉ l ∧ (10 : UInt8) ∉ l ∧ l.length ≤ 1024 := by
  unfold lineS at h
  rcases hc : cutS [10] s with _ | ⟨a, b⟩
  · rw [hc] at h
    simp only at h
    split at h <;> cases h
  · rw [hc] at h
    simp only at h
    by_cases h1 : 1026 ≤ a.length
    · rw [if_pos h1] at h; cases h
    · rw [if_neg h1] at h
      by_cases h2 : endsCR a = true
      · rw [if_pos h2] at h
        obtain ⟨q, rfl, hq⟩ := (endsCR_iff a).1 h2
        injection h with h
        injection h with h3 h4
        rw [List.dropLast_concat] at h3
        subst h3 h4
        obtain ⟨h5, h6⟩ := cut1_some hc
        exact ⟨by rw [h5]; simp, hq, fun hm => h6 (by simp [hm]), by simp at h1; omega⟩
      · rw [if_neg h2] at h; cases h
theorem lineS_front (long broken : Int) : Front (lineS long broken) := by
  refine ⟨fun s l r h => ?_, fun s e h he t => ?_⟩
  · obtain ⟨rfl, h1, h2, h3⟩ := lineS_ok h
    exact ⟨l ++ [13, 10], by simp, fun t => by rw [List.append_assoc]; exact lineS_mk long broken t h1 h2 h3⟩
  · unfold lineS at h ⊢
    rcases hc : cutS [10] s with _ | ⟨a, b⟩
    · rw [hc] at h
      simp only at h
      by_cases h1 : 1026 ≤ s.length
      · rw [if_pos h1] at h
        rw [cut1_skip (cut1_none hc) t]
        rcases cutS [10] t with _ | ⟨a, b⟩
        · simp only [Option.map_none]
          rw [if_pos (by rw [List.length_append]; omega)]
          exact h
        · simp only [Option.map_some]
          rw [if_pos (by rw [List.length_append]; omega)]
          exact h
      · rw [if_neg h1] at h
        injection h with h
        exact absurd h.symm he
    · obtain ⟨h5, h6⟩ := cut1_some hc
      rw [hc] at h
      have : cutS [10] (s ++ t) = some (a, b ++ t) := by
        rw [h5, List.append_assoc]
        exact cut1_at h6 (b ++ t)
      rw [this]
      simp only at h ⊢
      by_cases h1 : 1026 ≤ a.length
      · rw [if_pos h1] at h ⊢; exact h
      · rw [if_neg h1] at h ⊢
        by_cases h2 : endsCR a = true
        · rw [if_pos h2] at h; cases h
        · rw [if_neg h2] at h ⊢; exact h
theorem takeS_front (n : Nat) : Front (takeS n) := by
  refine ⟨fun s d r h => ?_, fun s e h he t => ?_⟩
  · unfold takeS at h
    by_cases h1 : s.length < n
    · rw [if_pos h1] at h; cases h
    · rw [if_neg h1] at h
      injection h with h
      injection h with h2 h3
      subst h2 h3
      refine ⟨s.take n, (List.take_append_drop n s).symm, fun t => ?_⟩
      have hl : (s.take n).length = n := by rw [List.length_take]; omega
      unfold takeS
      rw [if_neg (by rw [List.length_append]; omega)]
      rw [List.take_append_of_le_length (by omega), List.drop_append_of_le_length (by omega), List.take_of_length_le (by omega), List.drop_of_length_le (by omega)]
      rfl
  · unfold takeS at h
    split at h
    · injection h with h
      exact absurd h.symm he
    · cases h
theorem skip_blank (r : List UInt8) : skipS (13 :: 10 :: r) = skipS r := by
  rw [skipS, if_pos ⟨rfl, rfl⟩]
theorem skip_cases (s : List UInt8) : (∃ r, s = 13 :: 10 :: r) ∨ s = [] ∨ s = [13] ∨ ∀ t, skipS (s ++ t) = s ++ t := by
  rcases s with _ | ⟨a, _ | ⟨b, r⟩⟩
  · exact .inr (.inl rfl)
  · by_cases h : a = 13
    · subst h; exact .inr (.inr (.inl rfl))
    · refine .inr (.inr (.inr fun t => ?_))
      cases t with
      | nil => rfl
      | cons b t =>
        show skipS (a :: b :: t) = _
        rw [skipS, if_neg (fun hh => h hh.1)]
        rfl
  · by_cases h : a = 13 ∧ b = 10
    · obtain ⟨rfl, rfl⟩ := h
      exact .inl ⟨r, rfl⟩
    · refine .inr (.inr (.inr fun t => ?_))
      show skipS (a :: b :: (r ++ t)) = _
      rw [skipS, if_neg h]
      rfl
theorem begin_blank (r : List UInt8) : beginS (13 :: 10 :: r) = beginS r := by
  unfold beginS
  rw [skip_blank]
theorem begin_short : beginS [] = .error (-1) ∧ beginS [13] = .error (-1) := ⟨rfl, rfl⟩
theorem beginS_front_aux : ∀ n : Nat, (∀ s l r, s.length ≤ n → beginS s = .ok (l, r) → ∃ u, s = u ++ r ∧ ∀ t, beginS (u ++ t) = .ok (l, t)) ∧ (∀ s e, s.length ≤ n → beginS s = .error e → e ≠ -1 → ∀ t, beginS (s ++ t) = .error e) := by
  intro n
  induction n with
  | zero =>
    refine ⟨fun s l r hn h => ?_, fun s e hn h he t => ?_⟩ <;> (obtain rfl : s = [] := List.eq_nil_of_length_eq_zero (by omega))
    · rw [begin_short.1] at h; cases h
    · rw [begin_short.1] at h; injection h with h; exact absurd h.symm he
  | succ n ih =>
    refine ⟨fun s l r hn h => ?_, fun s e hn h he t => ?_⟩
    · rcases skip_cases s with ⟨q, rfl⟩ | rfl | rfl | hs
      · rw [begin_blank] at h
        obtain ⟨u, rfl, hu⟩ := ih.1 q l r (by simp at hn; omega) h
        exact ⟨13 :: 10 :: u, rfl, fun t => by rw [List.cons_append, List.cons_append, begin_blank, hu]⟩
      · rw [begin_short.1] at h; cases h
      · rw [begin_short.2] at h; cases h
      · unfold beginS at h
        have h0 := hs []
        rw [List.append_nil] at h0
        rw [h0] at h
        obtain ⟨rfl, h1, h2, h3⟩ := lineS_ok h
        refine ⟨l ++ [13, 10], by simp, fun t => ?_⟩
        unfold beginS
        rw [List.append_assoc]
        have : skipS (l ++ ([13, 10] ++ t)) = l ++ ([13, 10] ++ t) := by
          rcases l with _ | ⟨a, _ | ⟨b, l⟩⟩
          · exfalso
            have h4 := skip_blank r
            rw [List.nil_append] at h0
            rw [h0] at h4
            have h5 : (skipS r).length ≤ r.length := by
              clear h h0 hs hn ih h1 h2 h3 h4
              have key : ∀ n (r : List UInt8), r.length ≤ n → (skipS r).length ≤ r.length := by
                intro n
                induction n with
                | zero => intro r hr; obtain rfl : r = [] := List.eq_nil_of_length_eq_zero (by omega); simp [skipS]
                | succ n ih =>
                  intro r hr
                  rcases r with _ | ⟨a, _ | ⟨b, r⟩⟩
                  · simp [skipS]
                  · simp [skipS]
                  · rw [skipS]
                    split
                    · have := ih r (by simp at hr; omega)
                      simp; omega
                    · exact Nat.le_refl _
              exact key _ r (Nat.le_refl _)
            rw [← h4] at h5
            simp at h5
            omega
          · show skipS (a :: 13 :: 10 :: t) = _
            rw [skipS, if_neg (fun hh => absurd hh.2 (by decide))]
            rfl
          · show skipS (a :: b :: (l ++ ([13, 10] ++ t))) = _
            rw [skipS, if_neg (fun hh => h2 (by simp [hh.2]))]
            rfl
        rw [this]
        exact lineS_mk _ _ t h1 h2 h3
    · rcases skip_cases s with ⟨q, rfl⟩ | rfl | rfl | hs
      · rw [begin_blank] at h
        rw [List.cons_append, List.cons_append, begin_blank]
        exact ih.2 q e (by simp at hn; omega) h he t
      · rw [begin_short.1] at h; injection h with h; exact absurd h.symm he
      · rw [begin_short.2] at h; injection h with h; exact absurd h.symm he
      · unfold beginS at h ⊢
        have h0 := hs []
        rw [List.append_nil] at h0
        rw [h0] at h
        rw [hs t]
        exact (lineS_front _ _).no _ _ h he t
theorem beginS_front : Front beginS := ⟨fun s l r => (beginS_front_aux s.length).1 s l r (Nat.le_refl _), fun s e => (beginS_front_aux s.length).2 s e (Nat.le_refl _)⟩
theorem Front.ite {α : Type} {c : Prop} [Decidable c] {p q : List UInt8 → Rd1 α} (hp : Front p) (hq : Front q) : Front (fun s => if c then p s else q s) := by
  by_cases h : c
  · simp only [if_pos h]; exact hp
  · simp only [if_neg h]; exact hq
theorem headS_front : ∀ (f sz : Nat) (hs : List HdrT), Front (headS f sz hs)
  | 0, sz, hs => (lineS_front _ _).then fun l => Front.ite (Front.pure _) (Front.error _)
  | f + 1, sz, hs => (lineS_front _ _).then fun l => Front.ite (Front.pure _) (Front.ite (Front.error _) (by
      cases hdrOf l with
      | none => exact Front.error _
      | some h => exact headS_front f _ _))
theorem trailS_front : ∀ f : Nat, Front (trailS f)
  | 0 => (lineS_front _ _).then fun l => Front.ite (Front.pure _) (Front.error _)
  | f + 1 => (lineS_front _ _).then fun l => Front.ite (Front.pure _) (trailS_front f)
theorem oneS_front (c : UInt8) : Front (oneS c) := (takeS_front 1).then fun d => Front.ite (Front.pure _) (Front.error _)
theorem chunksS_front : ∀ (f : Nat) (out : List UInt8), Front (chunksS f out)
  | 0, _ => Front.error _
  | f + 1, out => (lineS_front _ _).then fun l => by
      cases sizeS l with
      | none => exact Front.error _
      | some n => exact Front.ite ((trailS_front 32).then fun _ => Front.pure _) (Front.ite (Front.error _) ((takeS_front n).then fun d => (oneS_front 13).then fun _ => (oneS_front 10).then fun _ => chunksS_front f (out ++ d)))
theorem bodyS_front (hs : List HdrT) : Front (bodyS hs) := by
  unfold bodyS
  refine Front.ite (Front.error _) ?_
  rcases vals hs wCoding with _ | ⟨c, _ | ⟨c2, cs⟩⟩
  · rcases vals hs wLength with _ | ⟨v, _ | ⟨v2, vs⟩⟩
    · exact Front.pure _
    · exact Front.ite (Front.error _) (Front.ite (Front.error _) (takeS_front _))
    · exact Front.error _
  · exact Front.ite (chunksS_front _ _) (Front.error _)
  · exact Front.error _
theorem readW_front : Front readW := beginS_front.then fun l => by
  rcases reqLine l with e | ⟨m, t⟩
  · exact Front.error _
  · exact (headS_front _ _ _).then fun hs => (bodyS_front hs).then fun b => Front.pure _
/-! which statuses -/
def Stat (e : Int) : Prop := e = -1 ∨ 400 ≤ e ∧ e ≤ 505
def Stats {α : Type} (p : List UInt8 → Rd1 α) : Prop := ∀ s e, p s = .error e → Stat e
theorem Stats.err {α : Type} {e : Int} (h : Stat e) : Stats (fun _ => (.error e : Rd1 α)) := fun s e' h' => by injection h' with h'; rw [← h']; exact h
theorem Stats.pure {α : Type} (a : α) : Stats (fun s => (.ok (a, s) : Rd1 α)) := fun s e h => by cases h
theorem Stats.then {α β : Type} {p : List UInt8 → Rd1 α} {f : α → List UInt8 → Rd1 β} (hp : Stats p) (hf : ∀ a, Stats (f a)) : Stats (fun s => thenS (p s) f) := fun s e h => by
  rcases thenS_no h with h1 | ⟨a, q, h1, h2⟩
  · exact hp _ _ h1
  · exact hf a _ _ h2
theorem Stats.ite {α : Type} {c : Prop} [Decidable c] {p q : List UInt8 → Rd1 α} (hp : Stats p) (hq : Stats q) : Stats (fun s => if c then p s else q s) := by
  by_cases h : c
  · simp only [if_pos h]; exact hp
  · simp only [if_neg h]; exact hq
theorem lineS_stats {long broken : Int} (h1 : Stat long) (h2 : Stat broken) : Stats (lineS long broken) := fun s e h => by
  unfold lineS at h
  split at h
  · split at h
    · injection h with h; rw [← h]; exact h1
    · injection h with h; exact .inl h.symm
  · split at h
    · injection h with h; rw [← h]; exact h1
    · split at h
      · cases h
      · injection h with h; rw [← h]; exact h2
theorem takeS_stats (n : Nat) : Stats (takeS n) := fun s e h => by
  unfold takeS at h
  split at h
  · injection h with h; exact .inl h.symm
  · cases h
theorem st400 : Stat 400 := .inr (by omega)
theorem st413 : Stat 413 := .inr (by omega)
theorem st414 : Stat 414 := .inr (by omega)
theorem st431 : Stat 431 := .inr (by omega)
theorem st501 : Stat 501 := .inr (by omega)
theorem st505 : Stat 505 := .inr (by omega)
theorem headS_stats : ∀ (f sz : Nat) (hs : List HdrT), Stats (headS f sz hs)
  | 0, sz, hs => (lineS_stats st431 st400).then fun l => Stats.ite (Stats.pure _) (Stats.err st431)
  | f + 1, sz, hs => (lineS_stats st431 st400).then fun l => Stats.ite (Stats.pure _) (Stats.ite (Stats.err st431) (by
      cases hdrOf l with
      | none => exact Stats.err st400
      | some h => exact headS_stats f _ _))
theorem trailS_stats : ∀ f : Nat, Stats (trailS f)
  | 0 => (lineS_stats st431 st400).then fun l => Stats.ite (Stats.pure _) (Stats.err st431)
  | f + 1 => (lineS_stats st431 st400).then fun l => Stats.ite (Stats.pure _) (trailS_stats f)
theorem oneS_stats (c : UInt8) : Stats (oneS c) := (takeS_stats 1).then fun d => Stats.ite (Stats.pure _) (Stats.err st400)
theorem chunksS_stats : ∀ (f : Nat) (out : List UInt8), Stats (chunksS f out)
  | 0, _ => Stats.err st413
  | f + 1, out => (lineS_stats st400 st400).then fun l => by
      cases sizeS l with
      | none => exact Stats.err st400
      | some n => exact Stats.ite ((trailS_stats 32).then fun _ => Stats.pure _) (Stats.ite (Stats.err st413) ((takeS_stats n).then fun d => (oneS_stats 13).then fun _ => (oneS_stats 10).then fun _ => chunksS_stats f (out ++ d)))
theorem bodyS_stats (hs : List HdrT) : Stats (bodyS hs) := by
  unfold bodyS
  refine Stats.ite (Stats.err st400) ?_
  rcases vals hs wCoding with _ | ⟨c, _ | ⟨c2, cs⟩⟩
  · rcases vals hs wLength with _ | ⟨v, _ | ⟨v2, vs⟩⟩
    · exact Stats.pure _
    · exact Stats.ite (Stats.err st400) (Stats.ite (Stats.err st413) (takeS_stats _))
    · exact Stats.err st400
  · exact Stats.ite (chunksS_stats _ _) (Stats.err st501)
  · exact Stats.err st501
theorem reqLine_stats {l : List UInt8} {e : Int} (h : reqLine l = .error e) : Stat e := by
  unfold reqLine at h
  split at h
  · split at h
    · split at h
      · cases h
      · injection h with h; rw [← h]; exact st505
    · injection h with h; rw [← h]; exact st400
  · injection h with h; rw [← h]; exact st400
theorem readW_stats : Stats readW := by
  refine Stats.then (p := beginS) (fun s e h => lineS_stats st414 st400 _ _ h) fun l => ?_
  rcases hl : reqLine l with e | ⟨m, t⟩
  · exact Stats.err (reqLine_stats hl)
  · exact (headS_stats _ _ _).then fun hs => (bodyS_stats hs).then fun b => Stats.pure _

/-! the law of the front -/
theorem front_more {buf behind r : List UInt8} {q : ReqT} (h : readW buf = .error (-1)) (h2 : readW (buf ++ behind) = .ok (q, r)) : r.length < behind.length := by
  obtain ⟨u, hu, ht⟩ := readW_front.ok _ _ _ h2
  rcases Nat.lt_or_ge r.length behind.length with hlt | hge
  · exact hlt
  · exfalso
    have h3 : ∃ x, buf = u ++ x := by
      refine ⟨buf.drop u.length, ?_⟩
      have hl := congrArg List.length hu
      simp only [List.length_append] at hl
      have h4 := congrArg (List.take u.length) hu
      rw [List.take_left, List.take_append_of_le_length (by omega)] at h4
      conv => lhs; rw [← List.take_append_drop u.length buf, h4]
    obtain ⟨x, rfl⟩ := h3
    rw [ht x] at h
    cases h
theorem front_no {buf : List UInt8} {e : Int} (h : readW buf = .error e) (he : e ≠ -1) (behind : List UInt8) : readW (buf ++ behind) = .error e ∧ 400 ≤ e ∧ e ≤ 505 :=
  ⟨readW_front.no _ _ h he behind, (readW_stats _ _ h).resolve_left he⟩
theorem front_ok {buf r : List UInt8} {q : ReqT} (h : readW buf = .ok (q, r)) (behind : List UInt8) :
    readW (buf ++ behind) = .ok (q, r ++ behind) ∧ r.length < buf.length ∧ ∀ k, k < buf.length - r.length → readW (buf.take k) = .error (-1) := by
  obtain ⟨u, rfl, ht⟩ := readW_front.ok _ _ _ h
  have hu : u ≠ [] := fun e => by
    subst e
    have := ht []
    rw [show readW ([] ++ []) = .error (-1) from rfl] at this
    cases this
  refine ⟨by rw [List.append_assoc, ht], ?_, fun k hk => ?_⟩
  · have := List.length_pos_iff.2 hu
    rw [List.length_append]; omega
  · rw [List.length_append] at hk
    have e1 : (u ++ r).take k = u.take k := List.take_append_of_le_length (by omega)
    rw [e1]
    rcases hx : readW (u.take k) with e | ⟨a, q'⟩
    · by_cases he : e = -1
      · rw [he]
      · exfalso
        have := readW_front.no _ _ hx he (u.drop k)
        rw [List.take_append_drop] at this
        have h0 := ht []
        rw [List.append_nil] at h0
        rw [h0] at this
        cases this
    · exfalso
      obtain ⟨v, hv, hvt⟩ := readW_front.ok _ _ _ hx
      have h0 := ht []
      rw [List.append_nil] at h0
      have h1 := hvt (q' ++ u.drop k)
      rw [← List.append_assoc, ← hv, List.take_append_drop, h0] at h1
      injection h1 with h1
      injection h1 with _ h1
      have := congrArg List.length h1
      rw [List.length_append, List.length_drop, List.length_nil] at this
      omega
end Go.Proofs.YtlkbfehdiopkbaaGreatDoor
