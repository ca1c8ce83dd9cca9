/-
  Plain laws of layer 11 (wire): a request that is written is read; bodies with a length and in chunks; just as long as may be is taken. No condition.
-/
import Derived.Test.YtlkbfehdiopkbaaGreatDoorWirePlain
namespace Go.Proofs.YtlkbfehdiopkbaaGreatDoor
set_option linter.unusedVariables false
set_option linter.unusedSimpArgs false

theorem index1 {c : UInt8} {l : List UInt8} (r : List UInt8) (h : c ∉ l) : Lib.index (l ++ c :: r) [c] = l.length := by
  have h1 := index_cut [c] (l ++ c :: r)
  rw [cut1_at h r] at h1
  exact h1.1
theorem index1_no {c : UInt8} {l : List UInt8} (h : c ∉ l) : Lib.index l [c] = -1 := by
  have h1 := index_cut [c] l
  have h2 : cutS [c] l = none := by
    have := cut1_skip h []
    rw [List.append_nil] at this
    rw [this]; rfl
  rw [h2] at h1
  exact h1
theorem countFrom1 (c : UInt8) : ∀ (f : Nat) (s : List UInt8), s.length < f → Lib.countFrom [c] f s = s.count c
  | 0, _, h => absurd h (Nat.not_lt_zero _)
  | f + 1, s, h => by
    unfold Lib.countFrom
    rcases hc : cutS [c] s with _ | ⟨a, b⟩
    · have h0 := cut1_none hc
      rw [index1_no h0, if_pos (by decide), List.count_eq_zero.2 h0]
    · obtain ⟨rfl, ha⟩ := cut1_some hc
      have e2 : (a ++ c :: b).drop ((a.length : Int).toNat + [c].length) = b := by
        rw [Int.toNat_natCast]
        simp
      rw [index1 b ha, if_neg (by rw [beq_iff_eq]; omega), e2, countFrom1 c f b (by simp at h; omega), List.count_append, List.count_eq_zero.2 ha, List.count_cons_self]
      omega
theorem count1 (c : UInt8) (s : List UInt8) : Lib.count s [c] = s.count c := countFrom1 c _ _ (Nat.lt_succ_self _)
theorem split1 {c : UInt8} {a : List UInt8} (b : List UInt8) (h : c ∉ a) : Lib.split (a ++ c :: b) [c] = a :: Lib.split b [c] := by
  unfold Lib.split
  rw [count1, count1, List.count_append, List.count_eq_zero.2 h, List.count_cons_self, Nat.zero_add, Lib.splitK, index1 b h, if_neg (by rw [beq_iff_eq]; omega)]
  simp
theorem split1_no {c : UInt8} {a : List UInt8} (h : c ∉ a) : Lib.split a [c] = [a] := by
  unfold Lib.split
  rw [count1, List.count_eq_zero.2 h]
  rfl
def LineS (l : List UInt8) : Prop := (13 : UInt8) ∉ l ∧ (10 : UInt8) ∉ l ∧ l.length ≤ 1024
theorem LineS.read {l : List UInt8} (h : LineS l) (long broken : Int) (r : List UInt8) : lineS long broken (l ++ 13 :: 10 :: r) = .ok (l, r) := lineS_mk _ _ _ h.1 h.2.1 h.2.2
theorem lineS_long {l : List UInt8} (long broken : Int) (r : List UInt8) (h2 : (10 : UInt8) ∉ l) (h3 : 1024 < l.length) : lineS long broken (l ++ 13 :: 10 :: r) = .error long := by
  have hc : cutS [10] (l ++ 13 :: 10 :: r) = some (l ++ [13], r) := by
    have := cut1_at (c := 10) (a := l ++ [13]) (by simp [h2]) r
    rwa [List.append_assoc] at this
  unfold lineS
  rw [hc]
  simp only
  rw [if_pos (by simp; omega)]
theorem begin_line {l : List UInt8} (h : LineS l) (hne : l ≠ []) (r : List UInt8) : beginS (l ++ 13 :: 10 :: r) = .ok (l, r) := by
  unfold beginS
  have : skipS (l ++ 13 :: 10 :: r) = l ++ 13 :: 10 :: r := by
    rcases l with _ | ⟨a, _ | ⟨b, l⟩⟩
    · exact absurd rfl hne
    · show skipS (a :: 13 :: 10 :: r) = _
      rw [skipS, if_neg (fun hh => absurd hh.2 (by decide))]
      rfl
    · show skipS (a :: b :: (l ++ 13 :: 10 :: r)) = _
      rw [skipS, if_neg (fun hh => h.2.1 (by simp [hh.2]))]
      rfl
  rw [this]
  exact h.read _ _ _
theorem begin_long {l : List UInt8} (h2 : (10 : UInt8) ∉ l) (h3 : 1024 < l.length) (r : List UInt8) : beginS (l ++ 13 :: 10 :: r) = .error 414 := by
  unfold beginS
  have : skipS (l ++ 13 :: 10 :: r) = l ++ 13 :: 10 :: r := by
    rcases l with _ | ⟨a, _ | ⟨b, l⟩⟩
    · simp at h3
    · simp at h3
    · show skipS (a :: b :: (l ++ 13 :: 10 :: r)) = _
      rw [skipS, if_neg (fun hh => h2 (by simp [hh.2]))]
      rfl
  rw [this]
  exact lineS_long _ _ _ h2 h3
/-! headers -/
/-- a header's line: what it says. -/
structure HdrL (l : List UInt8) (h : HdrT) : Prop where
  line : LineS l
  ne : l ≠ []
  hdr : hdrOf l = some h
def hText (ls : List (List UInt8)) : List UInt8 := ls.flatMap (· ++ [13, 10])
def hSize (ls : List (List UInt8)) : Nat := (ls.map fun l => l.length + 2).sum
theorem headS_end (f sz : Nat) (hs : List HdrT) (r : List UInt8) : headS f sz hs (13 :: 10 :: r) = .ok (hs, r) := by
  have h : ∀ long broken, lineS long broken (13 :: 10 :: r) = .ok ([], r) := fun long broken => lineS_mk (l := []) long broken r (by simp) (by simp) (by simp)
  cases f with
  | zero => unfold headS; rw [h]; rfl
  | succ f => unfold headS; rw [h]; rfl
theorem headS_cons (f sz : Nat) (hs : List HdrT) {l : List UInt8} {h : HdrT} (hl : HdrL l h) (hz : sz + l.length + 2 ≤ 4096) (r : List UInt8) : headS (f + 1) sz hs (l ++ 13 :: 10 :: r) = headS f (sz + l.length + 2) (hs ++ [h]) r := by
  rw [headS, hl.line.read]
  show (if l = [] then _ else if 4096 < sz + l.length + 2 then _ else (match hdrOf l with
      | none => .error 400
      | some h => headS f (sz + l.length + 2) (hs ++ [h]) r : Rd1 (List HdrT))) = _
  rw [if_neg hl.ne, if_neg (by omega), hl.hdr]
theorem headS_all : ∀ (ls : List (List UInt8)) (hs' : List HdrT), ls.length = hs'.length → (∀ (j : Nat) l h, ls[j]? = some l → hs'[j]? = some h → HdrL l h) → ∀ (f sz : Nat) (hs : List HdrT) (r : List UInt8), ls.length ≤ f → sz + hSize ls ≤ 4096 →
    headS f sz hs (hText ls ++ r) = headS (f - ls.length) (sz + hSize ls) (hs ++ hs') r
  | [], hs', hl, _, f, sz, hs, r, _, _ => by
    obtain rfl : hs' = [] := List.eq_nil_of_length_eq_zero (by rw [← hl]; rfl)
    simp [hText, hSize]
  | l :: ls, [], hl, _, _, _, _, _, _, _ => by simp at hl
  | l :: ls, h :: hs', hl, hh, 0, sz, hs, r, hf, _ => by simp at hf
  | l :: ls, h :: hs', hl, hh, f + 1, sz, hs, r, hf, hz => by
    have h0 := hh 0 l h rfl rfl
    have hz' : sz + (l.length + 2 + hSize ls) ≤ 4096 := by simpa [hSize] using hz
    have e : hText (l :: ls) ++ r = l ++ 13 :: 10 :: (hText ls ++ r) := by simp [hText]
    rw [e, headS_cons f sz hs h0 (by omega), headS_all ls hs' (by simpa using hl) (fun j l' h' h1 h2 => hh (j + 1) l' h' (by simpa using h1) (by simpa using h2)) f _ _ r (by simpa using hf) (by omega)]
    have e2 : sz + l.length + 2 + hSize ls = sz + hSize (l :: ls) := by simp [hSize]; omega
    rw [e2]
    simp
/-- one header too many, or too many bytes of them. -/
theorem headS_over {l : List UInt8} (hl : LineS l) (hne : l ≠ []) (f sz : Nat) (hs : List HdrT) (r : List UInt8) (h : f = 0 ∨ 4096 < sz + l.length + 2) : headS f sz hs (l ++ 13 :: 10 :: r) = .error 431 := by
  cases f with
  | zero => rw [headS, hl.read]; show (if l = [] then _ else _) = _; rw [if_neg hne]
  | succ f =>
    rw [headS, hl.read]
    show (if l = [] then _ else if 4096 < sz + l.length + 2 then _ else _) = _
    rw [if_neg hne, if_pos (by omega)]
theorem headS_long {l : List UInt8} (f sz : Nat) (hs : List HdrT) (r : List UInt8) (h2 : (10 : UInt8) ∉ l) (h3 : 1024 < l.length) : headS f sz hs (l ++ 13 :: 10 :: r) = .error 431 := by
  cases f with
  | zero => rw [headS, lineS_long _ _ _ h2 h3]; rfl
  | succ f => rw [headS, lineS_long _ _ _ h2 h3]; rfl
/-! numbers -/
def digB (n : Nat) : UInt8 := if n < 10 then UInt8.ofNat (48 + n) else UInt8.ofNat (87 + n)
/-- a number in digits of a base, as the law writes it. -/
def numF (b : Nat) : Nat → Nat → List UInt8
  | 0, _ => []
  | f + 1, n => if n < b then [digB (n % b)] else numF b f (n / b) ++ [digB (n % b)]
def numB (b n : Nat) : List UInt8 := numF b (n + 1) n
theorem numF_fuel (b : Nat) (hb : 2 ≤ b) : ∀ (f g n : Nat), n < f → n < g → numF b f n = numF b g n
  | 0, _, _, h, _ => absurd h (Nat.not_lt_zero _)
  | _ + 1, 0, _, _, h => absurd h (Nat.not_lt_zero _)
  | f + 1, g + 1, n, h1, h2 => by
    unfold numF
    by_cases h : n < b
    · rw [if_pos h, if_pos h]
    · have : n / b < n := Nat.div_lt_self (by omega) hb
      rw [if_neg h, if_neg h, numF_fuel b hb f g (n / b) (by omega) (by omega)]
theorem numB_eq (b n : Nat) (hb : 2 ≤ b) : numB b n = if n < b then [digB (n % b)] else numB b (n / b) ++ [digB (n % b)] := by
  unfold numB
  rw [numF]
  by_cases h : n < b
  · rw [if_pos h, if_pos h]
  · have : n / b < n := Nat.div_lt_self (by omega) hb
    rw [if_neg h, if_neg h, numF_fuel b hb n (n / b + 1) (n / b) (by omega) (by omega)]
theorem numB_ne (b n : Nat) (hb : 2 ≤ b) : numB b n ≠ [] := by
  rw [numB_eq b n hb]
  split <;> simp
theorem num10_rev : ∀ (f n : Nat), n < f → numF 10 f n = (digR f n).reverse
  | 0, _, h => absurd h (Nat.not_lt_zero _)
  | f + 1, n, h => by
    have hd : digB (n % 10) = UInt8.ofNat (48 + n % 10) := by unfold digB; rw [if_pos (by omega)]
    unfold numF digR
    rw [hd]
    by_cases h0 : n / 10 = 0
    · rw [if_pos (by omega), if_pos h0]; rfl
    · rw [if_neg (by omega), if_neg h0, num10_rev f (n / 10) (by omega), List.reverse_cons]
theorem num10 (n : Nat) : numB 10 n = digS n := num10_rev _ _ (Nat.lt_succ_self _)
theorem digB_hex (n : Nat) (h : n < 16) : hexC (digB n) = true ∧ hexV (digB n) = n := by
  have : ∀ n, n < 16 → hexC (digB n) = true ∧ hexV (digB n) = n := by decide
  exact this n h
theorem hexN_app (l : List UInt8) (c : UInt8) : hexN (l ++ [c]) = hexN l * 16 + hexV c := by
  unfold hexN
  rw [List.foldl_append]
  rfl
theorem num16_fact : ∀ (f n : Nat), n < f → (∀ c ∈ numF 16 f n, hexC c = true) ∧ hexN (numF 16 f n) = n ∧ ∀ k, n < 16 ^ (k + 1) → (numF 16 f n).length ≤ k + 1
  | 0, _, h => absurd h (Nat.not_lt_zero _)
  | f + 1, n, h => by
    obtain ⟨d1, d2⟩ := digB_hex (n % 16) (Nat.mod_lt _ (by omega))
    unfold numF
    by_cases h0 : n < 16
    · rw [if_pos h0]
      refine ⟨fun c hc => by rw [List.mem_singleton.1 hc]; exact d1, ?_, fun k _ => by simp⟩
      show 0 * 16 + hexV (digB (n % 16)) = n
      rw [d2]; omega
    · obtain ⟨i1, i2, i3⟩ := num16_fact f (n / 16) (by omega)
      rw [if_neg h0]
      refine ⟨fun c hc => ?_, by rw [hexN_app, i2, d2]; omega, fun k hk => ?_⟩
      · rcases List.mem_append.1 hc with hc | hc
        · exact i1 c hc
        · rw [List.mem_singleton.1 hc]; exact d1
      · rw [List.length_append, List.length_singleton]
        cases k with
        | zero => simp at hk; omega
        | succ k =>
          have := i3 k (by rw [Nat.pow_succ] at hk; omega)
          omega
theorem size_num (n : Nat) (hn : n < 16 ^ 8) (t : List UInt8) (ht : t = [] ∨ ∃ c q, t = c :: q ∧ hexC c = false ∧ (c = 59 ∨ c = 32 ∨ c = 9)) : sizeS (numB 16 n ++ t) = some n := by
  obtain ⟨h1, h2, h3⟩ := num16_fact (n + 1) n (Nat.lt_succ_self _)
  have h4 := h3 7 hn
  have h5 := numB_ne 16 n (by omega)
  change ∀ c ∈ numB 16 n, hexC c = true at h1
  change hexN (numB 16 n) = n at h2
  change (numB 16 n).length ≤ 8 at h4
  generalize numB 16 n = l at *
  have htw : (l ++ t).takeWhile hexC = l := by
    rw [List.takeWhile_append_of_pos h1]
    rcases ht with rfl | ⟨c, q, rfl, hc, -⟩
    · simp
    · rw [List.takeWhile_cons_of_neg (by rw [hc]; decide), List.append_nil]
  unfold sizeS
  simp only
  rw [htw, if_neg (by intro h; rcases h with h | h; exact h5 h; omega), List.drop_left]
  rcases ht with rfl | ⟨c, q, rfl, -, hc⟩
  · show some (hexN l) = _
    rw [h2]
  · show (if c = 59 ∨ c = 32 ∨ c = 9 then some (hexN l) else none) = _
    rw [if_pos hc, h2]
theorem num16_line (n : Nat) : ∀ c ∈ numB 16 n, c ≠ 13 ∧ c ≠ 10 := fun c hc => by
  have := (num16_fact (n + 1) n (Nat.lt_succ_self _)).1 c hc
  refine ⟨fun e => ?_, fun e => ?_⟩ <;> (subst e; exact absurd this (by decide))
theorem num16_len (n : Nat) (hn : n < 16 ^ 8) : (numB 16 n).length ≤ 8 := (num16_fact (n + 1) n (Nat.lt_succ_self _)).2.2 7 hn
/-! chunks -/
theorem thenS_mk {α β : Type} (a : α) (r : List UInt8) (f : α → List UInt8 → Rd1 β) : thenS (.ok (a, r)) f = f a r := rfl
theorem takeS_app (a r : List UInt8) : takeS a.length (a ++ r) = .ok (a, r) := by
  unfold takeS
  rw [if_neg (by rw [List.length_append]; omega), List.take_left, List.drop_left]
theorem oneS_ok (c : UInt8) (r : List UInt8) : oneS c (c :: r) = .ok ((), r) := by
  unfold oneS
  rw [show takeS 1 (c :: r) = .ok ([c], r) from takeS_app [c] r]
  show (if [c] = [c] then _ else _) = _
  rw [if_pos rfl]
theorem chunk_one {l d : List UInt8} (hl : LineS l) (hs : sizeS l = some d.length) (h0 : d ≠ []) (f : Nat) (out r : List UInt8) (hb : out.length + d.length ≤ 8192) :
    chunksS (f + 1) out (l ++ 13 :: 10 :: (d ++ 13 :: 10 :: r)) = chunksS f (out ++ d) r := by
  rw [chunksS, hl.read]
  show (match sizeS l with
      | none => .error 400
      | some n => if n = 0 then thenS (trailS 32 (d ++ 13 :: 10 :: r)) fun _ r => .ok (out, r)
        else if 8192 < out.length + n then .error 413
        else thenS (takeS n (d ++ 13 :: 10 :: r)) fun d r => thenS (oneS 13 r) fun _ r => thenS (oneS 10 r) fun _ r => chunksS f (out ++ d) r : Rd1 (List UInt8)) = _
  rw [hs]
  show (if d.length = 0 then _ else if 8192 < out.length + d.length then _ else _) = _
  rw [if_neg (by have := List.length_pos_iff.2 h0; omega), if_neg (by omega), takeS_app]
  simp only [thenS_mk, oneS_ok]
theorem chunk_end {l : List UInt8} (hl : LineS l) (hs : sizeS l = some 0) (f : Nat) (out : List UInt8) {s r : List UInt8} (ht : trailS 32 s = .ok ((), r)) : chunksS (f + 1) out (l ++ 13 :: 10 :: s) = .ok (out, r) := by
  rw [chunksS, hl.read]
  show (match sizeS l with
      | none => .error 400
      | some n => if n = 0 then thenS (trailS 32 s) fun _ r => .ok (out, r)
        else if 8192 < out.length + n then .error 413
        else thenS (takeS n s) fun d r => thenS (oneS 13 r) fun _ r => thenS (oneS 10 r) fun _ r => chunksS f (out ++ d) r : Rd1 (List UInt8)) = _
  rw [hs]
  show (if (0 : Nat) = 0 then _ else _) = _
  rw [if_pos rfl, ht]
  rfl
theorem trail_end (f : Nat) (r : List UInt8) : trailS f (13 :: 10 :: r) = .ok ((), r) := by
  have h : ∀ long broken, lineS long broken (13 :: 10 :: r) = .ok ([], r) := fun long broken => lineS_mk (l := []) long broken r (by simp) (by simp) (by simp)
  cases f with
  | zero => rw [trailS, h]; rfl
  | succ f => rw [trailS, h]; rfl
theorem trail_one {l : List UInt8} (hl : LineS l) (hne : l ≠ []) (f : Nat) (r : List UInt8) : trailS (f + 1) (l ++ 13 :: 10 :: r) = trailS f r := by
  rw [trailS, hl.read]
  show (if l = [] then _ else _) = _
  rw [if_neg hne]
/-- no body is longer than may be. -/
theorem chunks_bound : ∀ (f : Nat) (out s b r : List UInt8), out.length ≤ 8192 → chunksS f out s = .ok (b, r) → b.length ≤ 8192
  | 0, _, _, _, _, _, h => by cases h
  | f + 1, out, s, b, r, ho, h => by
    rw [chunksS] at h
    obtain ⟨l, q, -, h⟩ := thenS_ok h
    cases hs : sizeS l with
    | none => rw [hs] at h; cases h
    | some n =>
      rw [hs] at h
      simp only at h
      split at h
      · obtain ⟨_, q2, -, h⟩ := thenS_ok h
        injection h with h
        injection h with h
        rw [← h]; exact ho
      · split at h
        · cases h
        · obtain ⟨d, q2, hd, h⟩ := thenS_ok h
          obtain ⟨_, q3, -, h⟩ := thenS_ok h
          obtain ⟨_, q4, -, h⟩ := thenS_ok h
          refine chunks_bound f (out ++ d) q4 b r ?_ h
          unfold takeS at hd
          split at hd
          · cases hd
          · injection hd with hd
            injection hd with hd
            rw [List.length_append, ← hd, List.length_take]
            omega
end Go.Proofs.YtlkbfehdiopkbaaGreatDoor
