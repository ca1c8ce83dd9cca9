/-
  Plain: the statements of layer 11 on bodies of any bytes and on what is just as long as may be. No condition.
-/
import Derived.Test.YtlkbfehdiopkbaaGreatDoorWireSet
namespace Go.Proofs.YtlkbfehdiopkbaaGreatDoor
set_option linter.unusedVariables false
set_option linter.unusedSimpArgs false

def lPut : List UInt8 := [80, 85, 84, 32, 47, 120, 32, 72, 84, 84, 80, 47, 49, 46, 49]
def lGet : List UInt8 := [71, 69, 84, 32, 47, 32, 72, 84, 84, 80, 47, 49, 46, 49]
def lHost : List UInt8 := [104, 111, 115, 116, 58, 32, 104]
def hHost : HdrT := ⟨wHost, [104]⟩
def lLen (n : Nat) : List UInt8 := [67, 111, 110, 116, 101, 110, 116, 45, 76, 101, 110, 103, 116, 104, 58, 32] ++ digS n
def lCod : List UInt8 := [84, 114, 97, 110, 115, 102, 101, 114, 45, 69, 110, 99, 111, 100, 105, 110, 103, 58, 32, 67, 104, 117, 110, 107, 101, 100]
def hCod : HdrT := ⟨wCoding, [67, 104, 117, 110, 107, 101, 100]⟩
theorem host_line : HdrL lHost hHost := ⟨⟨by decide, by decide, by decide⟩, by decide, by decide⟩
theorem cod_line : HdrL lCod hCod := ⟨⟨by decide, by decide, by decide⟩, by decide, by decide⟩
theorem dig_valC {n : Nat} : (digS n).all (fun c => valC c.toNat) = true := List.all_eq_true.2 fun c hc => by
  have := digS_c n c hc
  exact decide_eq_true (by omega)
theorem dig_no (n : Nat) (b : UInt8) (hb : b.toNat < 48) : b ∉ digS n := fun hm => by
  have := digS_c n b hm
  omega
theorem trim_no (l : List UInt8) (h : ∀ c ∈ l, (c.toNat : Int) ≠ 32 ∧ (c.toNat : Int) ≠ 9) : trimW l = l := by
  rw [trimW_eq]
  have h1 : Lib.trimLeftS l [32, 9] = l := by
    cases l with
    | nil => rfl
    | cons x q => exact trimL_not x q (h x (by simp)).1 (h x (by simp)).2
  rw [h1]
  rcases last_cases l with rfl | ⟨q, x, rfl⟩
  · rfl
  · exact trimR_not x q (h x (by simp)).1 (h x (by simp)).2
theorem dig_trim (n : Nat) : trimW (digS n) = digS n := trim_no _ fun c hc => by
  have := digS_c n c hc
  omega
theorem digS_le10 {n : Nat} (h : n ≤ 1000000000) : (digS n).length ≤ 10 := by
  have key : ∀ (f n k : Nat), n < f → n < 10 ^ (k + 1) → (digR f n).length ≤ k + 1 := by
    intro f
    induction f with
    | zero => intro n k h; omega
    | succ f ih =>
      intro n k h1 h2
      unfold digR
      by_cases h0 : n / 10 = 0
      · rw [if_pos h0]; simp
      · rw [if_neg h0, List.length_cons]
        cases k with
        | zero => simp at h2; omega
        | succ k =>
          have := ih (n / 10) k (by omega) (by rw [Nat.pow_succ] at h2; omega)
          omega
  unfold digS
  rw [List.length_reverse]
  exact key _ _ 9 (Nat.lt_succ_self _) (by omega)
theorem len_line {n : Nat} (h : n ≤ 1000000000) : HdrL (lLen n) ⟨wLength, digS n⟩ := by
  refine ⟨⟨?_, ?_, ?_⟩, by simp [lLen], ?_⟩
  · unfold lLen
    simp only [List.mem_append, not_or]
    exact ⟨by decide, dig_no n 13 (by decide)⟩
  · unfold lLen
    simp only [List.mem_append, not_or]
    exact ⟨by decide, dig_no n 10 (by decide)⟩
  · have := digS_le10 h
    unfold lLen
    simp only [List.length_append, List.length_cons, List.length_nil]
    omega
  · have e : cutS [58] (lLen n) = some ([67, 111, 110, 116, 101, 110, 116, 45, 76, 101, 110, 103, 116, 104], 32 :: digS n) := cut1_at (c := 58) (a := [67, 111, 110, 116, 101, 110, 116, 45, 76, 101, 110, 103, 116, 104]) (by decide) (32 :: digS n)
    unfold hdrOf
    rw [e]
    show (if (tokS [67, 111, 110, 116, 101, 110, 116, 45, 76, 101, 110, 103, 116, 104] && (32 :: digS n).all fun c => valC c.toNat) = true then some (⟨lowS [67, 111, 110, 116, 101, 110, 116, 45, 76, 101, 110, 103, 116, 104], trimW (32 :: digS n)⟩ : HdrT) else none) = _
    rw [List.all_cons, dig_valC, if_pos (by decide), trimW_white1, dig_trim]
    rfl
/-- a request's text: its line, its headers, and all behind. -/
def reqText (l : List UInt8) (ls : List (List UInt8)) (s : List UInt8) : List UInt8 := l ++ 13 :: 10 :: (hText ls ++ 13 :: 10 :: s)
theorem read_text {l m t : List UInt8} {ls : List (List UInt8)} {hs : List HdrT} (hl : LineS l) (hne : l ≠ []) (hr : reqLine l = .ok (m, t)) (hlen : ls.length = hs.length) (hh : ∀ (j : Nat) l h, ls[j]? = some l → hs[j]? = some h → HdrL l h) (h32 : ls.length ≤ 32) (hz : hSize ls ≤ 4096) (s : List UInt8) :
    readW (reqText l ls s) = thenS (bodyS hs s) fun b r => .ok (⟨m, t, hs, b, closeS hs⟩, r) := by
  unfold readW reqText
  rw [begin_line hl hne, thenS_mk, hr]
  simp only
  rw [headS_all ls hs hlen hh 32 0 [] _ h32 (by omega), headS_end, thenS_mk, List.nil_append]
theorem numS_dig18 (n : Nat) (h : n ≤ 1000000000) : ¬ (digS n = [] ∨ 18 < (digS n).length ∨ (digS n).all digC = false) := by
  have h1 := digS_le10 h
  have h2 : (digS n).all digC = true := List.all_eq_true.2 fun c hc => decide_eq_true (digS_c n c hc)
  rw [h2]
  intro h3
  rcases h3 with h3 | h3 | h3
  · exact digS_ne n h3
  · omega
  · cases h3
theorem put_line : LineS lPut ∧ lPut ≠ [] ∧ reqLine lPut = .ok ([80, 85, 84], [47, 120]) := by
  refine ⟨⟨by decide, by decide, by decide⟩, by decide, ?_⟩
  exact first_read (m := [80, 85, 84]) (t := [47, 120]) (by decide) (by decide) (by decide)
theorem get_line : LineS lGet ∧ lGet ≠ [] ∧ reqLine lGet = .ok ([71, 69, 84], [47]) := by
  refine ⟨⟨by decide, by decide, by decide⟩, by decide, ?_⟩
  exact first_read (m := [71, 69, 84]) (t := [47]) (by decide) (by decide) (by decide)
theorem hdr2 {l1 l2 : List UInt8} {h1 h2 : HdrT} (a : HdrL l1 h1) (b : HdrL l2 h2) : ∀ (j : Nat) l h, [l1, l2][j]? = some l → [h1, h2][j]? = some h → HdrL l h
  | 0, l, h, e1, e2 => by simp at e1 e2; subst e1 e2; exact a
  | 1, l, h, e1, e2 => by simp at e1 e2; subst e1 e2; exact b
  | j + 2, l, h, e1, e2 => by simp at e1
/-- a body comes as it is, with a length. -/
theorem body_len (m t l body : List UInt8) (hl : LineS l) (hne : l ≠ []) (hr : reqLine l = .ok (m, t)) (hb : body.length ≤ 8192) (behind : List UInt8) :
    readW (reqText l [lHost, lLen body.length] (body ++ behind)) = .ok (⟨m, t, [hHost, ⟨wLength, digS body.length⟩], body, false⟩, behind) := by
  have hd := digS_le10 (n := body.length) (by omega)
  rw [read_text hl hne hr (hs := [hHost, ⟨wLength, digS body.length⟩]) rfl (hdr2 host_line (len_line (by omega))) (by simp) (by simp [hSize, lHost, lLen]; omega)]
  have e1 : vals [hHost, ⟨wLength, digS body.length⟩] wHost = [[104]] := rfl
  have e2 : vals [hHost, ⟨wLength, digS body.length⟩] wCoding = [] := rfl
  have e3 : vals [hHost, ⟨wLength, digS body.length⟩] wLength = [digS body.length] := rfl
  have e4 : closeS [hHost, ⟨wLength, digS body.length⟩] = false := rfl
  unfold bodyS
  rw [e1, e2, e3, e4, if_neg (by simp)]
  simp only
  rw [if_neg (numS_dig18 _ (by omega)), num_dig, if_neg (by omega), takeS_app, thenS_mk]
/-- and is refused, where it is one byte too long. -/
theorem body_long (m t l : List UInt8) (hl : LineS l) (hne : l ≠ []) (hr : reqLine l = .ok (m, t)) (n : Nat) (hn : 8192 < n) (hn2 : n ≤ 1000000000) (s : List UInt8) :
    readW (reqText l [lHost, lLen n] s) = .error 413 := by
  have hd := digS_le10 hn2
  rw [read_text hl hne hr (hs := [hHost, ⟨wLength, digS n⟩]) rfl (hdr2 host_line (len_line hn2)) (by simp) (by simp [hSize, lHost, lLen]; omega)]
  have e1 : vals [hHost, ⟨wLength, digS n⟩] wHost = [[104]] := rfl
  have e2 : vals [hHost, ⟨wLength, digS n⟩] wCoding = [] := rfl
  have e3 : vals [hHost, ⟨wLength, digS n⟩] wLength = [digS n] := rfl
  unfold bodyS
  rw [e1, e2, e3, if_neg (by simp)]
  simp only
  rw [if_neg (numS_dig18 _ hn2), num_dig, if_pos hn]
  rfl
/-- the chunk of these bytes. -/
def chunkOf (d : List UInt8) : List UInt8 := numB 16 d.length ++ ([59, 120, 61, 34, 121, 34, 13, 10] ++ (d ++ [13, 10]))
theorem chunks_all : ∀ (ds : List (List UInt8)) (f : Nat) (out s : List UInt8), (∀ d ∈ ds, d ≠ []) → out.length + ds.flatten.length ≤ 8192 → chunksS (f + ds.length) out (ds.flatMap chunkOf ++ s) = chunksS f (out ++ ds.flatten) s
  | [], f, out, s, _, _ => by simp
  | d :: ds, f, out, s, h0, hb => by
    have hb' : out.length + (d.length + ds.flatten.length) ≤ 8192 := by simpa using hb
    have e : (d :: ds).flatMap chunkOf ++ s = (numB 16 d.length ++ [59, 120, 61, 34, 121, 34]) ++ 13 :: 10 :: (d ++ 13 :: 10 :: (ds.flatMap chunkOf ++ s)) := by simp [chunkOf]
    have hl := num16_lineS d.length (by omega) [59, 120, 61, 34, 121, 34] ⟨by decide, by decide, by decide⟩
    have hs := size_num d.length (by omega) [59, 120, 61, 34, 121, 34] (.inr ⟨59, [120, 61, 34, 121, 34], rfl, by decide, .inl rfl⟩)
    have ih := chunks_all ds f (out ++ d) s (fun x hx => h0 x (by simp [hx])) (by rw [List.length_append]; omega)
    rw [e, show f + (d :: ds).length = (f + ds.length) + 1 from rfl, chunk_one hl hs (h0 d (by simp)) _ out _ (by omega), ih]
    simp
/-- what stands behind the chunks: a nought, a trailer, the end. -/
def chunkEnd : List UInt8 := [48, 48, 13, 10, 110, 111, 116, 101, 58, 32, 120, 13, 10, 13, 10]
theorem flatten_le : ∀ ds : List (List UInt8), (∀ d ∈ ds, d ≠ []) → ds.length ≤ ds.flatten.length
  | [], _ => Nat.zero_le _
  | d :: ds, h => by
    have := flatten_le ds (fun x hx => h x (by simp [hx]))
    have h1 := List.length_pos_iff.2 (h d (by simp))
    rw [List.flatten_cons, List.length_append, List.length_cons]
    omega
theorem body_chunks (m t l : List UInt8) (ds : List (List UInt8)) (hl : LineS l) (hne : l ≠ []) (hr : reqLine l = .ok (m, t)) (h0 : ∀ d ∈ ds, d ≠ []) (hb : ds.flatten.length ≤ 8192) (behind : List UInt8) :
    readW (reqText l [lHost, lCod] (ds.flatMap chunkOf ++ (chunkEnd ++ behind))) = .ok (⟨m, t, [hHost, hCod], ds.flatten, false⟩, behind) := by
  rw [read_text hl hne hr (hs := [hHost, hCod]) rfl (hdr2 host_line cod_line) (by decide) (by decide)]
  have e1 : vals [hHost, hCod] wHost = [[104]] := rfl
  have e2 : vals [hHost, hCod] wCoding = [[67, 104, 117, 110, 107, 101, 100]] := rfl
  have e3 : vals [hHost, hCod] wLength = [] := rfl
  have e4 : closeS [hHost, hCod] = false := rfl
  have hle := flatten_le ds h0
  have e5 : 8193 = (8192 - ds.length + 1) + ds.length := by omega
  have z1 : LineS [48, 48] := ⟨by decide, by decide, by decide⟩
  have z2 : LineS [110, 111, 116, 101, 58, 32, 120] := ⟨by decide, by decide, by decide⟩
  have hce : chunksS (8192 - ds.length + 1) ([] ++ ds.flatten) (chunkEnd ++ behind) = .ok (ds.flatten, behind) :=
    chunk_end z1 (by decide) (8192 - ds.length) _ (s := [110, 111, 116, 101, 58, 32, 120] ++ 13 :: 10 :: (13 :: 10 :: behind)) ((trail_one z2 (by decide) 31 _).trans (trail_end 31 behind))
  have hc : chunksS 8193 [] (ds.flatMap chunkOf ++ (chunkEnd ++ behind)) = .ok (ds.flatten, behind) := by
    conv => lhs; rw [e5]
    rw [chunks_all ds _ [] _ h0 (by simpa using hb), hce]
  unfold bodyS
  rw [e1, e2, e3, e4, if_neg (by decide)]
  simp only
  rw [if_pos (by decide), hc, thenS_mk]
/-! just as long as may be -/
def padS (n : Nat) : List UInt8 := List.replicate n 120
theorem pad_no (n : Nat) (b : UInt8) (hb : b ≠ 120) : b ∉ padS n := fun h => hb (List.eq_of_mem_replicate h)
theorem pad_len (n : Nat) : (padS n).length = n := List.length_replicate
theorem pad_targ (n : Nat) : (padS n).all targC = true := List.all_eq_true.2 fun c hc => by rw [List.eq_of_mem_replicate hc]; decide
theorem pad_val (n : Nat) : (padS n).all (fun c => valC c.toNat) = true := List.all_eq_true.2 fun c hc => by rw [List.eq_of_mem_replicate hc]; decide
theorem pad_trim (n : Nat) : trimW (padS n) = padS n := trim_no _ fun c hc => by rw [List.eq_of_mem_replicate hc]; decide
def stat1 {α : Type} : Rd1 α → Int
  | .ok _ => 0
  | .error e => e
theorem body_host (hs : List HdrT) (h1 : vals hs wHost = [[104]]) (h2 : vals hs wCoding = []) (h3 : vals hs wLength = []) (s : List UInt8) : bodyS hs s = .ok ([], s) := by
  unfold bodyS
  rw [h1, h2, h3, if_neg (by decide)]
/-- a header a: of so many bytes. -/
def lA (c : UInt8) (n : Nat) : List UInt8 := c :: 58 :: padS n
theorem a_line (c : UInt8) (hc : c = 97 ∨ c = 98) (n : Nat) (hn : n ≤ 1022) : HdrL (lA c n) ⟨[c], padS n⟩ := by
  have hlow : lowS [c] = [c] ∧ tokS [c] = true ∧ (58 : UInt8) ≠ c ∧ (13 : UInt8) ≠ c ∧ (10 : UInt8) ≠ c := by rcases hc with rfl | rfl <;> decide
  refine ⟨⟨?_, ?_, by simp [lA, pad_len]; omega⟩, by simp [lA], ?_⟩
  · unfold lA
    simp only [List.mem_cons, not_or]
    exact ⟨hlow.2.2.2.1, by decide, pad_no n 13 (by decide)⟩
  · unfold lA
    simp only [List.mem_cons, not_or]
    exact ⟨hlow.2.2.2.2, by decide, pad_no n 10 (by decide)⟩
  · have e : cutS [58] (lA c n) = some ([c], padS n) := cut1_at (c := 58) (a := [c]) (by simpa using hlow.2.2.1) (padS n)
    unfold hdrOf
    rw [e]
    show (if (tokS [c] && (padS n).all fun c => valC c.toNat) = true then some (⟨lowS [c], trimW (padS n)⟩ : HdrT) else none) = _
    rw [hlow.2.1, pad_val, if_pos (by decide), hlow.1, pad_trim]
theorem a_ne (c : UInt8) (hc : c = 97 ∨ c = 98) (n k : Nat) : lA c n ≠ [] := by simp [lA]
/-- (1) a target. -/
def q1 (n : Nat) : List UInt8 := reqText (firstL [71, 69, 84] (47 :: padS n)) [lHost] []
theorem limit1 (k : Nat) : stat1 (readW (q1 (1010 + k))) = if k = 0 then 0 else 414 := by
  have hm : tokS [71, 69, 84] = true := by decide
  have ht : (47 :: padS (1010 + k)).all targC = true := by rw [List.all_cons, pad_targ]; decide
  have hlen : (firstL [71, 69, 84] (47 :: padS (1010 + k))).length = 1024 + k := by simp [firstL, pad_len, vHttp]; omega
  have hno : ∀ b : UInt8, tokC b.toNat = false → targC b = false → b ≠ 32 → b ∉ vHttp ++ [49, 46, 49] → b ∉ firstL [71, 69, 84] (47 :: padS (1010 + k)) := fun b h1 h2 h3 h4 => by
    unfold firstL
    simp only [List.mem_append, List.mem_cons, not_or] at h4 ⊢
    have := targ_no ht b h2
    simp only [List.mem_cons, not_or] at this
    have h5 := tok_no hm b h1
    simp only [List.mem_cons, not_or] at h5
    exact ⟨h5, h3, this, h3, h4⟩
  have h13 := hno 13 (by decide) (by decide) (by decide) (by decide)
  have h10 := hno 10 (by decide) (by decide) (by decide) (by decide)
  unfold q1
  by_cases hk : k = 0
  · rw [if_pos hk]
    have hl : LineS (firstL [71, 69, 84] (47 :: padS (1010 + k))) := ⟨h13, h10, by omega⟩
    rw [read_text hl (by simp [firstL]) (first_read hm (by simp) ht) (hs := [hHost]) rfl (fun j l h e1 e2 => by
      cases j with
      | zero => simp at e1 e2; subst e1 e2; exact host_line
      | succ j => simp at e1) (by decide) (by decide), body_host _ rfl rfl rfl]
    rfl
  · rw [if_neg hk]
    unfold readW reqText
    rw [begin_long h10 (by omega)]
    rfl
/-- (2) a header's line. -/
def q2 (n : Nat) : List UInt8 := reqText lGet [lHost, lA 97 n] []
theorem limit2 (k : Nat) : stat1 (readW (q2 (1022 + k))) = if k = 0 then 0 else 431 := by
  unfold q2
  by_cases hk : k = 0
  · subst hk
    rw [if_pos rfl, read_text get_line.1 get_line.2.1 get_line.2.2 (hs := [hHost, ⟨[97], padS 1022⟩]) rfl (hdr2 host_line (a_line 97 (.inl rfl) 1022 (by omega))) (by decide) (by simp [hSize, lHost, lA, pad_len]), body_host _ rfl rfl rfl]
    rfl
  · rw [if_neg hk]
    unfold readW reqText
    rw [begin_line get_line.1 get_line.2.1, thenS_mk, get_line.2.2]
    simp only
    have e : hText [lHost, lA 97 (1022 + k)] ++ 13 :: 10 :: [] = lHost ++ 13 :: 10 :: (lA 97 (1022 + k) ++ 13 :: 10 :: (13 :: 10 :: [])) := by simp [hText]
    rw [e, headS_cons 31 0 [] host_line (by decide), headS_long _ _ _ _ ?_ ?_]
    · rfl
    · unfold lA
      simp only [List.mem_cons, not_or]
      exact ⟨by decide, by decide, pad_no _ 10 (by decide)⟩
    · simp [lA, pad_len]; omega
/-- (3) all headers. -/
def q3 (n : Nat) : List UInt8 := reqText lGet [lHost, lA 97 1020, lA 97 1020, lA 97 1020, lA 98 n] []
theorem limit3 (k : Nat) (hk2 : k ≤ 2) : stat1 (readW (q3 (1011 + k))) = if k = 0 then 0 else 431 := by
  have A := a_line 97 (.inl rfl) 1020 (by omega)
  have B := a_line 98 (.inr rfl) (1011 + k) (by omega)
  unfold q3
  by_cases hk : k = 0
  · subst hk
    rw [if_pos rfl, read_text get_line.1 get_line.2.1 get_line.2.2 (hs := [hHost, ⟨[97], padS 1020⟩, ⟨[97], padS 1020⟩, ⟨[97], padS 1020⟩, ⟨[98], padS 1011⟩]) rfl (fun j l h e1 e2 => ?_) (by decide) (by simp [hSize, lHost, lA, pad_len]), body_host _ rfl rfl rfl]
    · rfl
    · rcases j with _ | _ | _ | _ | _ | j
      · simp at e1 e2; subst e1 e2; exact host_line
      · simp at e1 e2; subst e1 e2; exact A
      · simp at e1 e2; subst e1 e2; exact A
      · simp at e1 e2; subst e1 e2; exact A
      · simp at e1 e2; subst e1 e2; exact B
      · simp at e1
  · rw [if_neg hk]
    unfold readW reqText
    rw [begin_line get_line.1 get_line.2.1, thenS_mk, get_line.2.2]
    simp only
    have e : hText [lHost, lA 97 1020, lA 97 1020, lA 97 1020, lA 98 (1011 + k)] ++ 13 :: 10 :: [] = lHost ++ 13 :: 10 :: (lA 97 1020 ++ 13 :: 10 :: (lA 97 1020 ++ 13 :: 10 :: (lA 97 1020 ++ 13 :: 10 :: (lA 98 (1011 + k) ++ 13 :: 10 :: (13 :: 10 :: []))))) := by simp [hText]
    have hl : (lA 97 1020).length = 1022 := by simp [lA, pad_len]
    have hl2 : (lA 98 (1011 + k)).length = 1013 + k := by simp [lA, pad_len]; omega
    have hl0 : lHost.length = 7 := rfl
    rw [e, headS_cons 31 0 [] host_line (by decide), headS_cons 30 _ _ A (by omega), headS_cons 29 _ _ A (by omega), headS_cons 28 _ _ A (by omega), headS_over B.line B.ne 28 _ _ _ (.inr (by omega))]
    rfl
/-- (4) how many headers. -/
def q4 (n : Nat) : List UInt8 := reqText lGet (lHost :: List.replicate n (lA 97 0)) []
theorem vals_rep (n : Nat) (name : List UInt8) (h : name ≠ [97]) : vals (hHost :: List.replicate n ⟨[97], []⟩) name = vals [hHost] name := by
  unfold vals
  have e : (List.replicate n (⟨[97], []⟩ : HdrT)).filter (fun h => decide (h.name = name)) = [] := by
    rw [List.filter_eq_nil_iff]
    intro a ha
    rw [List.eq_of_mem_replicate ha]
    simpa using fun e => h e.symm
  rw [List.filter_cons, List.filter_cons, List.filter_nil, e]
theorem limit4 (k : Nat) : stat1 (readW (q4 (31 + k))) = if k = 0 then 0 else 431 := by
  have A : HdrL (lA 97 0) ⟨[97], []⟩ := a_line 97 (.inl rfl) 0 (by omega)
  unfold q4
  by_cases hk : k = 0
  · subst hk
    rw [if_pos rfl, read_text get_line.1 get_line.2.1 get_line.2.2 (hs := hHost :: List.replicate 31 ⟨[97], []⟩) (by simp) (fun j l h e1 e2 => ?_) (by simp) (by decide), body_host _ ((vals_rep _ _ (by decide)).trans rfl) ((vals_rep _ _ (by decide)).trans rfl) ((vals_rep _ _ (by decide)).trans rfl)]
    · rfl
    · cases j with
      | zero => simp at e1 e2; subst e1 e2; exact host_line
      | succ j =>
        simp only [List.getElem?_cons_succ, List.getElem?_replicate] at e1 e2
        split at e1
        · rename_i hj
          rw [if_pos hj] at e2
          injection e1 with e1
          injection e2 with e2
          subst e1 e2
          exact A
        · cases e1
  · rw [if_neg hk]
    unfold readW reqText
    rw [begin_line get_line.1 get_line.2.1, thenS_mk, get_line.2.2]
    simp only
    have e : hText (lHost :: List.replicate (31 + k) (lA 97 0)) ++ 13 :: 10 :: [] = hText (lHost :: List.replicate 31 (lA 97 0)) ++ (lA 97 0 ++ 13 :: 10 :: (hText (List.replicate (k - 1) (lA 97 0)) ++ 13 :: 10 :: [])) := by
      have : List.replicate (31 + k) (lA 97 0) = List.replicate 31 (lA 97 0) ++ (lA 97 0 :: List.replicate (k - 1) (lA 97 0)) := by
        rw [← List.replicate_succ, List.replicate_append_replicate]
        congr 1
        omega
      rw [this]
      simp [hText]
    rw [e, headS_all (lHost :: List.replicate 31 (lA 97 0)) (hHost :: List.replicate 31 ⟨[97], []⟩) (by simp) (fun j l h e1 e2 => ?_) 32 0 [] _ (by simp) (by decide)]
    · rw [headS_over A.line A.ne _ _ _ _ (.inl (by simp))]
      rfl
    · cases j with
      | zero => simp at e1 e2; subst e1 e2; exact host_line
      | succ j =>
        simp only [List.getElem?_cons_succ, List.getElem?_replicate] at e1 e2
        split at e1
        · rename_i hj
          rw [if_pos hj] at e2
          injection e1 with e1
          injection e2 with e2
          subst e1 e2
          exact A
        · cases e1
/-- (5) a body. -/
def lLen' (n : Nat) : List UInt8 := [99, 111, 110, 116, 101, 110, 116, 45, 108, 101, 110, 103, 116, 104, 58, 32] ++ digS n
theorem len_line' {n : Nat} (h : n ≤ 1000000000) : HdrL (lLen' n) ⟨wLength, digS n⟩ := by
  refine ⟨⟨?_, ?_, ?_⟩, by simp [lLen'], ?_⟩
  · unfold lLen'
    simp only [List.mem_append, not_or]
    exact ⟨by decide, dig_no n 13 (by decide)⟩
  · unfold lLen'
    simp only [List.mem_append, not_or]
    exact ⟨by decide, dig_no n 10 (by decide)⟩
  · have := digS_le10 h
    unfold lLen'
    simp only [List.length_append, List.length_cons, List.length_nil]
    omega
  · have e : cutS [58] (lLen' n) = some ([99, 111, 110, 116, 101, 110, 116, 45, 108, 101, 110, 103, 116, 104], 32 :: digS n) := cut1_at (c := 58) (a := [99, 111, 110, 116, 101, 110, 116, 45, 108, 101, 110, 103, 116, 104]) (by decide) (32 :: digS n)
    unfold hdrOf
    rw [e]
    show (if (tokS [99, 111, 110, 116, 101, 110, 116, 45, 108, 101, 110, 103, 116, 104] && (32 :: digS n).all fun c => valC c.toNat) = true then some (⟨lowS [99, 111, 110, 116, 101, 110, 116, 45, 108, 101, 110, 103, 116, 104], trimW (32 :: digS n)⟩ : HdrT) else none) = _
    rw [List.all_cons, dig_valC, if_pos (by decide), trimW_white1, dig_trim]
    rfl
def q5 (k : Nat) : List UInt8 := reqText lGet [lHost, lLen' (8192 + k)] (padS 8192)
theorem limit5 (k : Nat) (hk2 : k ≤ 2) : stat1 (readW (q5 k)) = if k = 0 then 0 else 413 := by
  have hd := digS_le10 (n := 8192 + k) (by omega)
  unfold q5
  rw [read_text get_line.1 get_line.2.1 get_line.2.2 (hs := [hHost, ⟨wLength, digS (8192 + k)⟩]) rfl (hdr2 host_line (len_line' (by omega))) (by simp) (by simp [hSize, lHost, lLen']; omega)]
  have e1 : vals [hHost, ⟨wLength, digS (8192 + k)⟩] wHost = [[104]] := rfl
  have e2 : vals [hHost, ⟨wLength, digS (8192 + k)⟩] wCoding = [] := rfl
  have e3 : vals [hHost, ⟨wLength, digS (8192 + k)⟩] wLength = [digS (8192 + k)] := rfl
  unfold bodyS
  rw [e1, e2, e3, if_neg (by simp)]
  simp only
  rw [if_neg (numS_dig18 _ (by omega)), num_dig]
  by_cases hk : k = 0
  · rw [if_pos hk, if_neg (by omega)]
    unfold takeS
    rw [if_neg (by rw [pad_len]; omega)]
    rfl
  · rw [if_neg hk, if_pos (by omega)]
    rfl
end Go.Proofs.YtlkbfehdiopkbaaGreatDoor
