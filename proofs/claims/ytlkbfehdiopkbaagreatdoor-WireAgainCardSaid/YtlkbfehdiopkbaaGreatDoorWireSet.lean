/-
  Plain: the statements of layer 11 on requests that the law itself writes: read again, a body of any bytes, just as long as may be. No condition.
-/
import Derived.Test.YtlkbfehdiopkbaaGreatDoorWireLaws
namespace Go.Proofs.YtlkbfehdiopkbaaGreatDoor
set_option linter.unusedVariables false
set_option linter.unusedSimpArgs false

theorem u8_all (p : UInt8 → Bool) (h : ∀ n : Fin 256, p (UInt8.ofNat n.val) = true) (c : UInt8) : p c = true := by
  have := h ⟨c.toNat, c.toNat_lt⟩
  simpa using this
def capC (c : UInt8) : UInt8 := if 97 ≤ c.toNat ∧ c.toNat ≤ 122 then c - 32 else c
def capS (l : List UInt8) : List UInt8 := l.map capC
theorem tok_low (c : UInt8) : (!tokC c.toNat || tokC (lowC c).toNat) = true := u8_all (fun c => !tokC c.toNat || tokC (lowC c).toNat) (by decide +kernel) c
theorem tok_cap (c : UInt8) : (!tokC c.toNat || tokC (capC c).toNat) = true := u8_all (fun c => !tokC c.toNat || tokC (capC c).toNat) (by decide +kernel) c
theorem low_cap (c : UInt8) : decide (lowC (capC (lowC c)) = lowC c) = true := u8_all (fun c => decide (lowC (capC (lowC c)) = lowC c)) (by decide +kernel) c
theorem low_low (c : UInt8) : decide (lowC (lowC c) = lowC c) = true := u8_all (fun c => decide (lowC (lowC c) = lowC c)) (by decide +kernel) c
theorem low_id (c : UInt8) : (!decide (lowC c = c) || decide (lowC (capC c) = c)) = true := u8_all (fun c => !decide (lowC c = c) || decide (lowC (capC c) = c)) (by decide +kernel) c
theorem tokS_iff (s : List UInt8) : tokS s = true ↔ s ≠ [] ∧ ∀ c ∈ s, tokC c.toNat = true := by
  unfold tokS
  rw [Bool.and_eq_true, List.all_eq_true]
  simp
theorem tokS_low {s : List UInt8} (h : tokS s = true) : tokS (lowS s) = true := by
  obtain ⟨h1, h2⟩ := (tokS_iff s).1 h
  refine (tokS_iff _).2 ⟨by unfold lowS; simpa using h1, fun c hc => ?_⟩
  unfold lowS at hc
  obtain ⟨x, hx, rfl⟩ := List.mem_map.1 hc
  have := tok_low x
  rw [h2 x hx] at this
  simpa using this
theorem tokS_cap {s : List UInt8} (h : tokS s = true) : tokS (capS s) = true := by
  obtain ⟨h1, h2⟩ := (tokS_iff s).1 h
  refine (tokS_iff _).2 ⟨by unfold capS; simpa using h1, fun c hc => ?_⟩
  unfold capS at hc
  obtain ⟨x, hx, rfl⟩ := List.mem_map.1 hc
  have := tok_cap x
  rw [h2 x hx] at this
  simpa using this
theorem lowS_low (s : List UInt8) : lowS (lowS s) = lowS s := by
  unfold lowS
  rw [List.map_map]
  exact List.map_congr_left fun c _ => of_decide_eq_true (low_low c)
theorem lowS_cap {s : List UInt8} (h : lowS s = s) : lowS (capS s) = s := by
  unfold lowS capS at *
  rw [List.map_map]
  conv => rhs; rw [← List.map_id s]
  refine List.map_congr_left fun c hc => ?_
  have h1 := low_id c
  have h2 : lowC c = c := by
    have := List.map_inj_left (f := lowC) (g := id) (l := s)
    rw [List.map_id] at this
    exact this.1 h c hc
  rw [decide_eq_true h2] at h1
  simpa using h1
theorem tok_no {s : List UInt8} (h : tokS s = true) (b : UInt8) (hb : tokC b.toNat = false) : b ∉ s := fun hm => by
  have := ((tokS_iff s).1 h).2 b hm
  rw [hb] at this
  cases this
theorem trimW_idem (l : List UInt8) : trimW (trimW l) = trimW l := by
  have hl : ∀ l : List UInt8, Lib.trimLeftS (Lib.trimLeftS l [32, 9]) [32, 9] = Lib.trimLeftS l [32, 9] := fun l => by
    induction l with
    | nil => rfl
    | cons x q ih =>
      by_cases h : ([32, 9] : List UInt8).contains x = true
      · have e1 : Lib.trimLeftS (x :: q) [32, 9] = Lib.trimLeftS q [32, 9] := by unfold Lib.trimLeftS; rw [List.dropWhile_cons, if_pos h]
        rw [e1, ih]
      · have e1 : Lib.trimLeftS (x :: q) [32, 9] = x :: q := by unfold Lib.trimLeftS; rw [List.dropWhile_cons, if_neg h]
        rw [e1, e1]
  have hr : ∀ l : List UInt8, Lib.trimRightS (Lib.trimRightS l [32, 9]) [32, 9] = Lib.trimRightS l [32, 9] := fun l => by
    have := hl l.reverse
    unfold Lib.trimLeftS at this
    unfold Lib.trimRightS
    rw [List.reverse_reverse, this]
  rw [trimW_eq, trimW_eq, ← trim_comm, hl, trim_comm, trim_comm, hr]
theorem trimW_white2 (v : List UInt8) : trimW (32 :: 32 :: v) = trimW v := by
  rw [trimW_eq, trimW_eq, trimL_white _ _ (.inl rfl), trimL_white _ _ (.inl rfl)]
theorem trimW_white1 (v : List UInt8) : trimW (32 :: v) = trimW v := by
  rw [trimW_eq, trimW_eq, trimL_white _ _ (.inl rfl)]
theorem trimW_mem {v : List UInt8} {c : UInt8} (h : c ∈ trimW v) : c ∈ v := by
  rw [trimW_eq] at h
  have hd : ∀ (p : UInt8 → Bool) (l : List UInt8), ∀ c ∈ l.dropWhile p, c ∈ l := fun p l c hc => List.IsSuffix.mem hc (List.dropWhile_suffix p)
  unfold Lib.trimRightS at h
  have h2 := hd _ _ c (by simpa using h)
  rw [List.mem_reverse] at h2
  exact hd _ _ c h2
/-- what a header that was read is like. -/
structure GoodW (h : HdrT) : Prop where
  tok : tokS h.name = true
  low : lowS h.name = h.name
  trim : trimW h.value = h.value
  val : h.value.all (fun c => valC c.toNat) = true
theorem hdrOf_good {l : List UInt8} {h : HdrT} (hh : hdrOf l = some h) : GoodW h := by
  unfold hdrOf at hh
  split at hh
  · cases hh
  · rename_i n v _
    split at hh
    · rename_i hc
      rw [Bool.and_eq_true] at hc
      injection hh with hh
      subst hh
      exact ⟨tokS_low hc.1, lowS_low _, trimW_idem _, List.all_eq_true.2 fun c hm => List.all_eq_true.1 hc.2 c (trimW_mem hm)⟩
    · cases hh
theorem headS_good : ∀ (f sz : Nat) (hs hs' : List HdrT) (s r : List UInt8), headS f sz hs s = .ok (hs', r) → (∀ h ∈ hs, GoodW h) → hs'.length ≤ hs.length + f ∧ ∀ h ∈ hs', GoodW h
  | 0, sz, hs, hs', s, r, h, hg => by
    rw [headS] at h
    obtain ⟨l, q, -, h⟩ := thenS_ok h
    split at h
    · injection h with h
      injection h with h
      subst h
      exact ⟨Nat.le_refl _, hg⟩
    · cases h
  | f + 1, sz, hs, hs', s, r, h, hg => by
    rw [headS] at h
    obtain ⟨l, q, -, h⟩ := thenS_ok h
    split at h
    · injection h with h
      injection h with h
      subst h
      exact ⟨Nat.le_add_right _ _, hg⟩
    · split at h
      · cases h
      · cases ho : hdrOf l with
        | none => rw [ho] at h; cases h
        | some x =>
          rw [ho] at h
          have := headS_good f _ _ _ _ _ h (fun y hy => by
            rcases List.mem_append.1 hy with hy | hy
            · exact hg y hy
            · rw [List.mem_singleton.1 hy]; exact hdrOf_good ho)
          rw [List.length_append, List.length_singleton] at this
          exact ⟨by omega, this.2⟩
theorem reqLine_ok {l m t : List UInt8} (h : reqLine l = .ok (m, t)) : tokS m = true ∧ t ≠ [] ∧ t.all targC = true := by
  unfold reqLine at h
  split at h
  · rename_i a b c _
    split at h
    · rename_i hc
      split at h
      · injection h with h
        injection h with h1 h2
        subst h1 h2
        simp only [Bool.and_eq_true, Bool.not_eq_true', decide_eq_false_iff_not] at hc
        exact ⟨hc.1.1.1, hc.1.1.2, hc.1.2⟩
      · cases h
    · cases h
  · cases h
theorem readW_parts {s r : List UInt8} {q : ReqT} (h : readW s = .ok (q, r)) : tokS q.method = true ∧ q.target ≠ [] ∧ q.target.all targC = true ∧ q.hdrs.length ≤ 32 ∧ (∀ h ∈ q.hdrs, GoodW h) ∧ (∃ s1, bodyS q.hdrs s1 = .ok (q.body, r)) ∧ q.close = closeS q.hdrs := by
  unfold readW at h
  obtain ⟨l, r1, -, h⟩ := thenS_ok h
  split at h
  · cases h
  · rename_i m t hl
    obtain ⟨hs, r2, hh, h⟩ := thenS_ok h
    obtain ⟨b, r3, hb, h⟩ := thenS_ok h
    injection h with h
    injection h with h1 h2
    subst h1 h2
    obtain ⟨h3, h4, h5⟩ := reqLine_ok hl
    obtain ⟨h6, h7⟩ := headS_good _ _ _ _ _ _ hh (fun h hm => by cases hm)
    exact ⟨h3, h4, h5, by simpa using h6, h7, ⟨_, hb⟩, rfl⟩
/-- the request line, written. -/
def firstL (m t : List UInt8) : List UInt8 := m ++ 32 :: (t ++ 32 :: (vHttp ++ [49, 46, 49]))
theorem targ_no {t : List UInt8} (h : t.all targC = true) (b : UInt8) (hb : targC b = false) : b ∉ t := fun hm => by
  have := List.all_eq_true.1 h b hm
  rw [hb] at this
  cases this
theorem first_read {m t : List UInt8} (hm : tokS m = true) (h0 : t ≠ []) (ht : t.all targC = true) : reqLine (firstL m t) = .ok (m, t) := by
  unfold reqLine firstL
  rw [split1 _ (tok_no hm 32 (by decide)), split1 _ (targ_no ht 32 (by decide)), split1_no (by decide)]
  show (if (tokS m && !decide (t = []) && t.all targC && verOk (vHttp ++ [49, 46, 49])) = true then _ else _) = _
  rw [hm, ht, decide_eq_false h0, if_pos (by decide), if_pos rfl]
theorem first_line {m t : List UInt8} (hm : tokS m = true) (ht : t.all targC = true) (hl : m.length + t.length ≤ 1000) : LineS (firstL m t) ∧ firstL m t ≠ [] := by
  unfold firstL
  refine ⟨⟨?_, ?_, by simp [vHttp]; omega⟩, by simp⟩
  · simp only [List.mem_append, List.mem_cons, not_or]
    exact ⟨tok_no hm 13 (by decide), by decide, targ_no ht 13 (by decide), by decide, by decide⟩
  · simp only [List.mem_append, List.mem_cons, not_or]
    exact ⟨tok_no hm 10 (by decide), by decide, targ_no ht 10 (by decide), by decide, by decide⟩
/-- a header, written anew with its name in capitals. -/
def againL (h : HdrT) : List UInt8 := capS h.name ++ (58 :: 32 :: 32 :: h.value)
theorem val_no {v : List UInt8} (h : v.all (fun c => valC c.toNat) = true) (b : UInt8) (hb : valC b.toNat = false) : b ∉ v := fun hm => by
  have := List.all_eq_true.1 h b hm
  rw [hb] at this
  cases this
theorem again_hdr {h : HdrT} (hg : GoodW h) (hl : h.name.length + h.value.length ≤ 1000) : HdrL (againL h) h := by
  have hc := tokS_cap hg.tok
  have hlen : (capS h.name).length = h.name.length := by unfold capS; rw [List.length_map]
  refine ⟨⟨?_, ?_, ?_⟩, by unfold againL; simp, ?_⟩
  · unfold againL
    simp only [List.mem_append, List.mem_cons, not_or]
    exact ⟨tok_no hc 13 (by decide), by decide, by decide, by decide, val_no hg.val 13 (by decide)⟩
  · unfold againL
    simp only [List.mem_append, List.mem_cons, not_or]
    exact ⟨tok_no hc 10 (by decide), by decide, by decide, by decide, val_no hg.val 10 (by decide)⟩
  · unfold againL
    simp only [List.length_append, List.length_cons, hlen]
    omega
  · unfold hdrOf againL
    rw [cut1_at (tok_no hc 58 (by decide))]
    show (if (tokS (capS h.name) && (32 :: 32 :: h.value).all fun c => valC c.toNat) = true then some (⟨lowS (capS h.name), trimW (32 :: 32 :: h.value)⟩ : HdrT) else none) = _
    rw [hc, List.all_cons, List.all_cons, hg.val, if_pos (by decide), lowS_cap hg.low, trimW_white2, hg.trim]
def isChunked (hs : List HdrT) : Bool := hs.any fun h => decide (h.name = wCoding)
/-- a body, written anew. -/
def bodyA (hs : List HdrT) (b : List UInt8) : List UInt8 :=
  if isChunked hs then (if b = [] then [] else numB 16 b.length ++ 13 :: 10 :: (b ++ [13, 10])) ++ [48, 13, 10, 13, 10] else b
theorem vals_none {hs : List HdrT} {name : List UInt8} : vals hs name = [] ↔ (hs.any fun h => decide (h.name = name)) = false := by
  unfold vals
  rw [List.map_eq_nil_iff, List.filter_eq_nil_iff, List.any_eq_false]
theorem zero_line : LineS [48] ∧ sizeS [48] = some 0 := by
  constructor
  · exact ⟨by decide, by decide, by decide⟩
  · decide
theorem num16_lineS (n : Nat) (hn : n < 16 ^ 8) (t : List UInt8) (ht : (13 : UInt8) ∉ t ∧ (10 : UInt8) ∉ t ∧ t.length ≤ 1000) : LineS (numB 16 n ++ t) := by
  refine ⟨fun hm => ?_, fun hm => ?_, ?_⟩
  · rcases List.mem_append.1 hm with hm | hm
    · exact (num16_line n _ hm).1 rfl
    · exact ht.1 hm
  · rcases List.mem_append.1 hm with hm | hm
    · exact (num16_line n _ hm).2 rfl
    · exact ht.2.1 hm
  · have := num16_len n hn
    rw [List.length_append]; omega
theorem again_body {hs : List HdrT} {s r b : List UInt8} (h : bodyS hs s = .ok (b, r)) (behind : List UInt8) : bodyS hs (bodyA hs b ++ behind) = .ok (b, behind) := by
  unfold bodyS at h ⊢
  by_cases h0 : (vals hs wHost).length ≠ 1 ∨ (vals hs wCoding ≠ [] ∧ vals hs wLength ≠ [])
  · rw [if_pos h0] at h; cases h
  · rw [if_neg h0] at h ⊢
    rcases hv : vals hs wCoding with _ | ⟨c, _ | ⟨c2, cs⟩⟩
    · have hn : isChunked hs = false := vals_none.1 hv
      rw [hv] at h
      simp only at h ⊢
      have hA : bodyA hs b = b := by unfold bodyA; rw [hn]; rfl
      rw [hA]
      rcases hw : vals hs wLength with _ | ⟨v, _ | ⟨v2, vs⟩⟩
      · rw [hw] at h
        simp only at h ⊢
        injection h with h
        injection h with h
        subst h
        rfl
      · rw [hw] at h
        simp only at h ⊢
        by_cases h1 : v = [] ∨ 18 < v.length ∨ v.all digC = false
        · rw [if_pos h1] at h; cases h
        · rw [if_neg h1] at h ⊢
          by_cases h2 : 8192 < numS v
          · rw [if_pos h2] at h; cases h
          · rw [if_neg h2] at h ⊢
            unfold takeS at h
            split at h
            · cases h
            · rename_i h3
              injection h with h
              injection h with h
              have hl : b.length = numS v := by rw [← h, List.length_take]; omega
              rw [← hl]
              exact takeS_app b behind
      · rw [hw] at h; cases h
    · have hn : isChunked hs = true := by
        cases hc : isChunked hs with
        | true => rfl
        | false => have := vals_none.2 hc; rw [hv] at this; cases this
      rw [hv] at h
      simp only at h ⊢
      by_cases h1 : lowS c = wChunked
      · rw [if_pos h1] at h ⊢
        have hb := chunks_bound _ _ _ _ _ (Nat.zero_le _) h
        by_cases hb0 : b = []
        · have hA : bodyA hs b ++ behind = [48] ++ 13 :: 10 :: (13 :: 10 :: behind) := by unfold bodyA; rw [hn, if_pos rfl, if_pos hb0]; rfl
          rw [hA, hb0, chunk_end zero_line.1 zero_line.2 8192 [] (trail_end 32 behind)]
        · have hA : bodyA hs b ++ behind = numB 16 b.length ++ 13 :: 10 :: (b ++ 13 :: 10 :: ([48] ++ 13 :: 10 :: (13 :: 10 :: behind))) := by unfold bodyA; rw [hn, if_pos rfl, if_neg hb0]; simp
          have hl := num16_lineS b.length (by omega) [] ⟨by simp, by simp, by simp⟩
          have hsz := size_num b.length (by omega) [] (.inl rfl)
          rw [List.append_nil] at hl hsz
          rw [hA, chunk_one hl hsz hb0 8192 [] _ (by simpa using hb), chunk_end zero_line.1 zero_line.2 8191 _ (trail_end 32 behind)]
          rfl
      · rw [if_neg h1] at h; cases h
    · rw [hv] at h; cases h
def againS (q : ReqT) : List UInt8 := firstL q.method q.target ++ 13 :: 10 :: (hText (q.hdrs.map againL) ++ 13 :: 10 :: bodyA q.hdrs q.body)
/-- a request that was read, written anew, is read as the same. -/
theorem read_again {s r : List UInt8} {q : ReqT} (h : readW s = .ok (q, r)) (ht : q.target.length ≤ 900) (hm : q.method.length ≤ 80) (hh : ∀ h ∈ q.hdrs, h.name.length + h.value.length ≤ 1000) (hz : hSize (q.hdrs.map againL) ≤ 4096) (behind : List UInt8) :
    readW (againS q ++ behind) = .ok (q, behind) := by
  obtain ⟨h1, h2, h3, h4, h5, ⟨s1, h6⟩, h7⟩ := readW_parts h
  obtain ⟨hl, hne⟩ := first_line h1 h3 (by omega)
  have e : againS q ++ behind = firstL q.method q.target ++ 13 :: 10 :: (hText (q.hdrs.map againL) ++ 13 :: 10 :: (bodyA q.hdrs q.body ++ behind)) := by unfold againS; simp
  have hH := headS_all (q.hdrs.map againL) q.hdrs (by rw [List.length_map]) (fun j l x hl hx => by
    rw [List.getElem?_map, hx] at hl
    injection hl with hl
    rw [← hl]
    have hm := List.mem_of_getElem? hx
    exact again_hdr (h5 x hm) (hh x hm)) 32 0 [] (13 :: 10 :: (bodyA q.hdrs q.body ++ behind)) (by rw [List.length_map]; exact h4) (by omega)
  unfold readW
  rw [e, begin_line hl hne, thenS_mk, first_read h1 h2 h3]
  simp only
  rw [hH, headS_end, thenS_mk, List.nil_append, again_body h6 behind, thenS_mk, ← h7]
end Go.Proofs.YtlkbfehdiopkbaaGreatDoor
