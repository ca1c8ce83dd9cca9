/-
  Plain laws of layer 12 (reply): what Read computes; what is written is read as it was. No condition.
-/
import Derived.Test.YtlkbfehdiopkbaaGreatDoorRepPlain
import Derived.Test.YtlkbfehdiopkbaaGreatDoorCut
namespace Go.Proofs.YtlkbfehdiopkbaaGreatDoor

def valR : List UInt8 → Nat
  | [] => 0
  | d :: r => (d.toNat - 48) + 10 * valR r
def numS (l : List UInt8) : Nat := valR l.reverse
theorem val_dig : ∀ (f n : Nat), n < f → valR (digR f n) = n
  | 0, _, h => absurd h (Nat.not_lt_zero _)
  | f + 1, n, h => by
    unfold digR valR
    have h1 : (UInt8.ofNat (48 + n % 10)).toNat = 48 + n % 10 := by rw [UInt8.toNat_ofNat']; omega
    rw [h1]
    by_cases h0 : n / 10 = 0
    · rw [if_pos h0]
      simp [valR]
      omega
    · rw [if_neg h0, val_dig f (n / 10) (by omega)]
      omega
theorem num_dig (n : Nat) : numS (digS n) = n := by
  unfold numS digS
  rw [List.reverse_reverse]
  exact val_dig _ _ (Nat.lt_succ_self _)
theorem digR_c : ∀ (f n : Nat), ∀ b ∈ digR f n, 48 ≤ b.toNat ∧ b.toNat ≤ 57
  | 0, _, b, h => by cases h
  | f + 1, n, b, h => by
    unfold digR at h
    rcases List.mem_cons.1 h with rfl | h
    · have h1 : (UInt8.ofNat (48 + n % 10)).toNat = 48 + n % 10 := by rw [UInt8.toNat_ofNat']; omega
      rw [h1]; omega
    · split at h
      · cases h
      · exact digR_c f _ b h
theorem digS_c (n : Nat) : ∀ b ∈ digS n, 48 ≤ b.toNat ∧ b.toNat ≤ 57 := fun b h => digR_c _ _ b (by simpa [digS] using h)
theorem digS_ne (n : Nat) : digS n ≠ [] := by
  unfold digS digR
  simp
/-- the number that a Content-Length says. -/
def lengthS (v : List UInt8) : Option Nat := if numS v ≤ 65536 ∧ digS (numS v) = v then some (numS v) else none
theorem length_dig (n : Nat) (h : n ≤ 65536) : lengthS (digS n) = some n := by
  unfold lengthS
  rw [num_dig, if_pos ⟨h, rfl⟩]
def pre9 : List UInt8 := [72, 84, 84, 80, 47, 49, 46, 49, 32]
def nLen : List UInt8 := [67, 111, 110, 116, 101, 110, 116, 45, 76, 101, 110, 103, 116, 104]
def nConn : List UInt8 := [67, 111, 110, 110, 101, 99, 116, 105, 111, 110]
def closeL : List UInt8 := nConn ++ ([58, 32] ++ [99, 108, 111, 115, 101])
def stepL (l : List UInt8) (hs : List HdrT) (n : Nat) (cl : Bool) : Option (List HdrT × Nat × Bool) :=
  match cutS [58, 32] l with
  | none => none
  | some (name, value) =>
    if l = closeL then some (hs, n, true)
    else if name = nLen then (lengthS value).map fun m => (hs, m, cl)
    else some (hs ++ [⟨name, value⟩], n, cl)
def stepsL : List (List UInt8) → List HdrT → Nat → Bool → Option (List HdrT × Nat × Bool)
  | [], hs, n, cl => some (hs, n, cl)
  | l :: ls, hs, n, cl => match stepL l hs n cl with
    | none => none
    | some (hs', n', cl') => stepsL ls hs' n' cl'
def wantS (r : RespT) (n : Nat) : RespT := if r.head = true ∧ r.status ≠ 204 then { r with body := List.replicate n 32 } else r
/-- what Read computes; st: what is made of the status's three bytes. -/
def readR (st : List UInt8 → Int) (buf : List UInt8) (head : Bool) : Option (RespT × Nat) :=
  match cutS [13, 10, 13, 10] buf with
  | none => none
  | some (top, rest) =>
    match Lib.split top [13, 10] with
    | [] => none
    | l0 :: ls =>
      if pre9.isPrefixOf l0 = false ∨ (l0.drop 9).length < 4 then none
      else match stepsL ls [] 0 false with
        | none => none
        | some (hs, n, cl) =>
          if head = false ∧ rest.length < n then none
          else if goodR (wantS ⟨st ((l0.drop 9).take 3), hs, if head then [] else rest.take n, head, cl⟩ n) && (formR (wantS ⟨st ((l0.drop 9).take 3), hs, if head then [] else rest.take n, head, cl⟩ n)).isPrefixOf buf then
            some (⟨st ((l0.drop 9).take 3), hs, if head then [] else rest.take n, head, cl⟩, (formR (wantS ⟨st ((l0.drop 9).take 3), hs, if head then [] else rest.take n, head, cl⟩ n)).length)
          else none

/-! the lines of a form -/
def stLine (r : RespT) : List UInt8 := pre9 ++ (digS r.status.toNat ++ (32 :: reasonS r.status))
def hLine (h : HdrT) : List UInt8 := h.name ++ (58 :: 32 :: h.value)
def lenLine (n : Nat) : List UInt8 := nLen ++ (58 :: 32 :: digS n)
def restLines (r : RespT) (n : Nat) : List (List UInt8) := r.hdrs.map hLine ++ ((if r.status = 204 then [] else [lenLine n]) ++ (if r.close then [closeL] else []))
theorem topOf_app : ∀ (ls : List (List UInt8)), ls ≠ [] → topOf ls ++ crlf = ls.flatMap (· ++ crlf)
  | [], h => absurd rfl h
  | [l], _ => by simp [topOf]
  | l :: l' :: ls, _ => by
    have ih := topOf_app (l' :: ls) (by simp)
    rw [List.flatMap_cons, ← ih]
    simp [topOf, crlf]
theorem top_eq (r : RespT) (n : Nat) : topS r n = topOf (stLine r :: restLines r n) ++ (crlf ++ crlf) := by
  rw [← List.append_assoc, topOf_app _ (by simp)]
  unfold topS restLines stLine
  rw [List.flatMap_cons, List.flatMap_append, List.flatMap_append]
  have h1 : (r.hdrs.map hLine).flatMap (· ++ crlf) = r.hdrs.flatMap hdrF := by
    rw [List.flatMap_map]
    congr 1
    funext h
    simp [hLine, hdrF]
  have h2 : (if r.status = 204 then ([] : List (List UInt8)) else [lenLine n]).flatMap (· ++ crlf) = if r.status = 204 then [] else lenF n := by
    split <;> simp [lenLine, lenF, nLen]
  have h3 : (if r.close = true then [closeL] else ([] : List (List UInt8))).flatMap (· ++ crlf) = if r.close = true then closeF else [] := by
    split <;> simp [closeL, closeF, nConn]
  rw [h1, h2, h3]
  simp [pre9]

/-! a form's lines read again -/
theorem tok_not (s : List UInt8) (h : tokS s = true) (c : UInt8) (hc : tokC c.toNat = false) : c ∉ s := fun hm => by
  unfold tokS at h
  rw [Bool.and_eq_true] at h
  have := List.all_eq_true.1 h.2 c hm
  rw [hc] at this
  cases this
theorem hdr_parts {h : HdrT} (hh : hdrS h = true) : tokS h.name = true ∧ lowS h.name ≠ wLength ∧ lowS h.name ≠ wConn ∧ (h.value.all fun c => valC c.toNat) = true := by
  unfold hdrS at hh
  simp only [Bool.and_eq_true, Bool.not_eq_true', Bool.or_eq_false_iff, decide_eq_false_iff_not] at hh
  exact ⟨hh.1.1.1, hh.1.1.2.1.1, hh.1.1.2.1.2, hh.2⟩
theorem step_h {h : HdrT} (hh : hdrS h = true) (hs : List HdrT) (n : Nat) (cl : Bool) : stepL (hLine h) hs n cl = some (hs ++ [h], n, cl) := by
  obtain ⟨h1, h2, h3, _⟩ := hdr_parts hh
  have hc : cutS [58, 32] (hLine h) = some (h.name, h.value) := cut_at 58 [32] h.name h.value (tok_not _ h1 58 (by decide))
  unfold stepL
  rw [hc]
  have hcl : hLine h ≠ closeL := fun e => by
    have hc2 : cutS [58, 32] closeL = some (nConn, [99, 108, 111, 115, 101]) := by decide
    rw [← e, hc] at hc2
    injection hc2 with hc2
    injection hc2 with hc2 _
    exact h3 (by rw [hc2]; decide)
  have hln : h.name ≠ nLen := fun e => h2 (by rw [e]; decide)
  show (if hLine h = closeL then _ else if h.name = nLen then _ else _) = _
  rw [if_neg hcl, if_neg hln]
theorem step_len (n : Nat) (hn : n ≤ 65536) (hs : List HdrT) (m : Nat) (cl : Bool) : stepL (lenLine n) hs m cl = some (hs, n, cl) := by
  have hc : cutS [58, 32] (lenLine n) = some (nLen, digS n) := cut_at 58 [32] nLen (digS n) (by decide)
  unfold stepL
  rw [hc]
  have hcl : lenLine n ≠ closeL := fun e => by
    have hc2 : cutS [58, 32] closeL = some (nConn, [99, 108, 111, 115, 101]) := by decide
    rw [← e, hc] at hc2
    injection hc2 with hc2
    injection hc2 with hc2 _
    exact absurd hc2 (by decide)
  show (if lenLine n = closeL then _ else if nLen = nLen then _ else _) = _
  rw [if_neg hcl, if_pos rfl, length_dig n hn]
  rfl
theorem step_close (hs : List HdrT) (n : Nat) (cl : Bool) : stepL closeL hs n cl = some (hs, n, true) := by
  have hc2 : cutS [58, 32] closeL = some (nConn, [99, 108, 111, 115, 101]) := by decide
  unfold stepL
  rw [hc2]
  rfl
theorem steps_h (ls : List (List UInt8)) (n : Nat) (cl : Bool) : ∀ (l hs : List HdrT), l.all hdrS = true → stepsL (l.map hLine ++ ls) hs n cl = stepsL ls (hs ++ l) n cl
  | [], hs, _ => by simp
  | h :: l, hs, ha => by
    rw [List.all_cons, Bool.and_eq_true] at ha
    have ih := steps_h ls n cl l (hs ++ [h]) ha.2
    show (match stepL (hLine h) hs n cl with
      | none => none
      | some (hs', n', cl') => stepsL (l.map hLine ++ ls) hs' n' cl') = _
    rw [step_h ha.1]
    show stepsL (l.map hLine ++ ls) (hs ++ [h]) n cl = _
    rw [ih, List.append_assoc]
    rfl
theorem steps_all (r : RespT) (n : Nat) (hn : n ≤ 65536) (ha : r.hdrs.all hdrS = true) : stepsL (restLines r n) [] 0 false = some (r.hdrs, (if r.status = 204 then 0 else n), r.close) := by
  unfold restLines
  rw [steps_h _ _ _ _ _ ha, List.nil_append]
  by_cases h2 : r.status = 204
  · rw [if_pos h2, if_pos h2]
    cases r.close
    · rfl
    · show (match stepL closeL r.hdrs 0 false with
        | none => none
        | some (hs', n', cl') => stepsL [] hs' n' cl') = _
      rw [step_close]
      rfl
  · rw [if_neg h2, if_neg h2]
    show (match stepL (lenLine n) r.hdrs 0 false with
      | none => none
      | some (hs', n', cl') => stepsL (if r.close = true then [closeL] else []) hs' n' cl') = _
    rw [step_len n hn]
    cases r.close
    · rfl
    · show (match stepL closeL r.hdrs n false with
        | none => none
        | some (hs', n', cl') => stepsL [] hs' n' cl') = _
      rw [step_close]
      rfl
def codes : List Int := [200, 201, 204, 207, 400, 403, 404, 405, 409, 412, 413, 414, 415, 422, 423, 424, 431, 500, 501, 505, 507]
theorem reason_codes {n : Int} (h : reasonS n ≠ []) : n ∈ codes := by
  apply Decidable.byContradiction
  intro hn
  simp only [codes, List.mem_cons, List.not_mem_nil, or_false, not_or] at hn
  exact h (by simp [reasonS, hn])
theorem codes_no13 : ∀ n ∈ codes, (13 : UInt8) ∉ reasonS n := by decide
theorem reason_no13 (n : Int) : (13 : UInt8) ∉ reasonS n := by
  by_cases h : reasonS n = []
  · rw [h]; simp
  · exact codes_no13 n (reason_codes h)
theorem codes_dig : ∀ n ∈ codes, (digS n.toNat).length = 3 ∧ 1 ≤ (reasonS n).length := by decide
theorem val_no13 {v : List UInt8} (h : (v.all fun c => valC c.toNat) = true) : (13 : UInt8) ∉ v := fun hm => by
  have := List.all_eq_true.1 h 13 hm
  exact absurd this (by decide)
theorem lines_ok (r : RespT) (n : Nat) (ha : r.hdrs.all hdrS = true) : ∀ l ∈ stLine r :: restLines r n, LineOk l := by
  intro l hl
  rcases List.mem_cons.1 hl with rfl | hl
  · refine ⟨by simp [stLine, pre9], ?_⟩
    unfold stLine
    simp only [List.mem_append, List.mem_cons, not_or]
    refine ⟨by decide, fun h => ?_, by decide, reason_no13 _⟩
    have := digS_c _ _ h
    exact absurd this.1 (by decide)
  · unfold restLines at hl
    rcases List.mem_append.1 hl with hl | hl
    · obtain ⟨h, hh, rfl⟩ := List.mem_map.1 hl
      obtain ⟨h1, h2, h3, h4⟩ := hdr_parts (List.all_eq_true.1 ha h hh)
      refine ⟨by simp [hLine], ?_⟩
      unfold hLine
      simp only [List.mem_append, List.mem_cons, not_or]
      exact ⟨tok_not _ h1 13 (by decide), by decide, by decide, val_no13 h4⟩
    · rcases List.mem_append.1 hl with hl | hl
      · split at hl
        · cases hl
        · rw [List.mem_singleton.1 hl]
          refine ⟨by simp [lenLine], ?_⟩
          unfold lenLine
          simp only [List.mem_append, List.mem_cons, not_or]
          refine ⟨by decide, by decide, by decide, fun h => ?_⟩
          have := digS_c _ _ h
          exact absurd this.1 (by decide)
      · split at hl
        · rw [List.mem_singleton.1 hl]
          exact ⟨by decide, by decide⟩
        · cases hl

theorem good_parts {r : RespT} (h : goodR r = true) : r.hdrs.all hdrS = true ∧ reasonS r.status ≠ [] ∧ r.body.length ≤ 65536 ∧ (r.status = 204 → r.body = []) := by
  unfold goodR at h
  simp only [Bool.and_eq_true, Bool.not_eq_true', decide_eq_false_iff_not, decide_eq_true_eq, Bool.and_eq_false_iff, Bool.not_eq_false'] at h
  refine ⟨h.1.1.1.1, h.1.1.1.2, h.1.2, fun h204 => ?_⟩
  rcases h.2 with h | h
  · exact absurd h204 h
  · exact h
/-- what is written is read as it was, whatever stands behind. -/
theorem read_back (st : List UInt8 → Int) (hst : ∀ n ∈ codes, st (digS n.toNat) = n) (r : RespT) (hg : goodR r = true) (behind : List UInt8) :
    readR st (formR r ++ behind) r.head = some ({ r with body := if r.head then [] else r.body }, (formR r).length) := by
  obtain ⟨ha, hr, hb, h204⟩ := good_parts hg
  have hcode := reason_codes hr
  obtain ⟨hd3, hr1⟩ := codes_dig _ hcode
  have hlo := lines_ok r r.body.length ha
  obtain ⟨tail, ht⟩ : ∃ tail, tail = (if r.head then [] else r.body) ++ behind := ⟨_, rfl⟩
  have hform : formR r ++ behind = topOf (stLine r :: restLines r r.body.length) ++ (13 :: 10 :: 13 :: 10 :: tail) := by
    unfold formR
    rw [top_eq, ht]
    simp [crlf]
  have hcut := cut_top (stLine r :: restLines r r.body.length) tail (by simp) hlo
  have hsplit := split_top (stLine r :: restLines r r.body.length) (by simp) (fun l hl => (hlo l hl).2)
  have hsteps := steps_all r r.body.length hb ha
  have hn : (if r.status = 204 then 0 else r.body.length) = r.body.length := by
    split
    · rename_i h; rw [h204 h]; rfl
    · rfl
  rw [hn] at hsteps
  have hpre : pre9.isPrefixOf (stLine r) = true := by
    rw [List.isPrefixOf_iff_prefix]
    exact ⟨_, rfl⟩
  have hdrop : (stLine r).drop 9 = digS r.status.toNat ++ (32 :: reasonS r.status) := rfl
  have htake : ((stLine r).drop 9).take 3 = digS r.status.toNat := by
    rw [hdrop, ← hd3, List.take_left]
  have hfour : ¬ ((stLine r).drop 9).length < 4 := by
    rw [hdrop, List.length_append, hd3]
    simp
    omega
  have hstat : st (((stLine r).drop 9).take 3) = r.status := by rw [htake]; exact hst _ hcode
  have hpf : (formR r).isPrefixOf (formR r ++ behind) = true := by
    rw [List.isPrefixOf_iff_prefix]
    exact ⟨behind, rfl⟩
  have hwant : ∀ bd, bd = (if r.head then [] else tail.take r.body.length) → (wantS ⟨r.status, r.hdrs, bd, r.head, r.close⟩ r.body.length = { r with body := if r.head ∧ r.status ≠ 204 then List.replicate r.body.length 32 else r.body }) ∧ bd = (if r.head then [] else r.body) := by
    intro bd hbd
    cases hh : r.head
    · rw [hh] at hbd ht
      have hbd2 : bd = r.body := by
        rw [hbd, ht]
        simp
      subst hbd2
      refine ⟨?_, rfl⟩
      unfold wantS
      simp
    · rw [hh] at hbd
      have hbd2 : bd = [] := by rw [hbd]; rfl
      subst hbd2
      refine ⟨?_, rfl⟩
      unfold wantS
      by_cases h2 : r.status = 204
      · simp [h2, h204 h2]
      · simp [h2]
  have hgood2 : goodR { r with body := if r.head ∧ r.status ≠ 204 then List.replicate r.body.length 32 else r.body } = true := by
    split
    · rename_i h
      unfold goodR at hg ⊢
      simp only [Bool.and_eq_true] at hg ⊢
      refine ⟨⟨hg.1.1, by simpa using hg.1.2⟩, by simp [h.2]⟩
    · exact hg
  have hform2 : formR { r with body := if r.head ∧ r.status ≠ 204 then List.replicate r.body.length 32 else r.body } = formR r := by
    split
    · rename_i h
      unfold formR topS
      simp [h.1]
    · rfl
  unfold readR
  rw [hform, hcut]
  show (match Lib.split (topOf (stLine r :: restLines r r.body.length)) [13, 10] with
    | [] => none
    | l0 :: ls => _) = _
  rw [hsplit]
  show (if pre9.isPrefixOf (stLine r) = false ∨ ((stLine r).drop 9).length < 4 then none else match stepsL (restLines r r.body.length) [] 0 false with
    | none => none
    | some (hs, n, cl) => _) = _
  rw [if_neg (by rw [hpre]; simp only [Bool.true_eq_false, false_or]; exact hfour), hsteps]
  obtain ⟨hw, hbd⟩ := hwant _ rfl
  have hlen : ¬ (r.head = false ∧ tail.length < r.body.length) := by
    rintro ⟨h1, h2⟩
    rw [ht, h1] at h2
    simp at h2
    omega
  show (if r.head = false ∧ tail.length < r.body.length then none else _) = _
  rw [if_neg hlen]
  simp only [hstat]
  rw [hw, hgood2, hform2, ← hform, hpf, hbd]
  rfl

/-- what is read off any bytes: it is good, and just these bytes are its form. -/
theorem read_sound {st : List UInt8 → Int} {buf : List UInt8} {head : Bool} {r : RespT} {k : Nat} (h : readR st buf head = some (r, k)) :
    ∃ n, r.head = head ∧ goodR (wantS r n) = true ∧ (formR (wantS r n)).isPrefixOf buf = true ∧ k = (formR (wantS r n)).length ∧ (head = true → r.body = []) := by
  unfold readR at h
  rcases hc : cutS [13, 10, 13, 10] buf with _ | ⟨top, rest⟩
  · rw [hc] at h; cases h
  · rw [hc] at h
    simp only at h
    rcases hs : Lib.split top [13, 10] with _ | ⟨l0, ls⟩
    · rw [hs] at h; cases h
    · rw [hs] at h
      simp only at h
      by_cases h1 : pre9.isPrefixOf l0 = false ∨ (l0.drop 9).length < 4
      · rw [if_pos h1] at h; cases h
      · rw [if_neg h1] at h
        rcases hst : stepsL ls [] 0 false with _ | ⟨hs', n, cl⟩
        · rw [hst] at h; cases h
        · rw [hst] at h
          simp only at h
          by_cases h2 : head = false ∧ rest.length < n
          · rw [if_pos h2] at h; cases h
          · rw [if_neg h2] at h
            obtain ⟨R, hR⟩ : ∃ R, R = (⟨st ((l0.drop 9).take 3), hs', if head then [] else rest.take n, head, cl⟩ : RespT) := ⟨_, rfl⟩
            rw [← hR] at h
            by_cases h3 : (goodR (wantS R n) && (formR (wantS R n)).isPrefixOf buf) = true
            · rw [if_pos h3] at h
              injection h with h
              injection h with e1 e2
              subst e1 e2
              rw [Bool.and_eq_true] at h3
              exact ⟨n, by rw [hR], h3.1, h3.2, rfl, fun hh => by rw [hR, hh]; rfl⟩
            · rw [if_neg h3] at h; cases h
theorem want_head (r : RespT) (n : Nat) : (wantS r n).head = r.head := by
  unfold wantS
  split <;> rfl
/-- a beginning of it isn't read. -/
theorem read_short (st : List UInt8 → Int) (hst : ∀ n ∈ codes, st (digS n.toNat) = n) (r : RespT) (hg : goodR r = true) (p q : List UInt8) (hp : formR r = p ++ q) (hq : q ≠ []) : readR st p r.head = none := by
  rcases h : readR st p r.head with _ | ⟨r', k⟩
  · rfl
  · exfalso
    obtain ⟨n, h1, h2, h3, _, _⟩ := read_sound h
    rw [List.isPrefixOf_iff_prefix] at h3
    obtain ⟨t, ht⟩ := h3
    have ha := read_back st hst r hg []
    have hb := read_back st hst (wantS r' n) h2 (t ++ q)
    rw [List.append_nil] at ha
    rw [want_head, h1, ← List.append_assoc, ht, ← hp, ha] at hb
    injection hb with hb
    injection hb with _ hb
    have h4 := congrArg List.length hp
    have h5 := congrArg List.length ht
    rw [List.length_append] at h4 h5
    have h6 : 0 < q.length := List.length_pos_iff.2 hq
    omega
end Go.Proofs.YtlkbfehdiopkbaaGreatDoor
