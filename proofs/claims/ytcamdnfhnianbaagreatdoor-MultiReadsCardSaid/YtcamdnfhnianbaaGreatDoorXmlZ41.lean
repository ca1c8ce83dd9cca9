/-
  Parts of the walks and plain laws of layer 10, joined: RepPlain RepLaws RepNum MulPlain MulMem RepA MulA MulE. Conditions: as each theorem states them.
-/
import Derived.Lib.SlTrimSet
import Derived.Lib.Bytealg
import Derived.Lib.IndexLaws
import Derived.Test.YtcamdnfhnianbaaGreatDoorCut
import Derived.Lib.AtoiAll
import Derived.Lib.ItoaNum
import Derived.Test.YtcamdnfhnianbaaGreatDoorXmlZ31
import Derived.Test.YtcamdnfhnianbaaGreatDoorXmlZ20
import Derived.Test.YtcamdnfhnianbaaGreatDoorXmlZ37
import Derived.Deep.DrawnRows
import Derived.Test.YtcamdnfhnianbaaGreatDoorBase
/-! RepPlain -/
namespace Go.Proofs.YtcamdnfhnianbaaGreatDoor

structure HdrT where
  name : List UInt8
  value : List UInt8
deriving DecidableEq
structure RespT where
  status : Int
  hdrs : List HdrT
  body : List UInt8
  head : Bool
  close : Bool
deriving DecidableEq

def reasonS (n : Int) : List UInt8 :=
  if n = 200 then [79, 75]
  else if n = 201 then [67, 114, 101, 97, 116, 101, 100]
  else if n = 204 then [78, 111, 32, 67, 111, 110, 116, 101, 110, 116]
  else if n = 207 then [77, 117, 108, 116, 105, 45, 83, 116, 97, 116, 117, 115]
  else if n = 400 then [66, 97, 100, 32, 82, 101, 113, 117, 101, 115, 116]
  else if n = 403 then [70, 111, 114, 98, 105, 100, 100, 101, 110]
  else if n = 404 then [78, 111, 116, 32, 70, 111, 117, 110, 100]
  else if n = 405 then [77, 101, 116, 104, 111, 100, 32, 78, 111, 116, 32, 65, 108, 108, 111, 119, 101, 100]
  else if n = 409 then [67, 111, 110, 102, 108, 105, 99, 116]
  else if n = 412 then [80, 114, 101, 99, 111, 110, 100, 105, 116, 105, 111, 110, 32, 70, 97, 105, 108, 101, 100]
  else if n = 413 then [67, 111, 110, 116, 101, 110, 116, 32, 84, 111, 111, 32, 76, 97, 114, 103, 101]
  else if n = 414 then [85, 82, 73, 32, 84, 111, 111, 32, 76, 111, 110, 103]
  else if n = 415 then [85, 110, 115, 117, 112, 112, 111, 114, 116, 101, 100, 32, 77, 101, 100, 105, 97, 32, 84, 121, 112, 101]
  else if n = 422 then [85, 110, 112, 114, 111, 99, 101, 115, 115, 97, 98, 108, 101, 32, 67, 111, 110, 116, 101, 110, 116]
  else if n = 423 then [76, 111, 99, 107, 101, 100]
  else if n = 424 then [70, 97, 105, 108, 101, 100, 32, 68, 101, 112, 101, 110, 100, 101, 110, 99, 121]
  else if n = 431 then [82, 101, 113, 117, 101, 115, 116, 32, 72, 101, 97, 100, 101, 114, 32, 70, 105, 101, 108, 100, 115, 32, 84, 111, 111, 32, 76, 97, 114, 103, 101]
  else if n = 500 then [73, 110, 116, 101, 114, 110, 97, 108, 32, 83, 101, 114, 118, 101, 114, 32, 69, 114, 114, 111, 114]
  else if n = 501 then [78, 111, 116, 32, 73, 109, 112, 108, 101, 109, 101, 110, 116, 101, 100]
  else if n = 505 then [72, 84, 84, 80, 32, 86, 101, 114, 115, 105, 111, 110, 32, 78, 111, 116, 32, 83, 117, 112, 112, 111, 114, 116, 101, 100]
  else if n = 507 then [73, 110, 115, 117, 102, 102, 105, 99, 105, 101, 110, 116, 32, 83, 116, 111, 114, 97, 103, 101]
  else []
/-- the bytes of a token that are no letter and no digit. -/
def markS : List UInt8 := [33, 35, 36, 37, 38, 39, 42, 43, 45, 46, 94, 95, 96, 124, 126]
def tokC (c : Int) : Bool := decide (97 ≤ c ∧ c ≤ 122 ∨ 65 ≤ c ∧ c ≤ 90 ∨ 48 ≤ c ∧ c ≤ 57) || markS.any fun m => decide ((m.toNat : Int) = c)
def tokS (s : List UInt8) : Bool := !decide (s = []) && s.all fun c => tokC c.toNat
def lowC (c : UInt8) : UInt8 := if 65 ≤ c.toNat ∧ c.toNat ≤ 90 then c + 32 else c
def lowS (s : List UInt8) : List UInt8 := s.map lowC
def wLength : List UInt8 := [99, 111, 110, 116, 101, 110, 116, 45, 108, 101, 110, 103, 116, 104]
def wConn : List UInt8 := [99, 111, 110, 110, 101, 99, 116, 105, 111, 110]
def wCoding : List UInt8 := [116, 114, 97, 110, 115, 102, 101, 114, 45, 101, 110, 99, 111, 100, 105, 110, 103]
def valC (c : Int) : Bool := decide (c = 9 ∨ 32 ≤ c ∧ c ≠ 127)
def trimW (s : List UInt8) : List UInt8 := Lib.trimS s [32, 9]
theorem trimR_cons (x : UInt8) (q cs : List UInt8) : Lib.trimRightS (x :: q) cs = if Lib.trimRightS q cs = [] ∧ cs.contains x = true then [] else x :: Lib.trimRightS q cs := by
  unfold Lib.trimRightS
  rw [List.reverse_cons, List.dropWhile_append]
  generalize q.reverse.dropWhile (cs.contains ·) = D
  cases D with
  | nil =>
    by_cases h : cs.contains x = true
    · rw [List.dropWhile_cons, if_pos h]
      simp only [List.reverse_nil, true_and, if_pos h]
      rfl
    · rw [List.dropWhile_cons, if_neg h]
      simp only [List.reverse_nil, true_and, if_neg h]
      rfl
  | cons a b => simp
theorem trim_comm (cs : List UInt8) : ∀ l : List UInt8, Lib.trimRightS (Lib.trimLeftS l cs) cs = Lib.trimLeftS (Lib.trimRightS l cs) cs
  | [] => rfl
  | x :: q => by
    have ih := trim_comm cs q
    rw [trimR_cons]
    by_cases h : cs.contains x = true
    · have e1 : Lib.trimLeftS (x :: q) cs = Lib.trimLeftS q cs := by unfold Lib.trimLeftS; rw [List.dropWhile_cons, if_pos h]
      rw [e1, ih]
      by_cases h0 : Lib.trimRightS q cs = []
      · rw [if_pos ⟨h0, h⟩, h0]
      · rw [if_neg (fun hh => h0 hh.1)]
        unfold Lib.trimLeftS
        rw [List.dropWhile_cons, if_pos h]
    · have e1 : Lib.trimLeftS (x :: q) cs = x :: q := by unfold Lib.trimLeftS; rw [List.dropWhile_cons, if_neg h]
      rw [e1, trimR_cons, if_neg (fun hh => h hh.2)]
      unfold Lib.trimLeftS
      rw [List.dropWhile_cons, if_neg h]
theorem trimW_eq (l : List UInt8) : trimW l = Lib.trimRightS (Lib.trimLeftS l [32, 9]) [32, 9] := (trim_comm _ l).symm
theorem trimL_white (x : UInt8) (q : List UInt8) (h : (x.toNat : Int) = 32 ∨ (x.toNat : Int) = 9) : Lib.trimLeftS (x :: q) [32, 9] = Lib.trimLeftS q [32, 9] := by
  have h2 : [32, 9].contains x = true := by
    rcases h with h | h
    · rw [show x = 32 from UInt8.toNat_inj.1 (by rw [show (32 : UInt8).toNat = 32 from rfl]; omega)]; rfl
    · rw [show x = 9 from UInt8.toNat_inj.1 (by rw [show (9 : UInt8).toNat = 9 from rfl]; omega)]; rfl
  unfold Lib.trimLeftS
  rw [List.dropWhile_cons, if_pos h2]
theorem white_no (x : UInt8) (h : ¬ (x.toNat : Int) = 32) (h2 : ¬ (x.toNat : Int) = 9) : ¬ [32, 9].contains x = true := by
  intro hc
  have : x = 32 ∨ x = 9 := by simpa using hc
  rcases this with rfl | rfl
  · exact h rfl
  · exact h2 rfl
theorem trimL_not (x : UInt8) (q : List UInt8) (h : ¬ (x.toNat : Int) = 32) (h2 : ¬ (x.toNat : Int) = 9) : Lib.trimLeftS (x :: q) [32, 9] = x :: q := by
  unfold Lib.trimLeftS
  rw [List.dropWhile_cons, if_neg (white_no x h h2)]
theorem trimR_white (x : UInt8) (q : List UInt8) (h : (x.toNat : Int) = 32 ∨ (x.toNat : Int) = 9) : Lib.trimRightS (q ++ [x]) [32, 9] = Lib.trimRightS q [32, 9] := by
  have h2 : [32, 9].contains x = true := by
    rcases h with h | h
    · rw [show x = 32 from UInt8.toNat_inj.1 (by rw [show (32 : UInt8).toNat = 32 from rfl]; omega)]; rfl
    · rw [show x = 9 from UInt8.toNat_inj.1 (by rw [show (9 : UInt8).toNat = 9 from rfl]; omega)]; rfl
  unfold Lib.trimRightS
  rw [List.reverse_append, List.reverse_cons, List.reverse_nil, List.nil_append, List.singleton_append, List.dropWhile_cons, if_pos h2]
theorem trimR_not (x : UInt8) (q : List UInt8) (h : ¬ (x.toNat : Int) = 32) (h2 : ¬ (x.toNat : Int) = 9) : Lib.trimRightS (q ++ [x]) [32, 9] = q ++ [x] := by
  unfold Lib.trimRightS
  rw [List.reverse_append, List.reverse_cons, List.reverse_nil, List.nil_append, List.singleton_append, List.dropWhile_cons, if_neg (white_no x h h2)]
  simp
theorem last_cases (l : List UInt8) : l = [] ∨ ∃ q x, l = q ++ [x] := by
  rcases List.eq_nil_or_concat l with h | ⟨q, x, h⟩
  · exact .inl h
  · exact .inr ⟨q, x, by simpa using h⟩
def hdrS (h : HdrT) : Bool := tokS h.name && !(decide (lowS h.name = wLength) || decide (lowS h.name = wConn) || decide (lowS h.name = wCoding)) && decide (trimW h.value = h.value) && h.value.all fun c => valC c.toNat
def goodR (r : RespT) : Bool := r.hdrs.all hdrS && !decide (reasonS r.status = []) && decide (r.hdrs.length ≤ 32) && decide (r.body.length ≤ 65536) && !(decide (r.status = 204) && !decide (r.body = []))
/-- a number's digits, from the last to the first. -/
def digR : Nat → Nat → List UInt8
  | 0, _ => []
  | f + 1, n => UInt8.ofNat (48 + n % 10) :: if n / 10 = 0 then [] else digR f (n / 10)
def digS (n : Nat) : List UInt8 := (digR (n + 1) n).reverse
def crlf : List UInt8 := [13, 10]
def hdrF (h : HdrT) : List UInt8 := h.name ++ ([58, 32] ++ (h.value ++ crlf))
def lenF (n : Nat) : List UInt8 := [67, 111, 110, 116, 101, 110, 116, 45, 76, 101, 110, 103, 116, 104, 58, 32] ++ (digS n ++ crlf)
def closeF : List UInt8 := [67, 111, 110, 110, 101, 99, 116, 105, 111, 110, 58, 32, 99, 108, 111, 115, 101] ++ crlf
/-- all of a form but the body. -/
def topS (r : RespT) (n : Nat) : List UInt8 :=
  [72, 84, 84, 80, 47, 49, 46, 49, 32] ++ (digS r.status.toNat ++ ([32] ++ (reasonS r.status ++ (crlf ++
    (r.hdrs.flatMap hdrF ++ ((if r.status = 204 then [] else lenF n) ++ ((if r.close then closeF else []) ++ crlf)))))))
def formR (r : RespT) : List UInt8 := topS r r.body.length ++ (if r.head then [] else r.body)
def writeS (r : RespT) : Option (List UInt8) := if goodR r then some (formR r) else none
end Go.Proofs.YtcamdnfhnianbaaGreatDoor
/-! RepLaws -/
namespace Go.Proofs.YtcamdnfhnianbaaGreatDoor

def valR : List UInt8 → Nat
  | [] => 0
  | d :: r => (d.toNat - 48) + 10 * valR r
def numS (l : List UInt8) : Nat := valR l.reverse
theorem val_dig : ∀ (f n : Nat), n < f → valR (digR f n) = n
  | 0, _, h => absurd h (Nat.not_lt_zero _)
  | f + 1, n, h => by
    unfold digR valR
    have h1 : (UInt8.ofNat (48 + n % 10)).toNat = 48 + n % 10 := by rw [UInt8.toNat_ofNat']; omega
    rw [h1]
    by_cases h0 : n / 10 = 0
    · rw [if_pos h0]
      simp [valR]
      omega
    · rw [if_neg h0, val_dig f (n / 10) (by omega)]
      omega
theorem num_dig (n : Nat) : numS (digS n) = n := by
  unfold numS digS
  rw [List.reverse_reverse]
  exact val_dig _ _ (Nat.lt_succ_self _)
theorem digR_c : ∀ (f n : Nat), ∀ b ∈ digR f n, 48 ≤ b.toNat ∧ b.toNat ≤ 57
  | 0, _, b, h => by cases h
  | f + 1, n, b, h => by
    unfold digR at h
    rcases List.mem_cons.1 h with rfl | h
    · have h1 : (UInt8.ofNat (48 + n % 10)).toNat = 48 + n % 10 := by rw [UInt8.toNat_ofNat']; omega
      rw [h1]; omega
    · split at h
      · cases h
      · exact digR_c f _ b h
theorem digS_c (n : Nat) : ∀ b ∈ digS n, 48 ≤ b.toNat ∧ b.toNat ≤ 57 := fun b h => digR_c _ _ b (by simpa [digS] using h)
theorem digS_ne (n : Nat) : digS n ≠ [] := by
  unfold digS digR
  simp
/-- the number that a Content-Length says. -/
def lengthS (v : List UInt8) : Option Nat := if numS v ≤ 65536 ∧ digS (numS v) = v then some (numS v) else none
theorem length_dig (n : Nat) (h : n ≤ 65536) : lengthS (digS n) = some n := by
  unfold lengthS
  rw [num_dig, if_pos ⟨h, rfl⟩]
def pre9 : List UInt8 := [72, 84, 84, 80, 47, 49, 46, 49, 32]
def nLen : List UInt8 := [67, 111, 110, 116, 101, 110, 116, 45, 76, 101, 110, 103, 116, 104]
def nConn : List UInt8 := [67, 111, 110, 110, 101, 99, 116, 105, 111, 110]
def closeL : List UInt8 := nConn ++ ([58, 32] ++ [99, 108, 111, 115, 101])
def stepL (l : List UInt8) (hs : List HdrT) (n : Nat) (cl : Bool) : Option (List HdrT × Nat × Bool) :=
  match cutS [58, 32] l with
  | none => none
  | some (name, value) =>
    if l = closeL then some (hs, n, true)
    else if name = nLen then (lengthS value).map fun m => (hs, m, cl)
    else some (hs ++ [⟨name, value⟩], n, cl)
def stepsL : List (List UInt8) → List HdrT → Nat → Bool → Option (List HdrT × Nat × Bool)
  | [], hs, n, cl => some (hs, n, cl)
  | l :: ls, hs, n, cl => match stepL l hs n cl with
    | none => none
    | some (hs', n', cl') => stepsL ls hs' n' cl'
def wantS (r : RespT) (n : Nat) : RespT := if r.head = true ∧ r.status ≠ 204 then { r with body := List.replicate n 32 } else r
/-- what Read computes; st: what is made of the status's three bytes. -/
def readR (st : List UInt8 → Int) (buf : List UInt8) (head : Bool) : Option (RespT × Nat) :=
  match cutS [13, 10, 13, 10] buf with
  | none => none
  | some (top, rest) =>
    match Lib.split top [13, 10] with
    | [] => none
    | l0 :: ls =>
      if pre9.isPrefixOf l0 = false ∨ (l0.drop 9).length < 4 then none
      else match stepsL ls [] 0 false with
        | none => none
        | some (hs, n, cl) =>
          if head = false ∧ rest.length < n then none
          else if goodR (wantS ⟨st ((l0.drop 9).take 3), hs, if head then [] else rest.take n, head, cl⟩ n) && (formR (wantS ⟨st ((l0.drop 9).take 3), hs, if head then [] else rest.take n, head, cl⟩ n)).isPrefixOf buf then
            some (⟨st ((l0.drop 9).take 3), hs, if head then [] else rest.take n, head, cl⟩, (formR (wantS ⟨st ((l0.drop 9).take 3), hs, if head then [] else rest.take n, head, cl⟩ n)).length)
          else none

/-! the lines of a form -/
def stLine (r : RespT) : List UInt8 := pre9 ++ (digS r.status.toNat ++ (32 :: reasonS r.status))
def hLine (h : HdrT) : List UInt8 := h.name ++ (58 :: 32 :: h.value)
def lenLine (n : Nat) : List UInt8 := nLen ++ (58 :: 32 :: digS n)
def restLines (r : RespT) (n : Nat) : List (List UInt8) := r.hdrs.map hLine ++ ((if r.status = 204 then [] else [lenLine n]) ++ (if r.close then [closeL] else []))
theorem topOf_app : ∀ (ls : List (List UInt8)), ls ≠ [] → topOf ls ++ crlf = ls.flatMap (· ++ crlf)
  | [], h => absurd rfl h
  | [l], _ => by simp [topOf]
  | l :: l' :: ls, _ => by
    have ih := topOf_app (l' :: ls) (by simp)
    rw [List.flatMap_cons, ← ih]
    simp [topOf, crlf]
theorem top_eq (r : RespT) (n : Nat) : topS r n = topOf (stLine r :: restLines r n) ++ (crlf ++ crlf) := by
  rw [← List.append_assoc, topOf_app _ (by simp)]
  unfold topS restLines stLine
  rw [List.flatMap_cons, List.flatMap_append, List.flatMap_append]
  have h1 : (r.hdrs.map hLine).flatMap (· ++ crlf) = r.hdrs.flatMap hdrF := by
    rw [List.flatMap_map]
    congr 1
    funext h
    simp [hLine, hdrF]
  have h2 : (if r.status = 204 then ([] : List (List UInt8)) else [lenLine n]).flatMap (· ++ crlf) = if r.status = 204 then [] else lenF n := by
    split <;> simp [lenLine, lenF, nLen]
  have h3 : (if r.close = true then [closeL] else ([] : List (List UInt8))).flatMap (· ++ crlf) = if r.close = true then closeF else [] := by
    split <;> simp [closeL, closeF, nConn]
  rw [h1, h2, h3]
  simp [pre9]

/-! a form's lines read again -/
theorem tok_not (s : List UInt8) (h : tokS s = true) (c : UInt8) (hc : tokC c.toNat = false) : c ∉ s := fun hm => by
  unfold tokS at h
  rw [Bool.and_eq_true] at h
  have := List.all_eq_true.1 h.2 c hm
  rw [hc] at this
  cases this
theorem hdr_parts {h : HdrT} (hh : hdrS h = true) : tokS h.name = true ∧ lowS h.name ≠ wLength ∧ lowS h.name ≠ wConn ∧ (h.value.all fun c => valC c.toNat) = true := by
  unfold hdrS at hh
  simp only [Bool.and_eq_true, Bool.not_eq_true', Bool.or_eq_false_iff, decide_eq_false_iff_not] at hh
  exact ⟨hh.1.1.1, hh.1.1.2.1.1, hh.1.1.2.1.2, hh.2⟩
theorem step_h {h : HdrT} (hh : hdrS h = true) (hs : List HdrT) (n : Nat) (cl : Bool) : stepL (hLine h) hs n cl = some (hs ++ [h], n, cl) := by
  obtain ⟨h1, h2, h3, _⟩ := hdr_parts hh
  have hc : cutS [58, 32] (hLine h) = some (h.name, h.value) := cut_at 58 [32] h.name h.value (tok_not _ h1 58 (by decide))
  unfold stepL
  rw [hc]
  have hcl : hLine h ≠ closeL := fun e => by
    have hc2 : cutS [58, 32] closeL = some (nConn, [99, 108, 111, 115, 101]) := by decide
    rw [← e, hc] at hc2
    injection hc2 with hc2
    injection hc2 with hc2 _
    exact h3 (by rw [hc2]; decide)
  have hln : h.name ≠ nLen := fun e => h2 (by rw [e]; decide)
  show (if hLine h = closeL then _ else if h.name = nLen then _ else _) = _
  rw [if_neg hcl, if_neg hln]
theorem step_len (n : Nat) (hn : n ≤ 65536) (hs : List HdrT) (m : Nat) (cl : Bool) : stepL (lenLine n) hs m cl = some (hs, n, cl) := by
  have hc : cutS [58, 32] (lenLine n) = some (nLen, digS n) := cut_at 58 [32] nLen (digS n) (by decide)
  unfold stepL
  rw [hc]
  have hcl : lenLine n ≠ closeL := fun e => by
    have hc2 : cutS [58, 32] closeL = some (nConn, [99, 108, 111, 115, 101]) := by decide
    rw [← e, hc] at hc2
    injection hc2 with hc2
    injection hc2 with hc2 _
    exact absurd hc2 (by decide)
  show (if lenLine n = closeL then _ else if nLen = nLen then _ else _) = _
  rw [if_neg hcl, if_pos rfl, length_dig n hn]
  rfl
theorem step_close (hs : List HdrT) (n : Nat) (cl : Bool) : stepL closeL hs n cl = some (hs, n, true) := by
  have hc2 : cutS [58, 32] closeL = some (nConn, [99, 108, 111, 115, 101]) := by decide
  unfold stepL
  rw [hc2]
  rfl
theorem steps_h (ls : List (List UInt8)) (n : Nat) (cl : Bool) : ∀ (l hs : List HdrT), l.all hdrS = true → stepsL (l.map hLine ++ ls) hs n cl = stepsL ls (hs ++ l) n cl
  | [], hs, _ => by simp
  | h :: l, hs, ha => by
    rw [List.all_cons, Bool.and_eq_true] at ha
    have ih := steps_h ls n cl l (hs ++ [h]) ha.2
    show (match stepL (hLine h) hs n cl with
      | none => none
      | some (hs', n', cl') => stepsL (l.map hLine ++ ls) hs' n' cl') = _
    rw [step_h ha.1]
    show stepsL (l.map hLine ++ ls) (hs ++ [h]) n cl = _
    rw [ih, List.append_assoc]
    rfl
theorem steps_all (r : RespT) (n : Nat) (hn : n ≤ 65536) (ha : r.hdrs.all hdrS = true) : stepsL (restLines r n) [] 0 false = some (r.hdrs, (if r.status = 204 then 0 else n), r.close) := by
  unfold restLines
  rw [steps_h _ _ _ _ _ ha, List.nil_append]
  by_cases h2 : r.status = 204
  · rw [if_pos h2, if_pos h2]
    cases r.close
    · rfl
    · show (match stepL closeL r.hdrs 0 false with
        | none => none
        | some (hs', n', cl') => stepsL [] hs' n' cl') = _
      rw [step_close]
      rfl
  · rw [if_neg h2, if_neg h2]
    show (match stepL (lenLine n) r.hdrs 0 false with
      | none => none
      | some (hs', n', cl') => stepsL (if r.close = true then [closeL] else []) hs' n' cl') = _
    rw [step_len n hn]
    cases r.close
    · rfl
    · show (match stepL closeL r.hdrs n false with
        | none => none
        | some (hs', n', cl') => stepsL [] hs' n' cl') = _
      rw [step_close]
      rfl
def codes : List Int := [200, 201, 204, 207, 400, 403, 404, 405, 409, 412, 413, 414, 415, 422, 423, 424, 431, 500, 501, 505, 507]
theorem reason_codes {n : Int} (h : reasonS n ≠ []) : n ∈ codes := by
  apply Decidable.byContradiction
  intro hn
  simp only [codes, List.mem_cons, List.not_mem_nil, or_false, not_or] at hn
  exact h (by simp [reasonS, hn])
theorem codes_no13 : ∀ n ∈ codes, (13 : UInt8) ∉ reasonS n := by decide
theorem reason_no13 (n : Int) : (13 : UInt8) ∉ reasonS n := by
  by_cases h : reasonS n = []
  · rw [h]; simp
  · exact codes_no13 n (reason_codes h)
theorem codes_dig : ∀ n ∈ codes, (digS n.toNat).length = 3 ∧ 1 ≤ (reasonS n).length := by decide
theorem val_no13 {v : List UInt8} (h : (v.all fun c => valC c.toNat) = true) : (13 : UInt8) ∉ v := fun hm => by
  have := List.all_eq_true.1 h 13 hm
  exact absurd this (by decide)
theorem lines_ok (r : RespT) (n : Nat) (ha : r.hdrs.all hdrS = true) : ∀ l ∈ stLine r :: restLines r n, LineOk l := by
  intro l hl
  rcases List.mem_cons.1 hl with rfl | hl
  · refine ⟨by simp [stLine, pre9], ?_⟩
    unfold stLine
    simp only [List.mem_append, List.mem_cons, not_or]
    refine ⟨by decide, fun h => ?_, by decide, reason_no13 _⟩
    have := digS_c _ _ h
    exact absurd this.1 (by decide)
  · unfold restLines at hl
    rcases List.mem_append.1 hl with hl | hl
    · obtain ⟨h, hh, rfl⟩ := List.mem_map.1 hl
      obtain ⟨h1, h2, h3, h4⟩ := hdr_parts (List.all_eq_true.1 ha h hh)
      refine ⟨by simp [hLine], ?_⟩
      unfold hLine
      simp only [List.mem_append, List.mem_cons, not_or]
      exact ⟨tok_not _ h1 13 (by decide), by decide, by decide, val_no13 h4⟩
    · rcases List.mem_append.1 hl with hl | hl
      · split at hl
        · cases hl
        · rw [List.mem_singleton.1 hl]
          refine ⟨by simp [lenLine], ?_⟩
          unfold lenLine
          simp only [List.mem_append, List.mem_cons, not_or]
          refine ⟨by decide, by decide, by decide, fun h => ?_⟩
          have := digS_c _ _ h
          exact absurd this.1 (by decide)
      · split at hl
        · rw [List.mem_singleton.1 hl]
          exact ⟨by decide, by decide⟩
        · cases hl

theorem good_parts {r : RespT} (h : goodR r = true) : r.hdrs.all hdrS = true ∧ reasonS r.status ≠ [] ∧ r.body.length ≤ 65536 ∧ (r.status = 204 → r.body = []) := by
  unfold goodR at h
  simp only [Bool.and_eq_true, Bool.not_eq_true', decide_eq_false_iff_not, decide_eq_true_eq, Bool.and_eq_false_iff, Bool.not_eq_false'] at h
  refine ⟨h.1.1.1.1, h.1.1.1.2, h.1.2, fun h204 => ?_⟩
  rcases h.2 with h | h
  · exact absurd h204 h
  · exact h
/-- what is written is read asz it was, whatever stands behind. -/
theorem read_back (st : List UInt8 → Int) (hst : ∀ n ∈ codes, st (digS n.toNat) = n) (r : RespT) (hg : goodR r = true) (behind : List UInt8) :
    readR st (formR r ++ behind) r.head = some ({ r with body := if r.head then [] else r.body }, (formR r).length) := by
  obtain ⟨ha, hr, hb, h204⟩ := good_parts hg
  have hcode := reason_codes hr
  obtain ⟨hd3, hr1⟩ := codes_dig _ hcode
  have hlo := lines_ok r r.body.length ha
  obtain ⟨tail, ht⟩ : ∃ tail, tail = (if r.head then [] else r.body) ++ behind := ⟨_, rfl⟩
  have hform : formR r ++ behind = topOf (stLine r :: restLines r r.body.length) ++ (13 :: 10 :: 13 :: 10 :: tail) := by
    unfold formR
    rw [top_eq, ht]
    simp [crlf]
  have hcut := cut_top (stLine r :: restLines r r.body.length) tail (by simp) hlo
  have hsplit := split_top (stLine r :: restLines r r.body.length) (by simp) (fun l hl => (hlo l hl).2)
  have hsteps := steps_all r r.body.length hb ha
  have hn : (if r.status = 204 then 0 else r.body.length) = r.body.length := by
    split
    · rename_i h; rw [h204 h]; rfl
    · rfl
  rw [hn] at hsteps
  have hpre : pre9.isPrefixOf (stLine r) = true := by
    rw [List.isPrefixOf_iff_prefix]
    exact ⟨_, rfl⟩
  have hdrop : (stLine r).drop 9 = digS r.status.toNat ++ (32 :: reasonS r.status) := rfl
  have htake : ((stLine r).drop 9).take 3 = digS r.status.toNat := by
    rw [hdrop, ← hd3, List.take_left]
  have hfour : ¬ ((stLine r).drop 9).length < 4 := by
    rw [hdrop, List.length_append, hd3]
    simp
    omega
  have hstat : st (((stLine r).drop 9).take 3) = r.status := by rw [htake]; exact hst _ hcode
  have hpf : (formR r).isPrefixOf (formR r ++ behind) = true := by
    rw [List.isPrefixOf_iff_prefix]
    exact ⟨behind, rfl⟩
  have hwant : ∀ bd, bd = (if r.head then [] else tail.take r.body.length) → (wantS ⟨r.status, r.hdrs, bd, r.head, r.close⟩ r.body.length = { r with body := if r.head ∧ r.status ≠ 204 then List.replicate r.body.length 32 else r.body }) ∧ bd = (if r.head then [] else r.body) := by
    intro bd hbd
    cases hh : r.head
    · rw [hh] at hbd ht
      have hbd2 : bd = r.body := by
        rw [hbd, ht]
        simp
      subst hbd2
      refine ⟨?_, rfl⟩
      unfold wantS
      simp
    · rw [hh] at hbd
      have hbd2 : bd = [] := by rw [hbd]; rfl
      subst hbd2
      refine ⟨?_, rfl⟩
      unfold wantS
      by_cases h2 : r.status = 204
      · simp [h2, h204 h2]
      · simp [h2]
  have hgood2 : goodR { r with body := if r.head ∧ r.status ≠ 204 then List.replicate r.body.length 32 else r.body } = true := by
    split
    · rename_i h
      unfold goodR at hg ⊢
      simp only [Bool.and_eq_true] at hg ⊢
      refine ⟨⟨hg.1.1, by simpa using hg.1.2⟩, by simp [h.2]⟩
    · exact hg
  have hform2 : formR { r with body := if r.head ∧ r.status ≠ 204 then List.replicate r.body.length 32 else r.body } = formR r := by
    split
    · rename_i h
      unfold formR topS
      simp [h.1]
    · rfl
  unfold readR
  rw [hform, hcut]
  show (match Lib.split (topOf (stLine r :: restLines r r.body.length)) [13, 10] with
    | [] => none
    | l0 :: ls => _) = _
  rw [hsplit]
  show (if pre9.isPrefixOf (stLine r) = false ∨ ((stLine r).drop 9).length < 4 then none else match stepsL (restLines r r.body.length) [] 0 false with
    | none => none
    | some (hs, n, cl) => _) = _
  rw [if_neg (by rw [hpre]; simp only [Bool.true_eq_false, false_or]; exact hfour), hsteps]
  obtain ⟨hw, hbd⟩ := hwant _ rfl
  have hlen : ¬ (r.head = false ∧ tail.length < r.body.length) := by
    rintro ⟨h1, h2⟩
    rw [ht, h1] at h2
    simp at h2
    omega
  show (if r.head = false ∧ tail.length < r.body.length then none else _) = _
  rw [if_neg hlen]
  simp only [hstat]
  rw [hw, hgood2, hform2, ← hform, hpf, hbd]
  rfl

/-- what is read off any bytes: it is good, and just these bytes are its form. -/
theorem read_sound {st : List UInt8 → Int} {buf : List UInt8} {head : Bool} {r : RespT} {k : Nat} (h : readR st buf head = some (r, k)) :
    ∃ n, r.head = head ∧ goodR (wantS r n) = true ∧ (formR (wantS r n)).isPrefixOf buf = true ∧ k = (formR (wantS r n)).length ∧ (head = true → r.body = []) := by
  unfold readR at h
  rcases hc : cutS [13, 10, 13, 10] buf with _ | ⟨top, rest⟩
  · rw [hc] at h; cases h
  · rw [hc] at h
    simp only at h
    rcases hs : Lib.split top [13, 10] with _ | ⟨l0, ls⟩
    · rw [hs] at h; cases h
    · rw [hs] at h
      simp only at h
      by_cases h1 : pre9.isPrefixOf l0 = false ∨ (l0.drop 9).length < 4
      · rw [if_pos h1] at h; cases h
      · rw [if_neg h1] at h
        rcases hst : stepsL ls [] 0 false with _ | ⟨hs', n, cl⟩
        · rw [hst] at h; cases h
        · rw [hst] at h
          simp only at h
          by_cases h2 : head = false ∧ rest.length < n
          · rw [if_pos h2] at h; cases h
          · rw [if_neg h2] at h
            obtain ⟨R, hR⟩ : ∃ R, R = (⟨st ((l0.drop 9).take 3), hs', if head then [] else rest.take n, head, cl⟩ : RespT) := ⟨_, rfl⟩
            rw [← hR] at h
            by_cases h3 : (goodR (wantS R n) && (formR (wantS R n)).isPrefixOf buf) = true
            · rw [if_pos h3] at h
              injection h with h
              injection h with e1 e2
              subst e1 e2
              rw [Bool.and_eq_true] at h3
              exact ⟨n, by rw [hR], h3.1, h3.2, rfl, fun hh => by rw [hR, hh]; rfl⟩
            · rw [if_neg h3] at h; cases h
theorem want_head (r : RespT) (n : Nat) : (wantS r n).head = r.head := by
  unfold wantS
  split <;> rfl
/-- a beginning of it isn't read. -/
theorem read_short (st : List UInt8 → Int) (hst : ∀ n ∈ codes, st (digS n.toNat) = n) (r : RespT) (hg : goodR r = true) (p q : List UInt8) (hp : formR r = p ++ q) (hq : q ≠ []) : readR st p r.head = none := by
  rcases h : readR st p r.head with _ | ⟨r', k⟩
  · rfl
  · exfalso
    obtain ⟨n, h1, h2, h3, _, _⟩ := read_sound h
    rw [List.isPrefixOf_iff_prefix] at h3
    obtain ⟨t, ht⟩ := h3
    have ha := read_back st hst r hg []
    have hb := read_back st hst (wantS r' n) h2 (t ++ q)
    rw [List.append_nil] at ha
    rw [want_head, h1, ← List.append_assoc, ht, ← hp, ha] at hb
    injection hb with hb
    injection hb with _ hb
    have h4 := congrArg List.length hp
    have h5 := congrArg List.length ht
    rw [List.length_append] at h4 h5
    have h6 : 0 < q.length := List.length_pos_iff.2 hq
    omega
end Go.Proofs.YtcamdnfhnianbaaGreatDoor
/-! RepNum -/
namespace Go.Proofs.YtcamdnfhnianbaaGreatDoor
open Go.Lib

theorem digR_dec : ∀ (f n : Nat), n < f → (digR f n).reverse = decDigits n
  | 0, _, h => absurd h (Nat.not_lt_zero _)
  | f + 1, n, h => by
    unfold digR
    rw [decDigits]
    by_cases h0 : n / 10 = 0
    · have h1 : n < 10 := by omega
      rw [if_pos h0, dif_pos h1, Nat.mod_eq_of_lt h1]
      rfl
    · rw [if_neg h0, dif_neg (by omega), List.reverse_cons, digR_dec f (n / 10) (by omega)]
theorem digS_dec (n : Nat) : digS n = decDigits n := digR_dec _ _ (Nat.lt_succ_self _)
theorem digS_itoa (n : Nat) : itoa (n : Int) = digS n := by
  rw [digS_dec]
  unfold itoa
  rw [if_neg (by omega), Int.toNat_natCast]
/-- what a row of digits says, read from the front. -/
def fwd (a : Nat) (l : List UInt8) : Nat := l.foldl (fun a c => a * 10 + (c.toNat - 48)) a
theorem fwd_ge : ∀ (l : List UInt8) (a : Nat), a ≤ fwd a l
  | [], _ => Nat.le_refl _
  | c :: l, a => by
    have := fwd_ge l (a * 10 + (c.toNat - 48))
    show a ≤ fwd (a * 10 + (c.toNat - 48)) l
    omega
theorem parse_fwd : ∀ (l : List UInt8) (a : Nat), (∀ b ∈ l, 48 ≤ b.toNat ∧ b.toNat ≤ 57) → fwd a l < 1000000000000 → parseUint10 a l = .ok (fwd a l)
  | [], _, _, _ => rfl
  | c :: l, a, hd, hb => by
    have hc := hd c (by simp)
    have h1 : fwd (a * 10 + (c.toNat - 48)) l < 1000000000000 := hb
    have h2 := fwd_ge l (a * 10 + (c.toNat - 48))
    simp only [parseUint10]
    rw [if_pos hc, if_neg (by omega), if_neg (by omega), parse_fwd l _ (fun b hb => hd b (by simp [hb])) h1]
    rfl
theorem fwd_dig : ∀ (f n : Nat), n < f → fwd 0 (digR f n).reverse = n
  | 0, _, h => absurd h (Nat.not_lt_zero _)
  | f + 1, n, h => by
    unfold digR
    have h1 : (UInt8.ofNat (48 + n % 10)).toNat = 48 + n % 10 := by rw [UInt8.toNat_ofNat']; omega
    by_cases h0 : n / 10 = 0
    · rw [if_pos h0]
      show 0 * 10 + ((UInt8.ofNat (48 + n % 10)).toNat - 48) = n
      omega
    · rw [if_neg h0, List.reverse_cons]
      unfold fwd
      rw [List.foldl_append]
      show fwd 0 (digR f (n / 10)).reverse * 10 + ((UInt8.ofNat (48 + n % 10)).toNat - 48) = n
      rw [fwd_dig f (n / 10) (by omega)]
      omega
theorem atoi_dig (n : Nat) (h : n < 1000000000000) : atoiAll (digS n) = .ok n := by
  have hf : fwd 0 (digS n) = n := fwd_dig _ _ (Nat.lt_succ_self _)
  have hp : parseUint10 0 (digS n) = .ok n := by
    have := parse_fwd (digS n) 0 (digS_c n) (by rw [hf]; exact h)
    rw [this, hf]
  have hc := digS_c n
  have hne := digS_ne n
  generalize digS n = l at hp hc hne
  cases l with
  | nil => exact absurd rfl hne
  | cons c r =>
    have hcc := hc c (by simp)
    unfold atoiAll
    simp only
    rw [if_neg (by omega)]
    unfold parseMag
    rw [if_neg (by simp), hp]
    simp only
    rw [if_neg (by omega), if_neg (by omega), if_neg (by omega)]
/-- what length answers: the number, and whether the text is a number's form that may be. -/
theorem length_yes {v : List UInt8} {m : Nat} (h : lengthS v = some m) : m ≤ 65536 ∧ digS m = v := by
  unfold lengthS at h
  split at h
  · rename_i hh
    injection h with h
    subst h
    exact hh
  · cases h
theorem length_no {v : List UInt8} {n : Int} (h : lengthS v = none) (h0 : 0 ≤ n) (h1 : n ≤ 65536) : itoa n ≠ v := fun e => by
  obtain ⟨m, rfl⟩ := Int.eq_ofNat_of_zero_le h0
  rw [digS_itoa] at e
  rw [← e, length_dig m (by omega)] at h
  cases h
/-- what is made of the status's three bytes. -/
def stS (l : List UInt8) : Int := match atoiAll l with
  | .ok n => n
  | .range => atoiSat l
  | _ => 0
theorem stS_codes : ∀ n ∈ codes, stS (digS n.toNat) = n := by decide +kernel
end Go.Proofs.YtcamdnfhnianbaaGreatDoor
/-! MulPlain -/
namespace Go.Proofs.YtcamdnfhnianbaaGreatDoor
set_option linter.unusedVariables false
set_option linter.unusedSimpArgs false

structure PartT where
  status : Int
  props : List NodeT
structure ToldT where
  href : List UInt8
  parts : List PartT
def wMulti : List UInt8 := [109, 117, 108, 116, 105, 115, 116, 97, 116, 117, 115]
def wResp : List UInt8 := [114, 101, 115, 112, 111, 110, 115, 101]
def wHref : List UInt8 := [104, 114, 101, 102]
def wStat : List UInt8 := [112, 114, 111, 112, 115, 116, 97, 116]
def wStatus : List UInt8 := [115, 116, 97, 116, 117, 115]
def wVer : List UInt8 := [72, 84, 84, 80, 47, 49, 46, 49, 32]
def statusS (n : Int) : List UInt8 := wVer ++ (Lib.itoa n ++ (32 :: reasonS n))
def partN (p : PartT) : NodeT := davN wStat [davN wProp p.props, davN wStatus [textN (statusS p.status)]]
def respN (t : ToldT) : NodeT := davN wResp (davN wHref [textN t.href] :: t.parts.map partN)
def multiN (l : List ToldT) : NodeT := davN wMulti (l.map respN)
def goodP (p : PartT) : Bool := !decide (reasonS p.status = []) && p.props.all goodT
def goodM (t : ToldT) : Bool := t.parts.all goodP && !decide (t.href = [])
def buildM (l : List ToldT) : Except Int (List UInt8) :=
  if l.all goodM then match writeX (multiN l) with
    | .ok s => .ok s
    | .error e => .error (if e = 30 then 1 else e)
  else .error 1
/-! read off a tree -/
def isM (n : NodeT) (w : List UInt8) : Option (List NodeT) := if n.space = wDav ∧ n.name = w ∧ n.attrs = [] then some n.kids else none
def textM (n : NodeT) (w : List UInt8) : Option (List UInt8) :=
  match isM n w with
  | some [k] => if k.name = [] then some k.text else none
  | _ => none
def stM (s : List UInt8) : Int := stS s
def wordM (s : List UInt8) : List UInt8 := match cutS [32] (if wVer.isPrefixOf s then s.drop 9 else s) with
  | some (a, _) => a
  | none => if wVer.isPrefixOf s then s.drop 9 else s
def partM (n : NodeT) : Option PartT :=
  match isM n wStat with
  | some [a, b] =>
    match isM a wProp with
    | none => none
    | some ps => if ps.all (fun x => !decide (x.name = [])) then
        match textM b wStatus with
        | none => none
        | some s => if reasonS (stM (wordM s)) ≠ [] ∧ s = statusS (stM (wordM s)) then some ⟨stM (wordM s), ps⟩ else none
      else none
  | _ => none
def allM {α β : Type} (f : α → Option β) : List α → Option (List β)
  | [] => some []
  | a :: l => match f a with
    | none => none
    | some b => match allM f l with
      | none => none
      | some r => some (b :: r)
def respM (n : NodeT) : Option ToldT :=
  match isM n wResp with
  | some (a :: r) =>
    match textM a wHref with
    | none => none
    | some h => match allM partM r with
      | none => none
      | some ps => some ⟨h, ps⟩
  | _ => none
def multiM (n : NodeT) : Option (List ToldT) :=
  match isM n wMulti with
  | none => none
  | some ks => allM respM ks
def readM (s : List UInt8) : Except Int (List ToldT) :=
  match parseX s with
  | .error e => .error e
  | .ok n => match multiM n with
    | none => .error 50
    | some l => .ok l
/-! back and forth -/
theorem isM_dav (w : List UInt8) (ks : List NodeT) : isM (davN w ks) w = some ks := by
  unfold isM
  rw [if_pos ⟨rfl, rfl, rfl⟩]
  rfl
theorem textM_dav (w t : List UInt8) : textM (davN w [textN t]) w = some t := by
  unfold textM
  rw [isM_dav]
  rfl
theorem dec_no32 (n : Nat) : (32 : UInt8) ∉ Lib.itoa (n : Int) := by
  rw [digS_itoa]
  intro h
  have := digS_c _ _ h
  exact absurd this.1 (by decide)
theorem codes_nat : ∀ n ∈ codes, ∃ k : Nat, n = k ∧ k < 1000 := by
  intro n hn
  simp only [codes, List.mem_cons, List.not_mem_nil, or_false] at hn
  exact ⟨n.toNat, by omega, by omega⟩
theorem word_back {n : Int} (h : reasonS n ≠ []) : wordM (statusS n) = Lib.itoa n ∧ stM (Lib.itoa n) = n := by
  obtain ⟨k, rfl, hk⟩ := codes_nat n (reason_codes h)
  have e1 : wVer.isPrefixOf (statusS (k : Int)) = true := rfl
  have e2 : (statusS (k : Int)).drop 9 = Lib.itoa (k : Int) ++ (32 :: reasonS (k : Int)) := rfl
  constructor
  · unfold wordM
    rw [e1, if_pos rfl, e2, cutB_at 32 _ _ (dec_no32 k)]
  · unfold stM stS
    rw [digS_itoa, atoi_dig k (by omega)]
theorem partM_back {p : PartT} (h : goodP p = true) : partM (partN p) = some p := by
  unfold goodP at h
  rw [Bool.and_eq_true] at h
  have hr : reasonS p.status ≠ [] := by simpa using h.1
  obtain ⟨e1, e2⟩ := word_back hr
  have hn : (p.props.all fun x => !decide (x.name = [])) = true := by
    rw [List.all_eq_true]
    intro x hx
    have := (goodT_parts (List.all_eq_true.1 h.2 x hx)).2.2
    simp [this]
  unfold partM partN
  rw [isM_dav]
  show (match isM (davN wProp p.props) wProp with
    | none => none
    | some ps => _) = _
  rw [isM_dav]
  show (if p.props.all _ = true then _ else _) = _
  rw [if_pos hn, textM_dav]
  show (if reasonS (stM (wordM (statusS p.status))) ≠ [] ∧ _ then _ else _) = _
  rw [e1, e2, if_pos ⟨hr, rfl⟩]
  rfl
theorem allM_back {α β : Type} {f : β → Option α} {g : α → β} : ∀ (l : List α), (∀ a ∈ l, f (g a) = some a) → allM f (l.map g) = some l
  | [], _ => rfl
  | a :: l, h => by
    rw [List.map_cons, allM, h a (List.mem_cons_self ..), allM_back l fun b hb => h b (List.mem_cons_of_mem _ hb)]
theorem respM_back {t : ToldT} (h : goodM t = true) : respM (respN t) = some t := by
  unfold goodM at h
  rw [Bool.and_eq_true] at h
  unfold respM respN
  rw [isM_dav]
  show (match textM (davN wHref [textN t.href]) wHref with
    | none => none
    | some h => _) = _
  rw [textM_dav]
  show (match allM partM (t.parts.map partN) with
    | none => none
    | some ps => _) = _
  rw [allM_back t.parts fun p hp => partM_back (List.all_eq_true.1 h.1 p hp)]
  rfl
theorem multiM_back {l : List ToldT} (h : l.all goodM = true) : multiM (multiN l) = some l := by
  unfold multiM multiN
  rw [isM_dav]
  exact allM_back l fun t ht => respM_back (List.all_eq_true.1 h t ht)
theorem build_ok {l : List ToldT} {s : List UInt8} (h : buildM l = .ok s) : l.all goodM = true ∧ writeX (multiN l) = .ok s := by
  unfold buildM at h
  split at h
  · rename_i hg
    split at h
    · rename_i s' hw
      injection h with h
      subst h
      exact ⟨hg, hw⟩
    · cases h
  · cases h
/-- what is built is read asz it was. -/
theorem build_read {l : List ToldT} {s : List UInt8} (h : buildM l = .ok s) : readM s = .ok l := by
  obtain ⟨h1, h2⟩ := build_ok h
  unfold readM
  rw [(xread_back h2).1]
  show (match multiM (multiN l) with
    | none => _
    | some l => _) = _
  rw [multiM_back h1]
theorem build_parts {a b : List ToldT} {s : List UInt8} (h : buildM (a ++ b) = .ok s) : a.all goodM = true ∧ b.all goodM = true := by
  have := (build_ok h).1
  rw [List.all_append, Bool.and_eq_true] at this
  exact this
theorem good_more : ∀ (n : NodeT) (d e : Nat), goodN d n = true → e ≤ d → goodN e n = true
  | .mk t s n ats ks, d, e, h, he => by
    by_cases hn : n = []
    · subst hn
      unfold goodN at h ⊢
      rw [if_pos rfl] at h ⊢
      exact h
    · unfold goodN at h ⊢
      rw [if_neg hn] at h ⊢
      simp only [Bool.and_eq_true, decide_eq_true_eq] at h ⊢
      obtain ⟨⟨⟨⟨⟨⟨⟨h1, h2⟩, h3⟩, h4⟩, h5⟩, h6⟩, h7⟩, h8⟩ := h
      exact ⟨⟨⟨⟨⟨⟨⟨by omega, h2⟩, h3⟩, h4⟩, h5⟩, h6⟩, h7⟩, good_moreL ks (d + 1) (e + 1) h8 (by omega)⟩
where good_moreL : ∀ (ks : List NodeT) (d e : Nat), goodL d ks = true → e ≤ d → goodL e ks = true
  | [], _, _, _, _ => by rw [goodL]
  | k :: r, d, e, h, he => by
    rw [goodL, Bool.and_eq_true] at h ⊢
    exact ⟨good_more k d e h.1 he, good_moreL r d e h.2 he⟩
theorem names_two : ∀ (ks : List NodeT), (∀ k ∈ ks, k.name ≠ []) → noTwo ks = true
  | [], _ => rfl
  | [_], _ => rfl
  | a :: b :: r, h => by
    have ha := h a (by simp)
    rw [noTwo, names_two (b :: r) fun k hk => h k (List.mem_cons_of_mem _ hk)]
    simp [ha]
theorem resp_name (l : List ToldT) : ∀ k ∈ l.map respN, k.name ≠ [] := by
  intro k hk
  obtain ⟨t, -, rfl⟩ := List.mem_map.1 hk
  show wResp ≠ []
  decide
theorem goodT_multi (l : List ToldT) : goodT (multiN l) = (goodL 1 (l.map respN) && decide (1 + countL (l.map respN) ≤ 4096)) := by
  unfold goodT multiN davN
  rw [goodN, if_neg (by decide), countN]
  have h2 := names_two _ (resp_name l)
  have h3 : (!decide (NodeT.name (.mk [] wDav wMulti [] (l.map respN)) = [])) = true := rfl
  have h4 : shortX wMulti = true := by decide +kernel
  have h5 : lettersX wDav = true := by decide +kernel
  rw [h2, h3, h4, h5]
  have h6 : decide (wDav.length ≤ 60) = true := rfl
  have h7 : attrsOk [] [] = true := rfl
  rw [h6, h7]
  simp
theorem goodL_app (d : Nat) : ∀ a b : List NodeT, goodL d (a ++ b) = (goodL d a && goodL d b)
  | [], b => by rw [List.nil_append, goodL, Bool.true_and]
  | k :: a, b => by rw [List.cons_append, goodL, goodL, goodL_app d a b, Bool.and_assoc]
theorem countL_app : ∀ a b : List NodeT, countL (a ++ b) = countL a + countL b
  | [], b => by rw [List.nil_append, countL, Nat.zero_add]
  | k :: a, b => by rw [List.cons_append, countL, countL, countL_app a b, Nat.add_assoc]
theorem form_multi (l : List ToldT) : (formN [] (multiN l)).length = (headF wDav wMulti [] []).length + (if l.isEmpty then 2 else 15 + (formL wDav (l.map respN)).length) := by
  unfold multiN davN
  rw [formN, if_neg (by decide), List.length_append]
  congr 1
  cases l with
  | nil => rfl
  | cons t l =>
    show (62 :: (formL wDav ((t :: l).map respN) ++ ([60, 47] ++ (wMulti ++ [62])))).length = 15 + _
    simp only [List.length_cons, List.length_append, List.length_nil]
    show _ + (2 + (11 + 1)) + 1 = _
    omega
theorem write_more {a b : List ToldT} {s : List UInt8} (h : writeX (multiN (a ++ b)) = .ok s) : (∃ s, writeX (multiN a) = .ok s) ∧ (∃ s, writeX (multiN b) = .ok s) := by
  obtain ⟨-, -, hg, -⟩ := xread_back h
  unfold writeX at h
  rw [if_pos hg] at h
  split at h
  · cases h
  rename_i hl
  rw [form_multi] at hl
  rw [goodT_multi, List.map_append, goodL_app, countL_app, Bool.and_eq_true, Bool.and_eq_true, decide_eq_true_eq] at hg
  rw [List.map_append, formL_app, List.length_append, show (a ++ b).isEmpty = (a.isEmpty && b.isEmpty) by cases a <;> rfl] at hl
  obtain ⟨⟨ga, gb⟩, hc⟩ := hg
  have key : ∀ c : List ToldT, goodL 1 (c.map respN) = true → 1 + countL (c.map respN) ≤ 4096 → (headF wDav wMulti [] []).length + (if c.isEmpty then 2 else 15 + (formL wDav (c.map respN)).length) ≤ 65536 → ∃ s, writeX (multiN c) = .ok s := by
    intro c h1 h2 h3
    rw [← form_multi] at h3
    unfold writeX
    rw [if_pos (by rw [goodT_multi, h1, decide_eq_true h2]; rfl), if_neg (by omega)]
    exact ⟨_, rfl⟩
  have hh : (headF wDav wMulti [] []).length ≤ 100 := by decide
  refine ⟨key a ga (by omega) ?_, key b gb (by omega) ?_⟩
  · cases ha : a.isEmpty
    · rw [ha] at hl
      simp only [Bool.false_and, if_false, Bool.false_eq_true] at hl ⊢
      omega
    · simp only [if_true]; omega
  · cases hb : b.isEmpty
    · rw [hb] at hl
      simp only [Bool.and_false, if_false, Bool.false_eq_true] at hl ⊢
      omega
    · simp only [if_true]; omega
/-- where one of two lists isn't built, both together aren't. -/
theorem build_more {a b : List ToldT} {s : List UInt8} (h : buildM (a ++ b) = .ok s) : (∃ s, buildM a = .ok s) ∧ (∃ s, buildM b = .ok s) := by
  obtain ⟨h1, h2⟩ := build_parts h
  obtain ⟨⟨s1, h3⟩, ⟨s2, h4⟩⟩ := write_more (build_ok h).2
  unfold buildM
  rw [if_pos h1, if_pos h2, h3, h4]
  exact ⟨⟨_, rfl⟩, ⟨_, rfl⟩⟩
/-! what is read off a good tree -/
theorem isM_some {n : NodeT} {w : List UInt8} {ks : List NodeT} {d : Nat} (hw : w ≠ []) (hg : goodN d n = true) (h : isM n w = some ks) : n = davN w ks ∧ goodL (d + 1) ks = true := by
  obtain ⟨t, s, m, ats, k⟩ := n
  unfold isM at h
  split at h
  · rename_i hc
    obtain ⟨h1, h2, h3⟩ := hc
    injection h with h
    change s = wDav at h1
    change m = w at h2
    change ats = [] at h3
    change k = ks at h
    subst h1 h2 h3 h
    unfold goodN at hg
    rw [if_neg hw] at hg
    simp only [Bool.and_eq_true, decide_eq_true_eq] at hg
    obtain ⟨⟨⟨⟨⟨⟨⟨h1, h2⟩, h3⟩, h4⟩, h5⟩, h6⟩, h7⟩, h8⟩ := hg
    subst h2
    exact ⟨rfl, h8⟩
  · cases h
theorem text_only {k : NodeT} {d : Nat} (hg : goodN d k = true) (h : k.name = []) : k = textN k.text ∧ lettersX k.text = true ∧ k.text ≠ [] := by
  obtain ⟨t, s, m, ats, ks⟩ := k
  change m = [] at h
  subst h
  unfold goodN at hg
  rw [if_pos rfl] at hg
  simp only [Bool.and_eq_true, decide_eq_true_eq, Bool.not_eq_true', decide_eq_false_iff_not, List.isEmpty_iff] at hg
  obtain ⟨⟨⟨⟨h1, h2⟩, h3⟩, h4⟩, h5⟩ := hg
  subst h3 h4 h5
  exact ⟨rfl, h2, h1⟩
theorem textM_some {n : NodeT} {w t : List UInt8} {d : Nat} (hw : w ≠ []) (hg : goodN d n = true) (h : textM n w = some t) : n = davN w [textN t] ∧ lettersX t = true ∧ t ≠ [] := by
  unfold textM at h
  split at h
  · rename_i k hk
    obtain ⟨e, hL⟩ := isM_some hw hg hk
    rw [goodL, Bool.and_eq_true] at hL
    split at h
    · rename_i hn
      injection h with h
      subst h
      obtain ⟨h1, h2, h3⟩ := text_only hL.1 hn
      refine ⟨?_, h2, h3⟩
      rw [e, ← h1]
    · cases h
  · cases h
theorem partM_some {n : NodeT} {p : PartT} {d : Nat} (hg : goodN d n = true) (hc : countN n ≤ 4096) (h : partM n = some p) : n = partN p ∧ goodP p = true := by
  unfold partM at h
  split at h
  · rename_i a b hk
    obtain ⟨e, hL⟩ := isM_some (by decide) hg hk
    rw [goodL, goodL, Bool.and_eq_true, Bool.and_eq_true] at hL
    split at h
    · cases h
    · rename_i ps hps
      obtain ⟨e1, hL1⟩ := isM_some (by decide) hL.1 hps
      split at h
      · rename_i hn
        split at h
        · cases h
        · rename_i s hs
          obtain ⟨e2, -, -⟩ := textM_some (by decide) hL.2.1 hs
          split at h
          · rename_i hr
            injection h with h
            subst h
            refine ⟨?_, ?_⟩
            · rw [e, e1, e2]
              unfold partN
              rw [← hr.2]
            · unfold goodP
              rw [Bool.and_eq_true]
              refine ⟨by simpa using hr.1, ?_⟩
              rw [List.all_eq_true]
              intro x hx
              have hxg : goodN (d + 1 + 1) x = true := by
                have : ∀ (l : List NodeT) (d : Nat), goodL d l = true → ∀ x ∈ l, goodN d x = true := by
                  intro l
                  induction l with
                  | nil => intro d _ x hx; cases hx
                  | cons k l ih =>
                    intro d h x hx
                    rw [goodL, Bool.and_eq_true] at h
                    rcases List.mem_cons.1 hx with rfl | hx
                    · exact h.1
                    · exact ih d h.2 x hx
                exact this _ _ hL1 x hx
              have hxc : countN x ≤ countL ps := by
                have : ∀ (l : List NodeT), ∀ x ∈ l, countN x ≤ countL l := by
                  intro l
                  induction l with
                  | nil => intro x hx; cases hx
                  | cons k l ih =>
                    intro x hx
                    rw [countL]
                    rcases List.mem_cons.1 hx with rfl | hx
                    · omega
                    · have := ih x hx; omega
                exact this _ x hx
              have hcn : countL ps ≤ 4096 := by
                rw [e, e1] at hc
                unfold davN at hc
                rw [countN, countL, countN] at hc
                omega
              unfold goodT
              rw [good_more x _ 0 hxg (Nat.zero_le _), decide_eq_true (show countN x ≤ 4096 by omega)]
              have := List.all_eq_true.1 hn x hx
              rw [this]
              rfl
          · cases h
      · cases h
  · cases h
theorem allM_some {α β : Type} {f : α → Option β} {g : β → α} {Q : α → Prop} {R : β → Prop} (hf : ∀ a b, Q a → f a = some b → a = g b ∧ R b) : ∀ (l : List α) (r : List β), (∀ a ∈ l, Q a) → allM f l = some r → l = r.map g ∧ ∀ b ∈ r, R b
  | [], r, _, h => by
    injection h with h
    subst h
    exact ⟨rfl, fun b hb => by cases hb⟩
  | a :: l, r, hq, h => by
    unfold allM at h
    split at h
    · cases h
    · rename_i b hb
      split at h
      · cases h
      · rename_i q hq2
        injection h with h
        subst h
        obtain ⟨h1, h2⟩ := hf a b (hq a (List.mem_cons_self ..)) hb
        obtain ⟨h3, h4⟩ := allM_some hf l q (fun a ha => hq a (List.mem_cons_of_mem _ ha)) hq2
        refine ⟨by rw [h3, h1]; rfl, fun c hc => ?_⟩
        rcases List.mem_cons.1 hc with rfl | hc
        · exact h2
        · exact h4 c hc
theorem goodL_mem : ∀ (l : List NodeT) (d : Nat), goodL d l = true → ∀ x ∈ l, goodN d x = true
  | [], _, _, x, hx => by cases hx
  | k :: l, d, h, x, hx => by
    rw [goodL, Bool.and_eq_true] at h
    rcases List.mem_cons.1 hx with rfl | hx
    · exact h.1
    · exact goodL_mem l d h.2 x hx
theorem countL_mem : ∀ (l : List NodeT), ∀ x ∈ l, countN x ≤ countL l
  | [], x, hx => by cases hx
  | k :: l, x, hx => by
    rw [countL]
    rcases List.mem_cons.1 hx with rfl | hx
    · omega
    · have := countL_mem l x hx; omega
/-- the reference's own word on what is told of a resource. -/
def goodRefM (t : ToldT) : Bool := t.parts.all goodP && !decide (t.href = []) && lettersX t.href
theorem respM_some {n : NodeT} {t : ToldT} {d : Nat} (hg : goodN d n = true) (hc : countN n ≤ 4096) (h : respM n = some t) : n = respN t ∧ goodRefM t = true := by
  unfold respM at h
  split at h
  · rename_i a r hk
    obtain ⟨e, hL⟩ := isM_some (by decide) hg hk
    rw [goodL, Bool.and_eq_true] at hL
    split at h
    · cases h
    · rename_i hr hh
      obtain ⟨e1, h1, h2⟩ := textM_some (by decide) hL.1 hh
      split at h
      · cases h
      · rename_i ps hps
        injection h with h
        subst h
        have hcn : countL r ≤ 4096 := by
          rw [e] at hc
          unfold davN at hc
          rw [countN, countL] at hc
          omega
        obtain ⟨e2, h3⟩ := allM_some (Q := fun n => goodN (d + 1) n = true ∧ countN n ≤ 4096) (g := partN) (R := fun p => goodP p = true) (fun a b hq hf => partM_some hq.1 hq.2 hf) r ps (fun x hx => ⟨goodL_mem _ _ hL.2 x hx, by have := countL_mem r x hx; omega⟩) hps
        refine ⟨by rw [e, e1, e2]; rfl, ?_⟩
        unfold goodRefM
        rw [h1, Bool.and_eq_true, Bool.and_eq_true]
        exact ⟨⟨List.all_eq_true.2 h3, by simpa using h2⟩, rfl⟩
  · cases h
/-- what is read off a text is good, and its tree is the text's. -/
theorem read_good {s : List UInt8} {l : List ToldT} {n : NodeT} (hn : parseX s = .ok n) (hg : goodT n = true) (h : readM s = .ok l) : n = multiN l ∧ ∀ t ∈ l, goodRefM t = true := by
  unfold readM at h
  rw [hn] at h
  replace h : (match multiM n with
    | none => .error 50
    | some l => .ok l : Except Int (List ToldT)) = .ok l := h
  split at h
  · cases h
  · rename_i l' hm
    injection h with h
    subst h
    obtain ⟨g1, g2, -⟩ := goodT_parts hg
    unfold multiM at hm
    split at hm
    · cases hm
    · rename_i ks hk
      obtain ⟨e, hL⟩ := isM_some (by decide) g1 hk
      have hcn : countL ks ≤ 4096 := by
        rw [e] at g2
        unfold davN at g2
        rw [countN] at g2
        omega
      obtain ⟨e2, h3⟩ := allM_some (Q := fun n => goodN (0 + 1) n = true ∧ countN n ≤ 4096) (g := respN) (R := fun t => goodRefM t = true) (fun a b hq hf => respM_some hq.1 hq.2 hf) ks l' (fun x hx => ⟨goodL_mem _ _ hL x hx, by have := countL_mem ks x hx; omega⟩) hm
      exact ⟨by rw [e, e2]; rfl, h3⟩
end Go.Proofs.YtcamdnfhnianbaaGreatDoor
/-! MulMem -/
namespace Go.Proofs.YtcamdnfhnianbaaGreatDoor
set_option linter.unusedVariables false
set_option linter.unusedSimpArgs false
open Go.RowKit

def PartR (P : Nat → Prop) (w : World) (cs : List Value) (p : PartT) : Prop := ∃ pv, cs = [.int .i64 p.status, pv] ∧ NodesP P w pv p.props
def ToldR (P : Nat → Prop) (w : World) (cs : List Value) (t : ToldT) : Prop := ∃ pv, cs = [.string ⟨t.href.toArray⟩, pv] ∧ TabP 2 (PartR P) P w pv t.parts
theorem mov_part : Mov PartR := fun P Q w w' cs x ⟨pv, h1, h2⟩ m => ⟨pv, h1, h2.move m⟩
theorem mov_told : Mov ToldR := fun P Q w w' cs x ⟨pv, h1, h2⟩ m => ⟨pv, h1, h2.move m fun cs p _ h => mov_part _ _ _ _ _ _ h m⟩
theorem elemPt : ElemN Tryz.prog 40 47 2 (.agg #[.int .i64 0, .slice none 0 0]) 32 := ⟨Tryz.underlying40, by kernel_rfl, rfl, by omega, by omega⟩
theorem elemTd : ElemN Tryz.prog 22 42 2 (.agg #[.string ⟨#[]⟩, .slice none 0 0]) 40 := ⟨Tryz.underlying22, by kernel_rfl, rfl, by omega, by omega⟩
def PartsP (P : Nat → Prop) (w : World) (v : Value) (l : List PartT) : Prop := TabP 2 (PartR P) P w v l
def ToldsP (P : Nat → Prop) (w : World) (v : Value) (l : List ToldT) : Prop := TabP 2 (ToldR P) P w v l
theorem PartsP.move {P Q : Nat → Prop} {w w' : World} {v : Value} {l : List PartT} (h : PartsP P w v l) (m : Moves P Q w w') : PartsP Q w' v l := TabP.move h m fun cs p _ h => mov_part _ _ _ _ _ _ h m
theorem ToldsP.move {P Q : Nat → Prop} {w w' : World} {v : Value} {l : List ToldT} (h : ToldsP P w v l) (m : Moves P Q w w') : ToldsP Q w' v l := TabP.move h m fun cs p _ h => mov_told _ _ _ _ _ _ h m
theorem PartsP.under {w w' : World} {v : Value} {l : List PartT} (h : PartsP anyB w v l) (hb : Below w.heap.size w w') : PartsP anyB w' v l := h.move (Moves.below hb fun _ _ _ => trivial)
theorem ToldsP.under {w w' : World} {v : Value} {l : List ToldT} (h : ToldsP anyB w v l) (hb : Below w.heap.size w w') : ToldsP anyB w' v l := h.move (Moves.below hb fun _ _ _ => trivial)
theorem told_at {P : Nat → Prop} {w : World} {A : Option Addr} {n cap : Nat} {l : List ToldT} (h : Tab 2 (ToldR P) w (.slice A n cap) l) : n = l.length ∧ n ≤ cap ∧ cap ≤ maxLen ∧ ∀ j t, l[j]? = some t → ∃ b o pA pc, A = some ⟨b, o, none⟩ ∧ b < w.heap.size ∧
    w.cell? ⟨b, o + j * 2, none⟩ = some (.string ⟨t.href.toArray⟩) ∧ w.cell? ⟨b, o + j * 2 + 1, none⟩ = some (.slice pA t.parts.length pc) ∧ PartsP P w (.slice pA t.parts.length pc) t.parts := by
  obtain ⟨A', cap', hv, h1, h2, hc⟩ := h
  injection hv with e1 e2 e3
  subst e1 e2 e3
  refine ⟨rfl, h1, h2, fun j x hj => ?_⟩
  obtain ⟨b, o, hA, hb, cs, hl, hcell, pv, rfl, hp⟩ := hc j x hj
  obtain ⟨pA, pc, rfl⟩ := tab_shape hp.1
  exact ⟨b, o, pA, pc, hA, hb, hcell 0 _ rfl, hcell 1 _ rfl, hp⟩
theorem part_at {P : Nat → Prop} {w : World} {A : Option Addr} {n cap : Nat} {l : List PartT} (h : Tab 2 (PartR P) w (.slice A n cap) l) : n = l.length ∧ n ≤ cap ∧ cap ≤ maxLen ∧ ∀ j p, l[j]? = some p → ∃ b o pA pc, A = some ⟨b, o, none⟩ ∧ b < w.heap.size ∧
    w.cell? ⟨b, o + j * 2, none⟩ = some (.int .i64 p.status) ∧ w.cell? ⟨b, o + j * 2 + 1, none⟩ = some (.slice pA p.props.length pc) ∧ NodesP P w (.slice pA p.props.length pc) p.props := by
  obtain ⟨A', cap', hv, h1, h2, hc⟩ := h
  injection hv with e1 e2 e3
  subst e1 e2 e3
  refine ⟨rfl, h1, h2, fun j x hj => ?_⟩
  obtain ⟨b, o, hA, hb, cs, hl, hcell, pv, rfl, hp⟩ := hc j x hj
  obtain ⟨pA, pc, rfl⟩ := tab_shape hp.1
  exact ⟨b, o, pA, pc, hA, hb, hcell 0 _ rfl, hcell 1 _ rfl, hp⟩
/-- a node that a call has made: its row of kids. -/
theorem dav_node {P : Nat → Prop} {w : World} {nm : List UInt8} {kA : Option Addr} {m kc : Nat} {ks : List NodeT} (h : NodesP P w (.slice kA m kc) ks) : NodeP P w [.string ⟨#[]⟩, .string ⟨#[68, 65, 86, 58]⟩, .string ⟨nm.toArray⟩, .slice none 0 0, .slice kA m kc] (davN nm ks) :=
  NodeP.of (t := []) (s := wDav) (n := nm) (ats := []) (TabP.nil _ _ _ _) h
/-- a row that is made of nodes by value, in a block of its own. -/
theorem nodes_lit {P : Nat → Prop} {w : World} {b : Nat} {rows : List (List Value)} {xs : List NodeT} (h : w.heap[b]? = some (.cells rows.flatten.toArray 36 (0, 0))) (hx : rows.length = xs.length) (hm : xs.length ≤ maxLen)
    (hr : ∀ (j : Nat) (r : List Value) (x : NodeT), rows[j]? = some r → xs[j]? = some x → NodeP P w r x) (hP : P b) : NodesP P w (.slice (some ⟨b, 0, none⟩) xs.length xs.length) xs := by
  refine many_row h (fun r hr' => ?_) hx hm hr hP
  obtain ⟨j, hj, rfl⟩ := List.mem_iff_getElem.1 hr'
  obtain ⟨av, kv, e, -⟩ := (hr j _ _ (List.getElem?_eq_getElem hj) (List.getElem?_eq_getElem (by rw [← hx]; exact hj))).parts
  rw [e]
  rfl
theorem nodes_lit1 {P : Nat → Prop} {w : World} {b : Nat} {r : List Value} {x : NodeT} (h : w.heap[b]? = some (.cells r.toArray 36 (0, 0))) (hr : NodeP P w r x) (hP : P b) : NodesP P w (.slice (some ⟨b, 0, none⟩) 1 1) [x] :=
  nodes_lit (rows := [r]) (xs := [x]) (by rw [List.flatten_cons, List.flatten_nil, List.append_nil]; exact h) rfl (show 1 ≤ maxLen by unfold maxLen; decide) (fun j r' y h1 h2 => by
    match j, h1, h2 with
    | 0, h1, h2 => injection h1 with h1; injection h2 with h2; subst h1 h2; exact hr
    | j + 1, h1, h2 => simp at h1) hP
theorem nodes_lit2 {P : Nat → Prop} {w : World} {b : Nat} {r s : List Value} {x y : NodeT} (h : w.heap[b]? = some (.cells (r ++ s).toArray 36 (0, 0))) (hr : NodeP P w r x) (hs : NodeP P w s y) (hP : P b) : NodesP P w (.slice (some ⟨b, 0, none⟩) 2 2) [x, y] :=
  nodes_lit (rows := [r, s]) (xs := [x, y]) (by rw [List.flatten_cons, List.flatten_cons, List.flatten_nil, List.append_nil]; exact h) rfl (show 2 ≤ maxLen by unfold maxLen; decide) (fun j r' z h1 h2 => by
    match j, h1, h2 with
    | 0, h1, h2 => injection h1 with h1; injection h2 with h2; subst h1 h2; exact hr
    | 1, h1, h2 => injection h1 with h1; injection h2 with h2; subst h1 h2; exact hs
    | j + 2, h1, h2 => simp at h1) hP
/-- what a loop keeps that grows the kids of a node in block q. -/
structure GrS (nm : List UInt8) (w2 : World) (q : Nat) (ks : List NodeT) (wr : World) (kv : Value) : Prop where
  at_ : wr.heap[q]? = some (.cells #[.string ⟨#[]⟩, .string ⟨#[68, 65, 86, 58]⟩, .string ⟨nm.toArray⟩, .slice none 0 0, kv] 36 (0, 0))
  kids : RowG 36 5 NodeP (· ≠ q) w2.heap.size wr kv ks
  fr : Below q w2 wr
  sz : w2.heap.size ≤ wr.heap.size
  lt : q < w2.heap.size
theorem GrS.under {nm : List UInt8} {w2 wr w' : World} {q : Nat} {ks : List NodeT} {kv : Value} (h : GrS nm w2 q ks wr kv) (hb : Below wr.heap.size wr w') : GrS nm w2 q ks w' kv :=
  ⟨(hb.block _ (xlt h.at_)).trans h.at_, h.kids.under mov_node hb, h.fr.trans (hb.mono (by have := xlt h.at_; omega)), Nat.le_trans h.sz hb.size, h.lt⟩
theorem GrS.app {nm : List UInt8} {w2 wr w9 : World} {q : Nat} {ks ks' : List NodeT} {kv v9 : Value} (HS : GrS nm w2 q ks wr kv) (hr : RowG 36 5 NodeP (· ≠ q) w2.heap.size w9 v9 ks') (hb : Below w2.heap.size wr w9) (hg : wr.grownBy w9 kv.ownBlock) : GrS nm w2 q ks' (w9.setCell ⟨q, 4, none⟩ v9) v9 := by
  have hlt := HS.lt
  have hq : w9.heap[q]? = some (.cells #[.string ⟨#[]⟩, .string ⟨#[68, 65, 86, 58]⟩, .string ⟨nm.toArray⟩, .slice none 0 0, kv] 36 (0, 0)) := (hg.block q (xlt HS.at_) (fun e => by have := (HS.kids.lt _ e.symm).1; omega)).trans HS.at_
  refine ⟨heap_setCell_same w9 q 4 _ _ _ hq, hr.step mov_node (xgrown_cell w9 q 4 _) (fun h => h rfl) (fun e => by have := (hr.lt _ e).1; omega), (HS.fr.trans (hb.mono (by omega))).setCell (p := ⟨q, 4, none⟩) (Nat.le_refl _) _, ?_, hlt⟩
  have := HS.sz; have h2 := hb.size; rw [World.size_setCell]; omega
theorem GrS.start {nm : List UInt8} {w2 : World} {q : Nat} (h : w2.heap[q]? = some (.cells #[.string ⟨#[]⟩, .string ⟨#[68, 65, 86, 58]⟩, .string ⟨nm.toArray⟩, .slice none 0 0, .slice none 0 0] 36 (0, 0))) : GrS nm w2 q [] w2 (.slice none 0 0) :=
  ⟨h, RowG.nil _ _ _ _ _ _, Below.refl _ _, Nat.le_refl _, xlt h⟩
end Go.Proofs.YtcamdnfhnianbaaGreatDoor
/-! RepA -/
namespace Go.Proofs.YtcamdnfhnianbaaGreatDoor
open Go.RowKit

set_option maxHeartbeats 2000000 in
set_option maxRecDepth 100000 in
set_option linter.unusedSimpArgs false in
theorem reason_any (n : Int) (w : World) : Calls Tryz.prog 43 #[.int .i64 n] w (Same0 (.string ⟨(reasonS n).toArray⟩) w) := by
  by_cases h : n ∈ codes
  · simp only [codes, List.mem_cons, List.not_mem_nil, or_false] at h
    rcases h with rfl | rfl | rfl | rfl | rfl | rfl | rfl | rfl | rfl | rfl | rfl | rfl | rfl | rfl | rfl | rfl | rfl | rfl | rfl | rfl | rfl
    all_goals
      go_enter Tryz.func43, Tryz.ntmps43
      go_wp2
      go_ret
      exact ⟨rfl, rfl⟩
  · have hr : reasonS n = [] := Decidable.byContradiction fun hn => h (reason_codes hn)
    rw [hr]
    simp only [codes, List.mem_cons, List.not_mem_nil, or_false, not_or] at h
    obtain ⟨h1, h2, h3, h4, h5, h6, h7, h8, h9, h10, h11, h12, h13, h14, h15, h16, h17, h18, h19, h20, h21⟩ := h
    go_enter Tryz.func43, Tryz.ntmps43
    go_wp2
    go_ret
    exact ⟨rfl, rfl⟩
set_option maxHeartbeats 2000000 in
set_option maxRecDepth 100000 in
set_option linter.unusedSimpArgs false in
theorem rreason_any (n : Int) (w : World) : Calls Tryz.prog 37 #[.int .i64 n] w (Same0 (.string ⟨(reasonS n).toArray⟩) w) := by
  by_cases h : n ∈ codes
  · simp only [codes, List.mem_cons, List.not_mem_nil, or_false] at h
    rcases h with rfl | rfl | rfl | rfl | rfl | rfl | rfl | rfl | rfl | rfl | rfl | rfl | rfl | rfl | rfl | rfl | rfl | rfl | rfl | rfl | rfl
    all_goals
      go_enter Tryz.func37, Tryz.ntmps37
      go_wp2
      go_ret
      exact ⟨rfl, rfl⟩
  · have hr : reasonS n = [] := Decidable.byContradiction fun hn => h (reason_codes hn)
    rw [hr]
    simp only [codes, List.mem_cons, List.not_mem_nil, or_false, not_or] at h
    obtain ⟨h1, h2, h3, h4, h5, h6, h7, h8, h9, h10, h11, h12, h13, h14, h15, h16, h17, h18, h19, h20, h21⟩ := h
    go_enter Tryz.func37, Tryz.ntmps37
    go_wp2
    go_ret
    exact ⟨rfl, rfl⟩
end Go.Proofs.YtcamdnfhnianbaaGreatDoor
/-! MulA -/
namespace Go.Proofs.YtcamdnfhnianbaaGreatDoor
set_option linter.unusedVariables false
set_option linter.unusedSimpArgs false
open Go.RowKit

/-- what the listed variables hold: the table of powers too. -/
structure MEnv (w : World) : Prop where
  x : XEnv w
  pow : Lib.TabIs Tryz.prog w "internal/strconv.uint64pow10" .u64 Lib.pow10Tab
theorem MEnv.below {w w' : World} (h : MEnv w) (hb : Below w.heap.size w w') : MEnv w' := ⟨h.x.below hb, (Lib.tabBelow_of_tabIs h.pow) w' hb⟩
theorem mitoa_any (n : Int) (w : World) (h0 : -9223372036854775808 ≤ n) (h1 : n ≤ 9223372036854775807) (hE : MEnv w) :
    Calls Tryz.prog 71 #[.int .i64 n] w (Ret (.string ⟨(Lib.itoa n).toArray⟩) w) := by
  refine (Tryz.strconv_Itoa n h0 h1 w hE.pow).mono ?_
  rintro e w' ⟨rfl, k, os, rfl⟩
  refine ⟨rfl, rfl, rfl, rfl, ?_, fun j hj => ?_⟩
  · show w.heap.size ≤ (w.heap ++ os).size
    simp
  · show (w.heap ++ os)[j]? = w.heap[j]?
    rw [Array.getElem?_append_left hj]
set_option maxHeartbeats 2000000 in
set_option maxRecDepth 100000 in
set_option linter.unusedSimpArgs false in
theorem mdav_ex (nm : List UInt8) (kA : Option Addr) (m kc : Nat) (w : World) : Calls Tryz.prog 18 #[.string ⟨nm.toArray⟩, .slice kA m kc] w (fun e w' => e = .returned (.agg #[.string ⟨#[]⟩, .string ⟨#[68, 65, 86, 58]⟩, .string ⟨nm.toArray⟩, .slice none 0 0, .slice kA m kc]) ∧ w' = w.alloc (.cells #[.string ⟨#[]⟩, .string ⟨#[68, 65, 86, 58]⟩, .string ⟨nm.toArray⟩, .slice none 0 0, .slice kA m kc] 36 (0, 0))) := by
  have HR0 := Lib.hid (heap_alloc_new w (.cells #[.string ⟨#[]⟩, .string ⟨#[68, 65, 86, 58]⟩, .string ⟨nm.toArray⟩, .slice none 0 0, .slice kA m kc] 36 (0, 0)))
  go_enter Tryz.func18, Tryz.ntmps18
  go_wp2
  refine bodyPost_ret (results_c1 rfl _ _ _ _ _ _ rfl HR0.out Tryz.underlying36 rfl (by kernel_rfl)) rfl ?_
  exact ⟨rfl, rfl⟩
set_option maxHeartbeats 2000000 in
set_option maxRecDepth 100000 in
set_option linter.unusedSimpArgs false in
theorem mD_ex (nm : List UInt8) (kA : Option Addr) (m kc : Nat) (w : World) : Calls Tryz.prog 41 #[.string ⟨nm.toArray⟩, .slice kA m kc] w (fun e w' => e = .returned (.agg #[.string ⟨#[]⟩, .string ⟨#[68, 65, 86, 58]⟩, .string ⟨nm.toArray⟩, .slice none 0 0, .slice kA m kc]) ∧ w' = w.alloc (.cells #[.string ⟨#[]⟩, .string ⟨#[68, 65, 86, 58]⟩, .string ⟨nm.toArray⟩, .slice none 0 0, .slice kA m kc] 36 (0, 0))) := by
  have HR0 := Lib.hid (heap_alloc_new w (.cells #[.string ⟨#[]⟩, .string ⟨#[68, 65, 86, 58]⟩, .string ⟨nm.toArray⟩, .slice none 0 0, .slice kA m kc] 36 (0, 0)))
  go_enter Tryz.func41, Tryz.ntmps41
  go_wp2
  refine bodyPost_ret (results_c1 rfl _ _ _ _ _ _ rfl HR0.out Tryz.underlying36 rfl (by kernel_rfl)) rfl ?_
  exact ⟨rfl, rfl⟩
theorem codes_small : ∀ n ∈ codes, (Lib.itoa n).length ≤ 3 ∧ (reasonS n).length ≤ 31 ∧ -9223372036854775808 ≤ n ∧ n ≤ 9223372036854775807 := by decide +kernel
set_option maxHeartbeats 2000000 in
set_option maxRecDepth 100000 in
set_option linter.unusedSimpArgs false in
theorem mstatus_any (n : Int) (w : World) (h : reasonS n ≠ []) (hE : MEnv w) : Calls Tryz.prog 44 #[.int .i64 n] w (Ret (.string ⟨(statusS n).toArray⟩) w) := by
  obtain ⟨h1, h2, h3, h4⟩ := codes_small n (reason_codes h)
  have HI := Lib.hid (mitoa_any n w h3 h4 hE)
  have HR := Lib.hid (fun w => reason_any n w)
  have HS := Lib.hid (show statusS n = wVer ++ (Lib.itoa n ++ (32 :: reasonS n)) from rfl)
  generalize statusS n = ANS at *
  generalize reasonS n = R at *
  generalize Lib.itoa n = D at *
  clear h hE h3 h4
  obtain ⟨E, hEE⟩ : ∃ E, E = Ret (.string ⟨ANS.toArray⟩) w := ⟨_, rfl⟩
  rw [← hEE]
  have HEE := Lib.hid hEE
  clear hEE
  go_enter Tryz.func44, Tryz.ntmps44
  go_wp2_with fail
  refine HI.out.mono ?_
  rintro e w1 ⟨rfl, hb1⟩
  have HB1 := Lib.hid hb1
  clear hb1
  go_wp2_with fail
  refine (HR.out _).mono ?_
  rintro e w2 ⟨rfl, rfl⟩
  go_wp2
  rw [HEE.out, HS.out]
  exact ⟨rfl, HB1.out⟩
end Go.Proofs.YtcamdnfhnianbaaGreatDoor
/-! MulE -/
namespace Go.Proofs.YtcamdnfhnianbaaGreatDoor
set_option linter.unusedVariables false
set_option linter.unusedSimpArgs false
open Go.RowKit

/-- what a panic of multi's reading bears. -/
def brokenM : List PanicEntry := [{ v := .iface 54 (.agg #[]), recovered := false }]
/-- a call that may give up. -/
def PanV {α : Type} (x : Option α) (f : World → Value → α → Prop) (w : World) (e : Ending) (w' : World) : Prop := Below w.heap.size w w' ∧ match x with
  | none => e = .panicked brokenM
  | some a => ∃ v, e = .returned v ∧ f w' v a
theorem PanV.no {α : Type} {x : Option α} {f : World → Value → α → Prop} {w w' : World} (h : x = none) (hb : Below w.heap.size w w') : PanV x f w (.panicked brokenM) w' := by
  subst h
  exact ⟨hb, rfl⟩
theorem PanV.yes {α : Type} {x : Option α} {f : World → Value → α → Prop} {w w' : World} {a : α} {v : Value} (h : x = some a) (hb : Below w.heap.size w w') (hf : f w' v a) : PanV x f w (.returned v) w' := by
  subst h
  exact ⟨hb, v, rfl, hf⟩
set_option maxHeartbeats 400000 in
set_option maxRecDepth 100000 in
set_option linter.unusedSimpArgs false in
theorem mneed_t (w : World) : Calls Tryz.prog 25 #[.bool true] w (Same0 (.tuple #[]) w) := by
  go_enter Tryz.func25, Tryz.ntmps25
  go_wp2
  go_end0
  exact ⟨rfl, rfl⟩
set_option maxHeartbeats 400000 in
set_option maxRecDepth 100000 in
set_option linter.unusedSimpArgs false in
theorem mneed_f (w : World) : Calls Tryz.prog 25 #[.bool false] w (fun e w' => e = .panicked brokenM ∧ w = w') := by
  go_enter Tryz.func25, Tryz.ntmps25
  go_wp2
  exact ⟨rfl, rfl, rfl⟩
def kidsV (A : Option Addr) (c : Nat) (_ : World) (v : Value) (ks : List NodeT) : Prop := v = .slice A ks.length c
set_option maxHeartbeats 4000000 in
set_option maxRecDepth 100000 in
set_option linter.unusedSimpArgs false in
theorem mis_any (n : NodeT) (nm : List UInt8) (aA kA : Option Addr) (ac kc : Nat) (w : World) : Calls Tryz.prog 24 #[.agg #[.string ⟨n.text.toArray⟩, .string ⟨n.space.toArray⟩, .string ⟨n.name.toArray⟩, .slice aA n.attrs.length ac, .slice kA n.kids.length kc], .string ⟨nm.toArray⟩] w (PanV (isM n nm) (kidsV kA kc) w) := by
  have hb0 : Below w.heap.size w (w.alloc (.cells #[.string ⟨n.text.toArray⟩, .string ⟨n.space.toArray⟩, .string ⟨n.name.toArray⟩, .slice aA n.attrs.length ac, .slice kA n.kids.length kc] 36 (0, 0))) := (Below.refl _ _).alloc (Nat.le_refl _) _
  have HB0 := Lib.hid hb0
  obtain ⟨E, hEE⟩ : ∃ E, E = PanV (isM n nm) (kidsV kA kc) w := ⟨_, rfl⟩
  rw [← hEE]
  have HEE := Lib.hid hEE
  have HNf := Lib.hid mneed_f
  have HNt := Lib.hid mneed_t
  clear hEE hb0
  obtain ⟨t, s, m, ats, ks⟩ := n
  simp only [NodeT.text, NodeT.space, NodeT.name, NodeT.attrs, NodeT.kids] at HB0 ⊢
  have hI : isM (.mk t s m ats ks) nm = if s = wDav ∧ m = nm ∧ ats = [] then some ks else none := rfl
  by_cases h1 : s = wDav
  · have b1 : (s == [68, 65, 86, 58]) = true := beq_iff_eq.2 h1
    by_cases h2 : m = nm
    · have b2 : (m == nm) = true := beq_iff_eq.2 h2
      by_cases h3 : ats = []
      · rw [if_pos ⟨h1, h2, h3⟩] at hI
        have HI := Lib.hid hI
        subst h3
        clear h1 h2 hI
        go_enter Tryz.func24, Tryz.ntmps24
        go_wp2_with (go_at_call 25; refine (HNt.out _).mono ?_; rintro e w5 ⟨rfl, rfl⟩)
        rw [HEE.out]
        exact PanV.yes HI.out HB0.out rfl
      · rw [if_neg (fun h => h3 h.2.2)] at hI
        have HI := Lib.hid hI
        have b3 : ¬ (ats.length : Int) = 0 := by have := List.length_pos_iff.2 h3; omega
        have b4 : ((ats.length : Int) == 0) = false := beq_eq_false_iff_ne.2 b3
        have b5 : decide ((ats.length : Int) = 0) = false := decide_eq_false b3
        have b6 : ats.isEmpty = false := by cases ats with | nil => exact absurd rfl h3 | cons => rfl
        clear h1 h2 h3 hI
        go_enter Tryz.func24, Tryz.ntmps24
        go_wp2_with (go_at_call 25; refine (HNf.out _).mono ?_; rintro e w5 ⟨rfl, rfl⟩)
        rw [HEE.out]
        exact ⟨rfl, PanV.no HI.out HB0.out⟩
    · rw [if_neg (fun h => h2 h.2.1)] at hI
      have HI := Lib.hid hI
      have b2 : (m == nm) = false := beq_eq_false_iff_ne.2 h2
      clear h1 h2 hI
      go_enter Tryz.func24, Tryz.ntmps24
      go_wp2_with (go_at_call 25; refine (HNf.out _).mono ?_; rintro e w5 ⟨rfl, rfl⟩)
      rw [HEE.out]
      exact ⟨rfl, PanV.no HI.out HB0.out⟩
  · rw [if_neg (fun h => h1 h.1)] at hI
    have HI := Lib.hid hI
    have b1 : (s == [68, 65, 86, 58]) = false := beq_eq_false_iff_ne.2 h1
    clear h1 hI
    go_enter Tryz.func24, Tryz.ntmps24
    go_wp2_with (go_at_call 25; refine (HNf.out _).mono ?_; rintro e w5 ⟨rfl, rfl⟩)
    rw [HEE.out]
    exact ⟨rfl, PanV.no HI.out HB0.out⟩
theorem textM_1 {n : NodeT} {nm : List UInt8} (h : isM n nm = none) : textM n nm = none := by unfold textM; rw [h]
theorem textM_2 {n : NodeT} {nm : List UInt8} {ks : List NodeT} (h : isM n nm = some ks) (h2 : ks.length ≠ 1) : textM n nm = none := by
  unfold textM
  rw [h]
  match ks, h2 with
  | [], _ => rfl
  | [k], h2 => exact absurd rfl h2
  | a :: b :: r, _ => rfl
theorem textM_3 {n k : NodeT} {nm : List UInt8} (h : isM n nm = some [k]) (h2 : k.name ≠ []) : textM n nm = none := by
  unfold textM
  rw [h]
  exact if_neg h2
theorem textM_4 {n k : NodeT} {nm : List UInt8} (h : isM n nm = some [k]) (h2 : k.name = []) : textM n nm = some k.text := by
  unfold textM
  rw [h]
  exact if_pos h2
theorem isM_kids {n : NodeT} {nm : List UInt8} {ks : List NodeT} (h : isM n nm = some ks) : n.kids = ks := by
  unfold isM at h
  split at h
  · injection h
  · cases h
set_option maxHeartbeats 4000000 in
set_option maxRecDepth 100000 in
set_option linter.unusedSimpArgs false in
theorem mtext_any {P : Nat → Prop} (n : NodeT) (nm : List UInt8) (aA kA : Option Addr) (ac kc : Nat) (w : World) (hk : NodesP P w (.slice kA n.kids.length kc) n.kids) : Calls Tryz.prog 26 #[.agg #[.string ⟨n.text.toArray⟩, .string ⟨n.space.toArray⟩, .string ⟨n.name.toArray⟩, .slice aA n.attrs.length ac, .slice kA n.kids.length kc], .string ⟨nm.toArray⟩] w (PanV (textM n nm) strV w) := by
  have hb0 : Below w.heap.size w (w.alloc (.cells #[.string ⟨n.text.toArray⟩, .string ⟨n.space.toArray⟩, .string ⟨n.name.toArray⟩, .slice aA n.attrs.length ac, .slice kA n.kids.length kc] 36 (0, 0))) := (Below.refl _ _).alloc (Nat.le_refl _) _
  have HB0 := Lib.hid hb0
  have HIs := Lib.hid (mis_any n nm aA kA ac kc (w.alloc (.cells #[.string ⟨n.text.toArray⟩, .string ⟨n.space.toArray⟩, .string ⟨n.name.toArray⟩, .slice aA n.attrs.length ac, .slice kA n.kids.length kc] 36 (0, 0))))
  obtain ⟨E, hEE⟩ : ∃ E, E = PanV (textM n nm) strV w := ⟨_, rfl⟩
  rw [← hEE]
  have HEE := Lib.hid hEE
  have HNf := Lib.hid mneed_f
  have HNt := Lib.hid mneed_t
  obtain ⟨-, hkc, hkm, hkk⟩ := kid_at hk
  unfold maxLen at hkm
  have HKk := Lib.hid hkk
  clear hEE hb0 hk hkk
  go_enter Tryz.func26, Tryz.ntmps26
  go_wp2_with fail
  generalize w.alloc (.cells #[.string ⟨n.text.toArray⟩, .string ⟨n.space.toArray⟩, .string ⟨n.name.toArray⟩, .slice aA n.attrs.length ac, .slice kA n.kids.length kc] 36 (0, 0)) = w1 at *
  refine HIs.out.mono ?_
  rintro e w2 ⟨hb2, hx⟩
  have HB2 := Lib.hid (HB0.out.trans (hb2.mono HB0.out.size))
  clear hb2 HIs
  rcases hi : isM n nm with _ | ks
  · rw [hi] at hx
    replace hx : e = .panicked brokenM := hx
    subst hx
    rw [HEE.out]
    exact ⟨rfl, PanV.no (textM_1 hi) HB2.out⟩
  rw [hi] at hx
  obtain ⟨v, rfl, hv⟩ := hx
  replace hv : v = .slice kA ks.length kc := hv
  subst hv
  have HI := Lib.hid hi
  obtain rfl : n.kids = ks := isM_kids hi
  clear hi
  by_cases h1 : n.kids.length = 1
  · obtain ⟨k, hk1⟩ : ∃ k, n.kids = [k] := by
      match h : n.kids, h1 with
      | [k], _ => exact ⟨k, rfl⟩
    have hi2 := HI.out
    rw [hk1] at hi2
    obtain ⟨b, o, aA2, ac2, kA2, kc2, rfl, hbl, e0, e1, e2, e3, e4, -, -⟩ := HKk.out 0 k (by rw [hk1]; rfl)
    rw [Nat.zero_mul, Nat.add_zero] at e0 e1 e2 e3 e4
    have d0 := (HB2.out.cell (p := ⟨b, o, none⟩) hbl).trans e0
    have d2 := (HB2.out.cell (p := ⟨b, o + 2, none⟩) hbl).trans e2
    rw [h1]
    have HI2 := Lib.hid hi2
    have hc1 : 1 ≤ kc := by omega
    clear e0 e1 e2 e3 e4 HKk hk1 hi2 HI h1 hkc
    by_cases h2 : k.name = []
    · have b1 : (k.name == []) = true := by rw [h2]; rfl
      have b2 : k.name.isEmpty = true := by rw [h2]; rfl
      have HR := Lib.hid (textM_4 HI2.out h2)
      clear h2 HI2
      go_wp2_with (go_at_call 25; refine (HNt.out _).mono ?_; rintro e w5 ⟨rfl, rfl⟩)
      rw [HEE.out]
      exact PanV.yes HR.out HB2.out rfl
    · have b1 : (k.name == []) = false := beq_eq_false_iff_ne.2 h2
      have b2 : k.name.isEmpty = false := by cases h : k.name with | nil => exact absurd h h2 | cons => rfl
      have HR := Lib.hid (textM_3 HI2.out h2)
      clear h2 HI2
      go_wp2_with (go_at_call 25; refine (HNf.out _).mono ?_; rintro e w5 ⟨rfl, rfl⟩)
      rw [HEE.out]
      exact ⟨rfl, PanV.no HR.out HB2.out⟩
  · have b1 : ¬ (n.kids.length : Int) = 1 := by omega
    have b2 : ((n.kids.length : Int) == 1) = false := beq_eq_false_iff_ne.2 b1
    have HR := Lib.hid (textM_2 HI.out h1)
    clear h1 HI
    go_wp2_with (go_at_call 25; refine (HNf.out _).mono ?_; rintro e w5 ⟨rfl, rfl⟩)
    rw [HEE.out]
    exact ⟨rfl, PanV.no HR.out HB2.out⟩
end Go.Proofs.YtcamdnfhnianbaaGreatDoor
