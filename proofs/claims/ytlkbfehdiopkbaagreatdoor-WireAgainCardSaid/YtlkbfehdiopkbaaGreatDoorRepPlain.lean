/-
  Plain words of layer 12 (reply), no program in sight: a status's reason, a good header, a good response, its form. No condition.
-/
import Derived.Lib.SlTrimSet
import Derived.Lib.Bytealg
import Derived.Lib.IndexLaws
namespace Go.Proofs.YtlkbfehdiopkbaaGreatDoor

structure HdrT where
  name : List UInt8
  value : List UInt8
deriving DecidableEq
structure RespT where
  status : Int
  hdrs : List HdrT
  body : List UInt8
  head : Bool
  close : Bool
deriving DecidableEq

def reasonS (n : Int) : List UInt8 :=
  if n = 200 then [79, 75]
  else if n = 201 then [67, 114, 101, 97, 116, 101, 100]
  else if n = 204 then [78, 111, 32, 67, 111, 110, 116, 101, 110, 116]
  else if n = 207 then [77, 117, 108, 116, 105, 45, 83, 116, 97, 116, 117, 115]
  else if n = 400 then [66, 97, 100, 32, 82, 101, 113, 117, 101, 115, 116]
  else if n = 403 then [70, 111, 114, 98, 105, 100, 100, 101, 110]
  else if n = 404 then [78, 111, 116, 32, 70, 111, 117, 110, 100]
  else if n = 405 then [77, 101, 116, 104, 111, 100, 32, 78, 111, 116, 32, 65, 108, 108, 111, 119, 101, 100]
  else if n = 409 then [67, 111, 110, 102, 108, 105, 99, 116]
  else if n = 412 then [80, 114, 101, 99, 111, 110, 100, 105, 116, 105, 111, 110, 32, 70, 97, 105, 108, 101, 100]
  else if n = 413 then [67, 111, 110, 116, 101, 110, 116, 32, 84, 111, 111, 32, 76, 97, 114, 103, 101]
  else if n = 414 then [85, 82, 73, 32, 84, 111, 111, 32, 76, 111, 110, 103]
  else if n = 415 then [85, 110, 115, 117, 112, 112, 111, 114, 116, 101, 100, 32, 77, 101, 100, 105, 97, 32, 84, 121, 112, 101]
  else if n = 422 then [85, 110, 112, 114, 111, 99, 101, 115, 115, 97, 98, 108, 101, 32, 67, 111, 110, 116, 101, 110, 116]
  else if n = 423 then [76, 111, 99, 107, 101, 100]
  else if n = 424 then [70, 97, 105, 108, 101, 100, 32, 68, 101, 112, 101, 110, 100, 101, 110, 99, 121]
  else if n = 431 then [82, 101, 113, 117, 101, 115, 116, 32, 72, 101, 97, 100, 101, 114, 32, 70, 105, 101, 108, 100, 115, 32, 84, 111, 111, 32, 76, 97, 114, 103, 101]
  else if n = 500 then [73, 110, 116, 101, 114, 110, 97, 108, 32, 83, 101, 114, 118, 101, 114, 32, 69, 114, 114, 111, 114]
  else if n = 501 then [78, 111, 116, 32, 73, 109, 112, 108, 101, 109, 101, 110, 116, 101, 100]
  else if n = 505 then [72, 84, 84, 80, 32, 86, 101, 114, 115, 105, 111, 110, 32, 78, 111, 116, 32, 83, 117, 112, 112, 111, 114, 116, 101, 100]
  else if n = 507 then [73, 110, 115, 117, 102, 102, 105, 99, 105, 101, 110, 116, 32, 83, 116, 111, 114, 97, 103, 101]
  else []
/-- the bytes of a token that are no letter and no digit. -/
def markS : List UInt8 := [33, 35, 36, 37, 38, 39, 42, 43, 45, 46, 94, 95, 96, 124, 126]
def tokC (c : Int) : Bool := decide (97 ≤ c ∧ c ≤ 122 ∨ 65 ≤ c ∧ c ≤ 90 ∨ 48 ≤ c ∧ c ≤ 57) || markS.any fun m => decide ((m.toNat : Int) = c)
def tokS (s : List UInt8) : Bool := !decide (s = []) && s.all fun c => tokC c.toNat
def lowC (c : UInt8) : UInt8 := if 65 ≤ c.toNat ∧ c.toNat ≤ 90 then c + 32 else c
def lowS (s : List UInt8) : List UInt8 := s.map lowC
def wLength : List UInt8 := [99, 111, 110, 116, 101, 110, 116, 45, 108, 101, 110, 103, 116, 104]
def wConn : List UInt8 := [99, 111, 110, 110, 101, 99, 116, 105, 111, 110]
def wCoding : List UInt8 := [116, 114, 97, 110, 115, 102, 101, 114, 45, 101, 110, 99, 111, 100, 105, 110, 103]
def valC (c : Int) : Bool := decide (c = 9 ∨ 32 ≤ c ∧ c ≠ 127)
def trimW (s : List UInt8) : List UInt8 := Lib.trimS s [32, 9]
theorem trimR_cons (x : UInt8) (q cs : List UInt8) : Lib.trimRightS (x :: q) cs = if Lib.trimRightS q cs = [] ∧ cs.contains x = true then [] else x :: Lib.trimRightS q cs := by
  unfold Lib.trimRightS
  rw [List.reverse_cons, List.dropWhile_append]
  generalize q.reverse.dropWhile (cs.contains ·) = D
  cases D with
  | nil =>
    by_cases h : cs.contains x = true
    · rw [List.dropWhile_cons, if_pos h]
      simp only [List.reverse_nil, true_and, if_pos h]
      rfl
    · rw [List.dropWhile_cons, if_neg h]
      simp only [List.reverse_nil, true_and, if_neg h]
      rfl
  | cons a b => simp
theorem trim_comm (cs : List UInt8) : ∀ l : List UInt8, Lib.trimRightS (Lib.trimLeftS l cs) cs = Lib.trimLeftS (Lib.trimRightS l cs) cs
  | [] => rfl
  | x :: q => by
    have ih := trim_comm cs q
    rw [trimR_cons]
    by_cases h : cs.contains x = true
    · have e1 : Lib.trimLeftS (x :: q) cs = Lib.trimLeftS q cs := by unfold Lib.trimLeftS; rw [List.dropWhile_cons, if_pos h]
      rw [e1, ih]
      by_cases h0 : Lib.trimRightS q cs = []
      · rw [if_pos ⟨h0, h⟩, h0]
      · rw [if_neg (fun hh => h0 hh.1)]
        unfold Lib.trimLeftS
        rw [List.dropWhile_cons, if_pos h]
    · have e1 : Lib.trimLeftS (x :: q) cs = x :: q := by unfold Lib.trimLeftS; rw [List.dropWhile_cons, if_neg h]
      rw [e1, trimR_cons, if_neg (fun hh => h hh.2)]
      unfold Lib.trimLeftS
      rw [List.dropWhile_cons, if_neg h]
theorem trimW_eq (l : List UInt8) : trimW l = Lib.trimRightS (Lib.trimLeftS l [32, 9]) [32, 9] := (trim_comm _ l).symm
theorem trimL_white (x : UInt8) (q : List UInt8) (h : (x.toNat : Int) = 32 ∨ (x.toNat : Int) = 9) : Lib.trimLeftS (x :: q) [32, 9] = Lib.trimLeftS q [32, 9] := by
  have h2 : [32, 9].contains x = true := by
    rcases h with h | h
    · rw [show x = 32 from UInt8.toNat_inj.1 (by rw [show (32 : UInt8).toNat = 32 from rfl]; omega)]; rfl
    · rw [show x = 9 from UInt8.toNat_inj.1 (by rw [show (9 : UInt8).toNat = 9 from rfl]; omega)]; rfl
  unfold Lib.trimLeftS
  rw [List.dropWhile_cons, if_pos h2]
theorem white_no (x : UInt8) (h : ¬ (x.toNat : Int) = 32) (h2 : ¬ (x.toNat : Int) = 9) : ¬ [32, 9].contains x = true := by
  intro hc
  have : x = 32 ∨ x = 9 := by simpa using hc
  rcases this with rfl | rfl
  · exact h rfl
  · exact h2 rfl
theorem trimL_not (x : UInt8) (q : List UInt8) (h : ¬ (x.toNat : Int) = 32) (h2 : ¬ (x.toNat : Int) = 9) : Lib.trimLeftS (x :: q) [32, 9] = x :: q := by
  unfold Lib.trimLeftS
  rw [List.dropWhile_cons, if_neg (white_no x h h2)]
theorem trimR_white (x : UInt8) (q : List UInt8) (h : (x.toNat : Int) = 32 ∨ (x.toNat : Int) = 9) : Lib.trimRightS (q ++ [x]) [32, 9] = Lib.trimRightS q [32, 9] := by
  have h2 : [32, 9].contains x = true := by
    rcases h with h | h
    · rw [show x = 32 from UInt8.toNat_inj.1 (by rw [show (32 : UInt8).toNat = 32 from rfl]; omega)]; rfl
    · rw [show x = 9 from UInt8.toNat_inj.1 (by rw [show (9 : UInt8).toNat = 9 from rfl]; omega)]; rfl
  unfold Lib.trimRightS
  rw [List.reverse_append, List.reverse_cons, List.reverse_nil, List.nil_append, List.singleton_append, List.dropWhile_cons, if_pos h2]
theorem trimR_not (x : UInt8) (q : List UInt8) (h : ¬ (x.toNat : Int) = 32) (h2 : ¬ (x.toNat : Int) = 9) : Lib.trimRightS (q ++ [x]) [32, 9] = q ++ [x] := by
  unfold Lib.trimRightS
  rw [List.reverse_append, List.reverse_cons, List.reverse_nil, List.nil_append, List.singleton_append, List.dropWhile_cons, if_neg (white_no x h h2)]
  simp
theorem last_cases (l : List UInt8) : l = [] ∨ ∃ q x, l = q ++ [x] := by
  rcases List.eq_nil_or_concat l with h | ⟨q, x, h⟩
  · exact .inl h
  · exact .inr ⟨q, x, by simpa using h⟩
def hdrS (h : HdrT) : Bool := tokS h.name && !(decide (lowS h.name = wLength) || decide (lowS h.name = wConn) || decide (lowS h.name = wCoding)) && decide (trimW h.value = h.value) && h.value.all fun c => valC c.toNat
def goodR (r : RespT) : Bool := r.hdrs.all hdrS && !decide (reasonS r.status = []) && decide (r.hdrs.length ≤ 32) && decide (r.body.length ≤ 65536) && !(decide (r.status = 204) && !decide (r.body = []))
/-- a number's digits, from the last to the first. -/
def digR : Nat → Nat → List UInt8
  | 0, _ => []
  | f + 1, n => UInt8.ofNat (48 + n % 10) :: if n / 10 = 0 then [] else digR f (n / 10)
def digS (n : Nat) : List UInt8 := (digR (n + 1) n).reverse
def crlf : List UInt8 := [13, 10]
def hdrF (h : HdrT) : List UInt8 := h.name ++ ([58, 32] ++ (h.value ++ crlf))
def lenF (n : Nat) : List UInt8 := [67, 111, 110, 116, 101, 110, 116, 45, 76, 101, 110, 103, 116, 104, 58, 32] ++ (digS n ++ crlf)
def closeF : List UInt8 := [67, 111, 110, 110, 101, 99, 116, 105, 111, 110, 58, 32, 99, 108, 111, 115, 101] ++ crlf
/-- all of a form but the body. -/
def topS (r : RespT) (n : Nat) : List UInt8 :=
  [72, 84, 84, 80, 47, 49, 46, 49, 32] ++ (digS r.status.toNat ++ ([32] ++ (reasonS r.status ++ (crlf ++
    (r.hdrs.flatMap hdrF ++ ((if r.status = 204 then [] else lenF n) ++ ((if r.close then closeF else []) ++ crlf)))))))
def formR (r : RespT) : List UInt8 := topS r r.body.length ++ (if r.head then [] else r.body)
def writeS (r : RespT) : Option (List UInt8) := if goodR r then some (formR r) else none
end Go.Proofs.YtlkbfehdiopkbaaGreatDoor
