import Derived.Test.YtjkiehmjffgnlaaGreatDoorCut
import Derived.Lib.ValidLaws
import Derived.Test.YtjkiehmjffgnlaaGreatDoorTab
import Derived.Deep.LoopGhost
import Derived.Deep.QuietTactic
import Derived.BigQuiet
import Derived.Defers
import Derived.Recover
import Derived.Test.YtjkiehmjffgnlaaGreatDoorShelfP
import Derived.Test.YtjkiehmjffgnlaaGreatDoorShelfB
import Derived.Test.YtjkiehmjffgnlaaGreatDoorStrAny
import Derived.Shelf.Lays
import Derived.Lib.AppendIntMem
import Derived.Lib.LaidTab
import Derived.Shelf.Strings.SlTrimAscii
import Derived.WalkSmall
namespace Go.Proofs.YtjkiehmjffgnlaaGreatDoor
set_option linter.unusedVariables false
set_option linter.unusedSimpArgs false

structure AttrT where
  name : List UInt8
  value : List UInt8
deriving DecidableEq
inductive NodeT where
  | mk (text space name : List UInt8) (attrs : List AttrT) (kids : List NodeT)
namespace NodeT
def text : NodeT → List UInt8 | .mk t _ _ _ _ => t
def space : NodeT → List UInt8 | .mk _ s _ _ _ => s
def name : NodeT → List UInt8 | .mk _ _ n _ _ => n
def attrs : NodeT → List AttrT | .mk _ _ _ a _ => a
def kids : NodeT → List NodeT | .mk _ _ _ _ k => k
end NodeT
def textN (t : List UInt8) : NodeT := .mk t [] [] [] []
def letC (v : Nat) : Bool := decide (v = 9 ∨ v = 10 ∨ v = 13 ∨ (32 ≤ v ∧ v ≤ 55295) ∨ (57344 ≤ v ∧ v ≤ 65533) ∨ (65536 ≤ v ∧ v ≤ 1114111))
def allL : Nat → List UInt8 → Bool
  | 0, l => decide (l = [])
  | n + 1, l => if l = [] then true else letC (Lib.decodeL l).1 && allL n (l.drop (Lib.decodeL l).2)
def lettersX (l : List UInt8) : Bool := allL l.length l && Lib.validD l
def firC (c : UInt8) : Bool := decide (97 ≤ c.toNat ∧ c.toNat ≤ 122) || decide (65 ≤ c.toNat ∧ c.toNat ≤ 90) || decide (c.toNat = 95) || decide (128 ≤ c.toNat)
def othC (c : UInt8) : Bool := firC c || decide (48 ≤ c.toNat ∧ c.toNat ≤ 57) || decide (c.toNat = 45) || decide (c.toNat = 46)
def nameOk : List UInt8 → Bool
  | [] => false
  | c :: r => firC c && (c :: r).all othC
def whC (c : UInt8) : Bool := decide (c.toNat = 9 ∨ c.toNat = 10 ∨ c.toNat = 13 ∨ c.toNat = 32)
def wXml : List UInt8 := [120, 109, 108]
def wXmlns : List UInt8 := [120, 109, 108, 110, 115]

abbrev X1 (α : Type) := Option (α × List UInt8)
def thenX {α β : Type} (x : X1 α) (f : α → List UInt8 → X1 β) : X1 β :=
  match x with
  | none => none
  | some (a, r) => f a r
def eatX (w s : List UInt8) : X1 Unit := if w.isPrefixOf s then some ((), s.drop w.length) else none
def whiteX (s : List UInt8) : List UInt8 := s.dropWhile whC
def nameX (s : List UInt8) : X1 (List UInt8) := if nameOk (s.takeWhile othC) then some (s.takeWhile othC, s.dropWhile othC) else none
def qnameX (s : List UInt8) : X1 (List UInt8 × List UInt8) := thenX (nameX s) fun a r =>
  match eatX [58] r with
  | none => some (([], a), r)
  | some (_, q) => thenX (nameX q) fun b q => some ((a, b), q)
def foldX (n : List UInt8) : Bool :=
  match n with
  | [a, b, c] => decide (a = 120 ∨ a = 88) && decide (b = 109 ∨ b = 77) && decide (c = 108 ∨ c = 76)
  | _ => false
def wCom : List UInt8 := [60, 33, 45, 45]
def wCdata : List UInt8 := [60, 33, 91, 67, 68, 65, 84, 65, 91]
def skipX (s : List UInt8) : X1 Bool :=
  match eatX wCom s with
  | some (_, r) => thenX (cutS [45, 45] r) fun _ r => thenX (eatX [62] r) fun _ r => some (true, r)
  | none =>
    match eatX [60, 63] s with
    | some (_, r) => thenX (nameX r) fun n r => if foldX n then none else thenX (cutS [63, 62] r) fun _ r => some (true, r)
    | none => some (false, s)
def miscX : Nat → List UInt8 → X1 Unit
  | 0, _ => none
  | f + 1, s => if (whiteX s).length < s.length then miscX f (whiteX s) else
      match skipX s with
      | none => none
      | some (true, r) => miscX f r
      | some (false, _) => some ((), s)
def linesX : List UInt8 → List UInt8
  | [] => []
  | [c] => if c = 13 then [10] else [c]
  | c :: d :: r => if c = 13 then (if d = 10 then 10 :: linesX r else 10 :: linesX (d :: r)) else c :: linesX (d :: r)
def digV (base : Nat) (c : UInt8) : Option Nat :=
  if 48 ≤ c.toNat ∧ c.toNat ≤ 57 then some (c.toNat - 48)
  else if base = 16 ∧ 97 ≤ c.toNat ∧ c.toNat ≤ 102 then some (c.toNat - 87)
  else if base = 16 ∧ 65 ≤ c.toNat ∧ c.toNat ≤ 70 then some (c.toNat - 55)
  else none
def numX (base : Nat) : Nat → List UInt8 → Option Nat
  | n, [] => some n
  | n, c :: r => match digV base c with
    | none => none
    | some d => numX base (n * base + d) r
def wLt : List UInt8 := [108, 116]
def wGt : List UInt8 := [103, 116]
def wAmp : List UInt8 := [97, 109, 112]
def wQuot : List UInt8 := [113, 117, 111, 116]
def wApos : List UInt8 := [97, 112, 111, 115]
def numRef (base : Nat) (d : List UInt8) : Option (List UInt8) :=
  if d = [] ∨ 9 < d.length then none
  else match numX base 0 d with
    | none => none
    | some n => if letC n then some (Utf8.encode (n : Int)).data.toList else none
def refW (w : List UInt8) : Option (List UInt8) :=
  if w = wLt then some [60] else if w = wGt then some [62] else if w = wAmp then some [38] else if w = wQuot then some [34] else if w = wApos then some [39]
  else match w with
    | 35 :: 120 :: d => numRef 16 d
    | 35 :: d => numRef 10 d
    | _ => none
def refX (s : List UInt8) : X1 (List UInt8) := thenX (cutS [59] s) fun w r =>
  match refW w with
  | none => none
  | some t => some (t, r)
def stopC (c : UInt8) : Bool := decide (c = 38 ∨ c = 60)
def flatC (c : UInt8) : UInt8 := if c = 9 ∨ c = 10 then 32 else c
def valIn : Nat → List UInt8 → List UInt8 → Option (List UInt8)
  | 0, _, _ => none
  | f + 1, out, s => if s = [] then some out else
      match s.dropWhile (fun c => !stopC c) with
      | [] => some (out ++ (linesX s).map flatC)
      | c :: q => if c = 38 then
          match refX q with
          | none => none
          | some (t, r) => valIn f (out ++ (linesX (s.takeWhile fun c => !stopC c)).map flatC ++ t) r
        else none
def valueX (s : List UInt8) : X1 (List UInt8) :=
  thenX (match eatX [39] s with
    | some (_, r) => cutS [39] r
    | none => thenX (eatX [34] s) fun _ r => cutS [34] r) fun v r =>
      match valIn (v.length + 1) [] v with
      | none => none
      | some t => some (t, r)
abbrev Scope := List (List UInt8 × List UInt8)
def findX (sc : Scope) (p : List UInt8) : Option (List UInt8) :=
  match sc with
  | [] => if p = [] then some [] else none
  | (q, s) :: r => if q = p then some s else findX r p
def attrsX : Nat → List (List UInt8) → List AttrT → Scope → List UInt8 → X1 (List AttrT × Scope)
  | 0, _, _, _, _ => none
  | f + 1, seen, out, sc, s =>
    if (whiteX s).length < s.length ∧ [62].isPrefixOf (whiteX s) = false ∧ [47, 62].isPrefixOf (whiteX s) = false then
      thenX (qnameX (whiteX s)) fun pl r => thenX (eatX [61] (whiteX r)) fun _ r => thenX (valueX (whiteX r)) fun v r =>
        if pl.1 ++ 58 :: pl.2 ∈ seen then none
        else if pl.1 = [] ∧ pl.2 = wXmlns then attrsX f ((pl.1 ++ 58 :: pl.2) :: seen) out (([], v) :: sc) r
        else if pl.1 = wXmlns then (if v = [] ∨ pl.2 = wXml ∨ pl.2 = wXmlns then none else attrsX f ((pl.1 ++ 58 :: pl.2) :: seen) out ((pl.2, v) :: sc) r)
        else if pl.1 ≠ [] then none
        else attrsX f ((pl.1 ++ 58 :: pl.2) :: seen) (out ++ [⟨pl.2, v⟩]) sc r
    else some ((out, sc), whiteX s)
def addText (ks : List NodeT) (t : List UInt8) : List NodeT :=
  if t = [] then ks else
  match ks.getLast? with
  | some (.mk x s [] a k) => ks.dropLast ++ [.mk (x ++ t) s [] a k]
  | _ => ks ++ [textN t]
def hasEnd (t : List UInt8) : Bool := (cutS [93, 93, 62] t).isSome
mutual
def elemF : Nat → Scope → List UInt8 → X1 NodeT
  | 0, _, _ => none
  | f + 1, sc, s => thenX (eatX [60] s) fun _ b => thenX (qnameX b) fun pl r => thenX (attrsX (r.length + 1) [] [] sc r) fun asz r1 =>
      match findX asz.2 pl.1 with
      | none => none
      | some sp =>
        match eatX [47, 62] r1 with
        | some (_, q) => some (.mk [] sp pl.2 asz.1 [], q)
        | none => thenX (eatX [62] r1) fun _ r2 => thenX (contF f asz.2 [] r2) fun ks r3 => thenX (eatX [60, 47] r3) fun _ r4 =>
            thenX (eatX (b.take (b.length - r.length)) r4) fun _ r5 => thenX (eatX [62] (whiteX r5)) fun _ r6 => some (.mk [] sp pl.2 asz.1 ks, r6)
def contF : Nat → Scope → List NodeT → List UInt8 → X1 (List NodeT)
  | 0, _, _, _ => none
  | f + 1, sc, ks, s =>
    if [60, 47].isPrefixOf s then some (ks, s)
    else if s = [] then none
    else match skipX s with
      | none => none
      | some (true, r) => contF f sc ks r
      | some (false, _) =>
        match eatX wCdata s with
        | some (_, r) => thenX (cutS [93, 93, 62] r) fun t q => contF f sc (addText ks (linesX t)) q
        | none =>
          if s.head? = some 60 then thenX (elemF f sc s) fun n r => contF f sc (ks ++ [n]) r
          else if s.head? = some 38 then thenX (refX s.tail) fun t r => contF f sc (addText ks t) r
          else if s.dropWhile (fun c => !stopC c) = [] ∨ hasEnd (s.takeWhile fun c => !stopC c) = true then none
          else contF f sc (addText ks (linesX (s.takeWhile fun c => !stopC c))) (s.dropWhile fun c => !stopC c)
end
def shortX (s : List UInt8) : Bool := nameOk s && decide (s.length ≤ 60) && lettersX s
def attrsOk : List (List UInt8) → List AttrT → Bool
  | _, [] => true
  | seen, a :: r => shortX a.name && !decide (a.name = wXmlns) && !decide (a.name ∈ seen) && lettersX a.value && attrsOk (a.name :: seen) r
def noTwo : List NodeT → Bool
  | [] => true
  | [_] => true
  | a :: b :: r => (!decide (a.name = []) || !decide (b.name = [])) && noTwo (b :: r)
mutual
def countN : NodeT → Nat
  | .mk _ _ _ _ ks => 1 + countL ks
def countL : List NodeT → Nat
  | [] => 0
  | k :: r => countN k + countL r
end
mutual
def goodN : Nat → NodeT → Bool
  | d, .mk t s n asz ks =>
    if n = [] then !decide (t = []) && lettersX t && decide (s = []) && decide (asz = []) && ks.isEmpty
    else decide (d < 16) && decide (t = []) && shortX n && decide (s.length ≤ 60) && lettersX s && attrsOk [] asz && noTwo ks && goodL (d + 1) ks
def goodL : Nat → List NodeT → Bool
  | _, [] => true
  | d, k :: r => goodN d k && goodL d r
end
def goodT (n : NodeT) : Bool := goodN 0 n && decide (countN n ≤ 4096) && !decide (n.name = [])
def parseX (s : List UInt8) : Except Int NodeT :=
  if 65536 < s.length then .error 5
  else if lettersX s = false then .error 30
  else
    let s1 : Option (List UInt8) := if [60, 63, 120, 109, 108].isPrefixOf s && decide (5 < s.length) && whC (s.getD 5 0) then (cutS [63, 62] s).map (·.2) else some s
    match s1 with
    | none => .error 30
    | some s1 =>
      match thenX (miscX (s1.length + 1) s1) fun _ r => thenX (elemF (2 * r.length + 1) [] r) fun n r => thenX (miscX (r.length + 1) r) fun _ r => if r = [] then some (n, r) else none with
      | none => .error 30
      | some (n, _) => if goodT n then .ok n else .error 31
def escT (c : UInt8) : List UInt8 := if c = 38 then [38, 97, 109, 112, 59] else if c = 60 then [38, 108, 116, 59] else if c = 62 then [38, 103, 116, 59] else if c = 13 then [38, 35, 49, 51, 59] else [c]
def escV (c : UInt8) : List UInt8 := if c = 38 then [38, 97, 109, 112, 59] else if c = 60 then [38, 108, 116, 59] else if c = 34 then [38, 113, 117, 111, 116, 59] else if c = 9 then [38, 35, 57, 59] else if c = 10 then [38, 35, 49, 48, 59] else if c = 13 then [38, 35, 49, 51, 59] else [c]
def attrF (a : AttrT) : List UInt8 := 32 :: (a.name ++ ([61, 34] ++ (a.value.flatMap escV ++ [34])))
def headF (s n : List UInt8) (asz : List AttrT) (up : List UInt8) : List UInt8 :=
  60 :: (n ++ ((if s = up then [] else [32, 120, 109, 108, 110, 115, 61, 34] ++ (s.flatMap escV ++ [34])) ++ asz.flatMap attrF))
mutual
def formN : List UInt8 → NodeT → List UInt8
  | up, .mk t s n asz ks =>
    if n = [] then t.flatMap escT
    else headF s n asz up ++ (if ks.isEmpty then [47, 62] else 62 :: (formL s ks ++ ([60, 47] ++ (n ++ [62]))))
def formL : List UInt8 → List NodeT → List UInt8
  | _, [] => []
  | up, k :: r => formN up k ++ formL up r
end
def writeX (n : NodeT) : Except Int (List UInt8) := if goodT n then (if 65536 < (formN [] n).length then .error 5 else .ok (formN [] n)) else .error 30
end Go.Proofs.YtjkiehmjffgnlaaGreatDoor
namespace Go.Proofs.YtjkiehmjffgnlaaGreatDoor
set_option linter.unusedVariables false
set_option linter.unusedSimpArgs false
open Go.RowKit

theorem cell_eq {w w' : World} {b : Nat} (h : w'.heap[b]? = w.heap[b]?) (k : Nat) : w'.cell? ⟨b, k, none⟩ = w.cell? ⟨b, k, none⟩ := by
  unfold World.cell?
  simp [h]
theorem xfree {w : World} {b : Nat} {xs : Array Value} {t : TypeId} (h : w.heap[b]? = some (.cells xs t (0, 0))) (k : Nat) : w.frozen? ⟨b, k, none⟩ = false := by
  unfold World.frozen?
  simp [h]
theorem xat {w : World} {b : Nat} {xs : Array Value} {t : TypeId} (h : w.heap[b]? = some (.cells xs t (0, 0))) (k : Nat) : w.cell? ⟨b, k, none⟩ = xs[k]? := cell_of_row _ _ _ _ _ _ h
theorem xlt {w : World} {b : Nat} {o : Obj} (h : w.heap[b]? = some o) : b < w.heap.size := (Array.getElem?_eq_some_iff.1 h).1
/-- from w on to w': of the blocks that satisfy P none has changed, and they satisfy Q. -/
structure Moves (P Q : Nat → Prop) (w w' : World) : Prop where
  size : w.heap.size ≤ w'.heap.size
  block : ∀ b, P b → b < w.heap.size → Q b ∧ w'.heap[b]? = w.heap[b]?
theorem Moves.below {P Q : Nat → Prop} {w w' : World} (h : Below w.heap.size w w') (hq : ∀ b, P b → b < w.heap.size → Q b) : Moves P Q w w' := ⟨h.size, fun b hp hb => ⟨hq b hp hb, h.block b hb⟩⟩
theorem Moves.grown {P Q : Nat → Prop} {w w' : World} {row : Option Nat} (h : w.grownBy w' row) (hq : ∀ b, P b → b < w.heap.size → Q b ∧ some b ≠ row) : Moves P Q w w' := ⟨h.size, fun b hp hb => ⟨(hq b hp hb).1, h.block b hb (hq b hp hb).2⟩⟩
theorem Moves.same {P Q : Nat → Prop} (w : World) (hq : ∀ b, P b → b < w.heap.size → Q b) : Moves P Q w w := ⟨Nat.le_refl _, fun b hp hb => ⟨hq b hp hb, rfl⟩⟩
theorem Moves.draws {P Q : Nat → Prop} {w w' : World} (h : Moves P Q w w') (n : Nat) : Moves P Q w (w'.drewN n) := ⟨h.size, h.block⟩

def AttrR (_ : World) (cs : List Value) (a : AttrT) : Prop := cs = [.string ⟨a.name.toArray⟩, .string ⟨a.value.toArray⟩]
def TabP {α : Type} (n : Nat) (R : World → List Value → α → Prop) (P : Nat → Prop) (w : World) (v : Value) (l : List α) : Prop := Tab n R w v l ∧ (l ≠ [] → ∀ b, v.ownBlock = some b → P b)
theorem TabP.move {α : Type} {n : Nat} {R R' : World → List Value → α → Prop} {P Q : Nat → Prop} {w w' : World} {v : Value} {l : List α} (h : TabP n R P w v l) (m : Moves P Q w w') (hR : ∀ cs x, x ∈ l → R w cs x → R' w' cs x) : TabP n R' Q w' v l := by
  obtain ⟨⟨A, cap, rfl, h1, h2, hc⟩, hp⟩ := h
  have key : l ≠ [] → ∀ b, (Value.slice A l.length cap).ownBlock = some b → Q b ∧ w'.heap[b]? = w.heap[b]? := fun hne b hb => by
    obtain ⟨x, hx⟩ : ∃ x, l[0]? = some x := ⟨_, List.getElem?_eq_getElem (List.length_pos_iff.2 hne)⟩
    obtain ⟨b', o, rfl, hb', -⟩ := hc 0 x hx
    obtain rfl : b' = b := by injection hb
    exact m.block _ (hp hne _ rfl) hb'
  refine ⟨⟨A, cap, rfl, h1, h2, fun j x hj => ?_⟩, fun hne b hb => (key hne b hb).1⟩
  have hne : l ≠ [] := by intro e; rw [e] at hj; simp at hj
  obtain ⟨b, o, rfl, hb, cs, hl, hcell, hr⟩ := hc j x hj
  refine ⟨b, o, rfl, Nat.lt_of_lt_of_le hb m.size, cs, hl, fun k u hk => ?_, hR _ _ (List.mem_of_getElem? hj) hr⟩
  rw [cell_eq (key hne b rfl).2]
  exact hcell k u hk
theorem TabP.nil {α : Type} (n : Nat) (R : World → List Value → α → Prop) (P : Nat → Prop) (w : World) : TabP n R P w (.slice none 0 0) [] := ⟨Tab.nil _ _ _, fun h => absurd rfl h⟩
theorem TabP.any {α : Type} {n : Nat} {R : World → List Value → α → Prop} {w : World} {v : Value} {l : List α} (h : Tab n R w v l) : TabP n R (fun _ => True) w v l := ⟨h, fun _ _ _ => trivial⟩
def AttrsP (P : Nat → Prop) (w : World) (v : Value) (l : List AttrT) : Prop := TabP 2 AttrR P w v l
theorem AttrsP.move {P Q : Nat → Prop} {w w' : World} {v : Value} {l : List AttrT} (h : AttrsP P w v l) (m : Moves P Q w w') : AttrsP Q w' v l := TabP.move h m fun _ _ _ h => h
inductive NodeP (P : Nat → Prop) (w : World) : List Value → NodeT → Prop
  | mk (t s n : List UInt8) (ats : List AttrT) (ks : List NodeT) (av : Value) (A : Option Addr) (cap : Nat) (rows : Nat → List Value) (ha : AttrsP P w av ats) (hl : ks.length ≤ cap) (hm : cap ≤ maxLen)
      (hA : ks ≠ [] → ∀ b, (Value.slice A ks.length cap).ownBlock = some b → P b)
      (hc : ∀ j, j < ks.length → ∃ b o, A = some ⟨b, o, none⟩ ∧ b < w.heap.size ∧ (rows j).length = 5 ∧ ∀ k u, (rows j)[k]? = some u → w.cell? ⟨b, o + (j * 5 + k), none⟩ = some u)
      (hk : ∀ j x, ks[j]? = some x → NodeP P w (rows j) x) :
      NodeP P w [.string ⟨t.toArray⟩, .string ⟨s.toArray⟩, .string ⟨n.toArray⟩, av, .slice A ks.length cap] (.mk t s n ats ks)
def NodesP (P : Nat → Prop) (w : World) (v : Value) (l : List NodeT) : Prop := TabP 5 (NodeP P) P w v l
theorem NodeP.parts {P : Nat → Prop} {w : World} {cs : List Value} {n : NodeT} (h : NodeP P w cs n) :
    ∃ av kv, cs = [.string ⟨n.text.toArray⟩, .string ⟨n.space.toArray⟩, .string ⟨n.name.toArray⟩, av, kv] ∧ AttrsP P w av n.attrs ∧ NodesP P w kv n.kids := by
  cases h with
  | mk t s n ats ks av A cap rows ha hl hm hA hc hk =>
    refine ⟨av, _, rfl, ha, ⟨A, cap, rfl, hl, hm, fun j x hj => ?_⟩, hA⟩
    obtain ⟨b, o, hb, hlt, h5, hcell⟩ := hc j (List.getElem?_eq_some_iff.1 hj).1
    exact ⟨b, o, hb, hlt, rows j, h5, hcell, hk j x hj⟩
theorem NodeP.of {P : Nat → Prop} {w : World} {t s n : List UInt8} {ats : List AttrT} {ks : List NodeT} {av kv : Value} (ha : AttrsP P w av ats) (hk : NodesP P w kv ks) :
    NodeP P w [.string ⟨t.toArray⟩, .string ⟨s.toArray⟩, .string ⟨n.toArray⟩, av, kv] (.mk t s n ats ks) := by
  obtain ⟨hT, hp⟩ := hk
  obtain ⟨A, cap, rows, rfl, h1, h2, hl, hr, hR, hcell⟩ := hT.flat
  refine .mk t s n ats ks av A cap (fun j => rows.getD j []) ha h1 h2 hp (fun j hj => ?_) (fun j x hx => ?_)
  · obtain ⟨b, o, hA, hb, hc⟩ := hcell (by intro e; rw [e] at hj; simp at hj)
    have hjr : j < rows.length := by omega
    have e : rows.getD j [] = rows[j] := by rw [List.getD_eq_getElem?_getD, List.getElem?_eq_getElem hjr]; rfl
    simp only [e]
    exact ⟨b, o, hA, hb, hr _ (List.getElem_mem _), hc j _ (List.getElem?_eq_getElem hjr)⟩
  · have hjr : j < rows.length := by have := (List.getElem?_eq_some_iff.1 hx).1; omega
    have e : rows.getD j [] = rows[j] := by rw [List.getD_eq_getElem?_getD, List.getElem?_eq_getElem hjr]; rfl
    simp only [e]
    exact hR j x _ hx (List.getElem?_eq_getElem hjr)
theorem NodeP.move {P Q : Nat → Prop} {w w' : World} {cs : List Value} {n : NodeT} (h : NodeP P w cs n) (m : Moves P Q w w') : NodeP Q w' cs n := by
  induction h with
  | mk t s n ats ks av A cap rows ha hl hm hA hc hk ih =>
    have key : ks ≠ [] → ∀ b, (Value.slice A ks.length cap).ownBlock = some b → Q b ∧ w'.heap[b]? = w.heap[b]? := fun hne b hb => by
      obtain ⟨b', o, rfl, hb', -⟩ := hc 0 (List.length_pos_iff.2 hne)
      obtain rfl : b' = b := by injection hb
      exact m.block _ (hA hne _ rfl) hb'
    refine .mk t s n ats ks av A cap rows (ha.move m) hl hm (fun hne b hb => (key hne b hb).1) (fun j hj => ?_) ih
    have hne : ks ≠ [] := by intro e; rw [e] at hj; simp at hj
    obtain ⟨b, o, rfl, hlt, h5, hcell⟩ := hc j hj
    refine ⟨b, o, rfl, Nat.lt_of_lt_of_le hlt m.size, h5, fun k u hu => ?_⟩
    rw [cell_eq (key hne b rfl).2]
    exact hcell k u hu
theorem NodesP.move {P Q : Nat → Prop} {w w' : World} {v : Value} {l : List NodeT} (h : NodesP P w v l) (m : Moves P Q w w') : NodesP Q w' v l := TabP.move h m fun _ _ _ h => h.move m
theorem NodeP.text (P : Nat → Prop) (w : World) (t : List UInt8) : NodeP P w [.string ⟨t.toArray⟩, .string ⟨#[]⟩, .string ⟨#[]⟩, .slice none 0 0, .slice none 0 0] (textN t) := NodeP.of (s := []) (n := []) (ats := []) (ks := []) (TabP.nil _ _ _ _) (TabP.nil _ _ _ _)
abbrev anyB : Nat → Prop := fun _ => True
theorem NodeP.under {w w' : World} {cs : List Value} {n : NodeT} (h : NodeP anyB w cs n) (hb : Below w.heap.size w w') : NodeP anyB w' cs n := h.move (Moves.below hb fun _ _ _ => trivial)
theorem NodesP.under {w w' : World} {v : Value} {l : List NodeT} (h : NodesP anyB w v l) (hb : Below w.heap.size w w') : NodesP anyB w' v l := h.move (Moves.below hb fun _ _ _ => trivial)
theorem AttrsP.under {w w' : World} {v : Value} {l : List AttrT} (h : AttrsP anyB w v l) (hb : Below w.heap.size w w') : AttrsP anyB w' v l := h.move (Moves.below hb fun _ _ _ => trivial)
def nodeV (n : NodeT) (av kv : Value) : Value := .agg #[.string ⟨n.text.toArray⟩, .string ⟨n.space.toArray⟩, .string ⟨n.name.toArray⟩, av, kv]
def zeroNV : Value := .agg #[.string ⟨#[]⟩, .string ⟨#[]⟩, .string ⟨#[]⟩, .slice none 0 0, .slice none 0 0]

def ScP (P : Nat → Prop) (w : World) : Value → Scope → Prop
  | v, [] => v = .pointer none
  | v, (p, s) :: r => ∃ b up, v = .pointer (some ⟨b, 0, none⟩) ∧ P b ∧ w.heap[b]? = some (.cells #[.string ⟨p.toArray⟩, .string ⟨s.toArray⟩, up] 181 (0, 0)) ∧ ScP P w up r
theorem ScP.move {P Q : Nat → Prop} {w w' : World} (m : Moves P Q w w') : ∀ {sc : Scope} {v : Value}, ScP P w v sc → ScP Q w' v sc
  | [], _, h => h
  | (p, s) :: r, v, h => by
    obtain ⟨b, up, hv, hp, hc, hr⟩ := h
    obtain ⟨m1, m2⟩ := m.block b hp (xlt hc)
    exact ⟨b, up, hv, m1, m2.trans hc, hr.move m⟩

def brokenE : List PanicEntry := [{ v := .iface 103 (.agg #[]), recovered := false }]
def PX (w : World) (b : Nat) (s : List UInt8) : Prop := w.heap[b]? = some (.cells #[.string ⟨s.toArray⟩] 107 (0, 0))
section
variable {w w' : World} {b : Nat} {s : List UInt8}
theorem PX.lt (h : PX w b s) : b < w.heap.size := xlt h
theorem PX.c0 (h : PX w b s) : w.cell? ⟨b, 0, none⟩ = some (.string ⟨s.toArray⟩) := xat h 0
theorem PX.f0 (h : PX w b s) : w.frozen? ⟨b, 0, none⟩ = false := xfree h 0
theorem PX.set (h : PX w b s) (r : List UInt8) : PX (w.setCell ⟨b, 0, none⟩ (.string ⟨r.toArray⟩)) b r := heap_setCell_same w b 0 _ _ _ h
theorem PX.draws (h : PX w b s) (n : Nat) : PX (w.drewN n) b s := h
theorem PX.keep {bl : Option Nat} (h : PX w b s) (hg : w.grownBy w' bl) (hne : some b ≠ bl) : PX w' b s := (hg.block b h.lt hne).trans h
theorem PX.below (h : PX w b s) (hb : Below w.heap.size w w') : PX w' b s := (hb.block b h.lt).trans h
end
theorem xgrown_cell (w : World) (b k : Nat) (v : Value) : w.grownBy (w.setCell ⟨b, k, none⟩ v) (some b) :=
  ⟨rfl, rfl, rfl, by simp, fun k _ hne => heap_setCell_other w _ k v (fun h => hne (by rw [h]))⟩
theorem xgrown_draws {w w' : World} {b : Option Nat} (h : w.grownBy w' b) (n : Nat) : w.grownBy (w'.drewN n) b := ⟨h.os, h.tape, h.output, h.size, h.block⟩
def XOut {α : Type} (b : Nat) (x : X1 α) (f : World → Value → α → Prop) (w : World) (e : Ending) (w' : World) : Prop :=
  w.grownBy w' (some b) ∧ match x with
    | none => e = .panicked brokenE
    | some (a, r) => ∃ v, e = .returned v ∧ f w' v a ∧ PX w' b r
theorem xout_no {α : Type} {b : Nat} {x : X1 α} {f : World → Value → α → Prop} {w w' : World} (h : x = none) (hg : w.grownBy w' (some b)) : XOut b x f w (.panicked brokenE) w' := by
  subst h
  exact ⟨hg, rfl⟩
theorem xout_ok {α : Type} {b : Nat} {x : X1 α} {f : World → Value → α → Prop} {w w' : World} {a : α} {r : List UInt8} {v : Value} (h : x = some (a, r)) (hg : w.grownBy w' (some b)) (hv : f w' v a) (hp : PX w' b r) : XOut b x f w (.returned v) w' := by
  subst h
  exact ⟨hg, v, rfl, hv, hp⟩
end Go.Proofs.YtjkiehmjffgnlaaGreatDoor
namespace Go.Proofs.YtjkiehmjffgnlaaGreatDoor
set_option linter.unusedVariables false
set_option linter.unusedSimpArgs false
open Go.RowKit

def foldTab : List Int := (List.range 128).map fun (i : Nat) => if 65 ≤ i ∧ i ≤ 90 then (i : Int) + 32 else if i = 107 then 8490 else if i = 115 then 383 else if 97 ≤ i ∧ i ≤ 122 then (i : Int) - 32 else i
structure XEnv (w : World) : Prop where
  env : Env w
  fold : Lib.TabIs Tryz.prog w "unicode.asciiFold" .u16 foldTab
  esyn : ∃ t p, w.var? Tryz.prog "strconv.ErrSyntax" = some #[.iface t p]
  eran : ∃ t p, w.var? Tryz.prog "strconv.ErrRange" = some #[.iface t p]
theorem var_lt {w : World} {n : String} {g : Nat} {cs : Array Value} (hg : Tryz.prog.globalNamed n = some g) (h : w.var? Tryz.prog n = some cs) : g < w.heap.size := by
  unfold World.var? at h
  simp only [hg, Option.bind_some] at h
  rcases Nat.lt_or_ge g w.heap.size with h' | h'
  · exact h'
  · simp [Array.getElem?_eq_none h'] at h
theorem XEnv.below {w w' : World} (h : XEnv w) (hb : Below w.heap.size w w') : XEnv w' :=
  ⟨h.env.below hb, (Lib.tabBelow_of_tabIs h.fold) w' hb,
    h.esyn.imp fun _ h => h.imp fun _ h => var?_below hb (show Tryz.prog.globalNamed "strconv.ErrSyntax" = some 9 by kernel_rfl) (var_lt (by kernel_rfl) h) h,
    h.eran.imp fun _ h => h.imp fun _ h => var?_below hb (show Tryz.prog.globalNamed "strconv.ErrRange" = some 10 by kernel_rfl) (var_lt (by kernel_rfl) h) h⟩
def XE (w : World) (b : Nat) : Prop := ∀ w', w.grownBy w' (some b) → XEnv w'
theorem XE.at {w : World} {b : Nat} (h : XE w b) : XEnv w := h w (World.grownBy.refl _ _)
theorem XE.step {w w' : World} {b : Nat} (h : XE w b) (hg : w.grownBy w' (some b)) : XE w' b := fun _ hg' => h _ (grown_trans hg hg')
theorem XE.new {w0 w : World} {b : Nat} (h : XEnv w0) (hb : Below w0.heap.size w0 w) (hB : w0.heap.size ≤ b) : XE w b := fun w' hg => h.below (grown_below hb hg hb.size fun k hk => by injection hk with hk; omega)
theorem XE.other {w w1 : World} {b c : Nat} (h : XE w b) (hb : Below w.heap.size w w1) (hc : w.heap.size ≤ c) : XE w1 c := fun w' hg =>
  h _ ⟨hg.os.trans hb.os, hg.tape.trans hb.tape, hg.output.trans hb.output, Nat.le_trans hb.size hg.size, fun k hk _ => (hg.block k (Nat.lt_of_lt_of_le hk hb.size) (fun e => by injection e with e; omega)).trans (hb.block k hk)⟩
theorem xcutPrefix_any (s p : List UInt8) (w : World) :
    Calls Tryz.prog 59 #[.string ⟨s.toArray⟩, .string ⟨p.toArray⟩] w (Same0 (.tuple #[.string ⟨(Lib.trimPrefix s p).toArray⟩, .bool (p.isPrefixOf s)]) w) :=
  (Tryz.strings_CutPrefix ⟨s.toArray⟩ ⟨p.toArray⟩ w).mono fun _ _ ⟨h1, h2⟩ => ⟨h1, h2.symm⟩
theorem xhasPrefix_any (s p : List UInt8) (w : World) :
    Calls Tryz.prog 110 #[.string ⟨s.toArray⟩, .string ⟨p.toArray⟩] w (Same0 (.bool (p.isPrefixOf s)) w) :=
  (Tryz.strings_HasPrefix ⟨s.toArray⟩ ⟨p.toArray⟩ w).mono fun _ _ ⟨h1, h2⟩ => ⟨h1, h2.symm⟩
def xcutT (s : List UInt8) : Option (List UInt8 × List UInt8) → Value
  | some (a, b) => .tuple #[.string ⟨a.toArray⟩, .string ⟨b.toArray⟩, .bool true]
  | none => .tuple #[.string ⟨s.toArray⟩, .string ⟨#[]⟩, .bool false]
theorem xcut_any (s sep : List UInt8) (w : World) (hs : s.length ≤ 1000000000) (hE : XEnv w) :
    Calls Tryz.prog 83 #[.string ⟨s.toArray⟩, .string ⟨sep.toArray⟩] w (Ret (xcutT s (cutS sep s)) w) := by
  obtain ⟨m, hm⟩ := hE.env.maxLen
  refine (Tryz.strings_Cut ⟨s.toArray⟩ ⟨sep.toArray⟩ m w (by show s.length < _; omega) hm).mono ?_
  rintro e w' ⟨rfl, n, rfl⟩
  refine ⟨?_, below_draws (Below.refl _ _) n⟩
  show Ending.returned (.tuple #[.string ⟨(Lib.cut s sep).1.toArray⟩, .string ⟨(Lib.cut s sep).2.1.toArray⟩, .bool (Lib.cut s sep).2.2]) = _
  rw [cut_eq]
  rcases cutS sep s with _ | ⟨a, b⟩ <;> rfl
end Go.Proofs.YtjkiehmjffgnlaaGreatDoor
