/-
  Plain words of layer 16 (cond), no program in sight: conditions, groups, facts; when a group holds; which tokens are submitted. No condition.
-/
import Derived.Test.YthfdhanhkanhhaaDoorUriPlain
namespace Go.Proofs.YthfdhanhkanhhaaDoor

structure CondT where
  neg : Bool
  tok : List UInt8
  etag : List UInt8
deriving DecidableEq
structure GroupT where
  tagged : Bool
  tag : List UInt8
  conds : List CondT
deriving DecidableEq
structure FactT where
  path : List (List UInt8)
  etag : List UInt8
  toks : List (List UInt8)
deriving DecidableEq

def noFact : FactT := ⟨[], [], []⟩
/-- what is so of a condition, its Not aside. -/
def isC (f : FactT) (c : CondT) : Bool := if c.tok = [] then !decide (f.etag = []) && decide (c.etag = f.etag) else decide (c.tok ∈ f.toks)
def okC (f : FactT) (c : CondT) : Bool := isC f c != c.neg
def holdsG (cs : List CondT) (f : FactT) : Bool := cs.all (okC f)
theorem holdsG_nil (f : FactT) : holdsG [] f = true := rfl
theorem holdsG_cons (c : CondT) (cs : List CondT) (f : FactT) : holdsG (c :: cs) f = (okC f c && holdsG cs f) := rfl
/-- the first fact of a path. -/
def findS : List FactT → List (List UInt8) → FactT
  | [], _ => noFact
  | f :: r, p => if f.path = p then f else findS r p
/-- the facts of a group's resource. -/
def factsS (tagged : Bool) (tag : List UInt8) (self : List (List UInt8)) (fs : List FactT) : FactT :=
  if tagged then (if (parseS tag).2.2 = 0 then findS fs (parseS tag).1 else noFact) else findS fs self
def groupS (g : GroupT) (self : List (List UInt8)) (fs : List FactT) : Bool := holdsG g.conds (factsS g.tagged g.tag self fs)
def holdsS : List GroupT → List (List UInt8) → List FactT → Bool
  | [], _, _ => false
  | g :: r, self, fs => groupS g self fs || holdsS r self fs
/-- the tokens of a group's conditions, put to those there are. -/
def addS : List (List UInt8) → List CondT → List (List UInt8)
  | out, [] => out
  | out, c :: r => addS (if !decide (c.tok = []) && !c.neg && !decide (c.tok ∈ out) then out ++ [c.tok] else out) r
def submitS : List (List UInt8) → List GroupT → List (List UInt8) → List FactT → List (List UInt8)
  | out, [], _, _ => out
  | out, g :: r, self, fs => submitS (if groupS g self fs then addS out g.conds else out) r self fs
def condsN (gs : List GroupT) : Nat := (gs.map (·.conds.length)).sum
theorem addS_len (cs : List CondT) : ∀ out, (addS out cs).length ≤ out.length + cs.length := by
  induction cs with
  | nil => intro out; exact Nat.le_refl _
  | cons c r ih =>
    intro out
    refine Nat.le_trans (ih _) ?_
    split <;> simp <;> omega
theorem condsN_cons (g : GroupT) (r : List GroupT) : condsN (g :: r) = g.conds.length + condsN r := by simp [condsN]
end Go.Proofs.YthfdhanhkanhhaaDoor
