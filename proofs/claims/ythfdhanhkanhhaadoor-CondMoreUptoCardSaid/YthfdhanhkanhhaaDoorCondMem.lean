/-
  How conditions, groups and facts lie in memory. Conditions stand at each.
-/
import Derived.Test.YthfdhanhkanhhaaDoorTab
import Derived.Test.YthfdhanhkanhhaaDoorElem
import Derived.Test.YthfdhanhkanhhaaDoorCondPlain
namespace Go.Proofs.YthfdhanhkanhhaaDoor
open Go.RowKit

def CondR (_ : World) (cs : List Value) (c : CondT) : Prop := cs = [.bool c.neg, str c.tok, str c.etag]
def Conds (w : World) (v : Value) (l : List CondT) : Prop := Tab 3 CondR w v l
def GroupR (w : World) (cs : List Value) (g : GroupT) : Prop := ∃ v, cs = [.bool g.tagged, str g.tag, v] ∧ Conds w v g.conds
def Groups (w : World) (v : Value) (l : List GroupT) : Prop := Tab 3 GroupR w v l
def FactR (w : World) (cs : List Value) (f : FactT) : Prop := ∃ p t, cs = [p, str f.etag, t] ∧ Strs w p f.path ∧ Strs w t f.toks
def FactL (w : World) (v : Value) (l : List FactT) : Prop := Tab 3 FactR w v l

theorem CondR.any {w w' : World} {cs : List Value} {c : CondT} (h : CondR w cs c) : CondR w' cs c := h
theorem Conds.below {w w' : World} {v : Value} {l : List CondT} {B : Nat} (h : Conds w v l) (hb : Below B w w') (hB : w.heap.size ≤ B) : Conds w' v l := Tab.below h hb hB fun _ _ h => h
theorem Conds.alloc {w : World} {v : Value} {l : List CondT} (h : Conds w v l) (o : Obj) : Conds (w.alloc o) v l := h.below ((Below.refl w.heap.size w).alloc (Nat.le_refl _) o) (Nat.le_refl _)
theorem Conds.grown {w w' : World} {v : Value} {l : List CondT} {row : Option Nat} (h : Conds w v l) (hg : w.grownBy w' row) (hne : ∀ b, v.ownBlock = some b → some b ≠ row) : Conds w' v l := Tab.grown h hg hne fun _ _ _ h => h
theorem GroupR.below {w w' : World} {cs : List Value} {g : GroupT} {B : Nat} (h : GroupR w cs g) (hb : Below B w w') (hB : w.heap.size ≤ B) : GroupR w' cs g := by
  obtain ⟨v, h1, h2⟩ := h
  exact ⟨v, h1, h2.below hb hB⟩
theorem Groups.below {w w' : World} {v : Value} {l : List GroupT} {B : Nat} (h : Groups w v l) (hb : Below B w w') (hB : w.heap.size ≤ B) : Groups w' v l := Tab.below h hb hB fun _ _ h => h.below hb hB
theorem FactR.below {w w' : World} {cs : List Value} {f : FactT} {B : Nat} (h : FactR w cs f) (hb : Below B w w') (hB : w.heap.size ≤ B) : FactR w' cs f := by
  obtain ⟨p, t, h1, h2, h3⟩ := h
  exact ⟨p, t, h1, h2.below hb hB, h3.below hb hB⟩
theorem FactL.below {w w' : World} {v : Value} {l : List FactT} {B : Nat} (h : FactL w v l) (hb : Below B w w') (hB : w.heap.size ≤ B) : FactL w' v l := Tab.below h hb hB fun _ _ h => h.below hb hB

/-- the three cells of an element. -/
theorem Conds.at {w : World} {v : Value} {l : List CondT} (h : Conds w v l) : ∃ A cap, v = .slice A l.length cap ∧ l.length ≤ cap ∧ cap ≤ maxLen ∧
    ∀ j c, l[j]? = some c → ∃ b o, A = some ⟨b, o, none⟩ ∧ b < w.heap.size ∧ w.cell? ⟨b, o + j * 3, none⟩ = some (.bool c.neg) ∧ w.cell? ⟨b, o + j * 3 + 1, none⟩ = some (str c.tok) ∧ w.cell? ⟨b, o + j * 3 + 2, none⟩ = some (str c.etag) := by
  obtain ⟨A, cap, hv, h1, h2, hc⟩ := h
  refine ⟨A, cap, hv, h1, h2, fun j c hj => ?_⟩
  obtain ⟨b, o, ha, hb, cs, hl, hcell, rfl⟩ := hc j c hj
  exact ⟨b, o, ha, hb, hcell 0 _ rfl, hcell 1 _ rfl, hcell 2 _ rfl⟩
theorem Groups.at {w : World} {v : Value} {l : List GroupT} (h : Groups w v l) : ∃ A cap, v = .slice A l.length cap ∧ l.length ≤ cap ∧ cap ≤ maxLen ∧
    ∀ j g, l[j]? = some g → ∃ b o cv, A = some ⟨b, o, none⟩ ∧ b < w.heap.size ∧ w.cell? ⟨b, o + j * 3, none⟩ = some (.bool g.tagged) ∧ w.cell? ⟨b, o + j * 3 + 1, none⟩ = some (str g.tag) ∧ w.cell? ⟨b, o + j * 3 + 2, none⟩ = some cv ∧ Conds w cv g.conds := by
  obtain ⟨A, cap, hv, h1, h2, hc⟩ := h
  refine ⟨A, cap, hv, h1, h2, fun j c hj => ?_⟩
  obtain ⟨b, o, ha, hb, cs, hl, hcell, cv, rfl, hcv⟩ := hc j c hj
  exact ⟨b, o, cv, ha, hb, hcell 0 _ rfl, hcell 1 _ rfl, hcell 2 _ rfl, hcv⟩
theorem FactL.at {w : World} {v : Value} {l : List FactT} (h : FactL w v l) : ∃ A cap, v = .slice A l.length cap ∧ l.length ≤ cap ∧ cap ≤ maxLen ∧
    ∀ j f, l[j]? = some f → ∃ b o p t, A = some ⟨b, o, none⟩ ∧ b < w.heap.size ∧ w.cell? ⟨b, o + j * 3, none⟩ = some p ∧ w.cell? ⟨b, o + j * 3 + 1, none⟩ = some (str f.etag) ∧ w.cell? ⟨b, o + j * 3 + 2, none⟩ = some t ∧ Strs w p f.path ∧ Strs w t f.toks := by
  obtain ⟨A, cap, hv, h1, h2, hc⟩ := h
  refine ⟨A, cap, hv, h1, h2, fun j c hj => ?_⟩
  obtain ⟨b, o, ha, hb, cs, hl, hcell, p, t, rfl, hp, ht⟩ := hc j c hj
  exact ⟨b, o, p, t, ha, hb, hcell 0 _ rfl, hcell 1 _ rfl, hcell 2 _ rfl, hp, ht⟩

theorem elemC : ElemN Tryd.prog 44 48 3 (.agg #[.bool false, .string ⟨#[]⟩, .string ⟨#[]⟩]) 40 := ⟨Tryd.underlying44, by kernel_rfl, rfl, by omega, by omega⟩
theorem elemG : ElemN Tryd.prog 36 46 3 (.agg #[.bool false, .string ⟨#[]⟩, .slice none 0 0]) 48 := ⟨Tryd.underlying36, by kernel_rfl, rfl, by omega, by omega⟩
theorem elemF : ElemN Tryd.prog 37 43 3 (.agg #[.slice none 0 0, .string ⟨#[]⟩, .slice none 0 0]) 64 := ⟨Tryd.underlying37, by kernel_rfl, rfl, by omega, by omega⟩
end Go.Proofs.YthfdhanhkanhhaaDoor
