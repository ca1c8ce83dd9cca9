import Derived.Test.YtjkiehmjffgnlaaGreatDoorXmlZ24
import Derived.Test.YtjkiehmjffgnlaaGreatDoorXmlZ11
namespace Go.Proofs.YtjkiehmjffgnlaaGreatDoor
set_option linter.unusedVariables false
set_option linter.unusedSimpArgs false
open Go.RowKit

theorem kid_at {P : Nat → Prop} {w : World} {A : Option Addr} {n cap : Nat} {ks : List NodeT} (h : NodesP P w (.slice A n cap) ks) : n = ks.length ∧ n ≤ cap ∧ cap ≤ maxLen ∧ ∀ j x, ks[j]? = some x → ∃ b o aA ac kA kc, A = some ⟨b, o, none⟩ ∧ b < w.heap.size ∧
    w.cell? ⟨b, o + j * 5, none⟩ = some (.string ⟨x.text.toArray⟩) ∧ w.cell? ⟨b, o + j * 5 + 1, none⟩ = some (.string ⟨x.space.toArray⟩) ∧ w.cell? ⟨b, o + j * 5 + 2, none⟩ = some (.string ⟨x.name.toArray⟩) ∧ w.cell? ⟨b, o + j * 5 + 3, none⟩ = some (.slice aA x.attrs.length ac) ∧ w.cell? ⟨b, o + j * 5 + 4, none⟩ = some (.slice kA x.kids.length kc) ∧
    AttrsP P w (.slice aA x.attrs.length ac) x.attrs ∧ NodesP P w (.slice kA x.kids.length kc) x.kids := by
  obtain ⟨⟨A', cap', hv, h1, h2, hc⟩, -⟩ := h
  injection hv with e1 e2 e3
  subst e1 e2 e3
  refine ⟨rfl, h1, h2, fun j x hj => ?_⟩
  obtain ⟨b, o, hA, hb, cs, hl, hcell, hr⟩ := hc j x hj
  obtain ⟨av, kv, rfl, ha, hk⟩ := hr.parts
  obtain ⟨aA, ac, rfl⟩ := tab_shape ha.1
  obtain ⟨kA, kc, rfl⟩ := tab_shape hk.1
  exact ⟨b, o, aA, ac, kA, kc, hA, hb, hcell 0 _ rfl, hcell 1 _ rfl, hcell 2 _ rfl, hcell 3 _ rfl, hcell 4 _ rfl, ha, hk⟩
/-- what Parse hands out, whether it read or not. -/
def outN (x : Except Int NodeT) : NodeT := match x with
  | .ok n => n
  | .error _ => .mk [] [] [] [] []
def outE (x : Except Int NodeT) : Int := match x with
  | .ok _ => 0
  | .error k => k
structure TreeV (w : World) (n : NodeT) (aA : Option Addr) (ac : Nat) (kA : Option Addr) (kc : Nat) : Prop where
  at_ : AttrsP anyB w (.slice aA n.attrs.length ac) n.attrs
  kd : NodesP anyB w (.slice kA n.kids.length kc) n.kids
theorem TreeV.below {w w' : World} {n : NodeT} {aA kA : Option Addr} {ac kc : Nat} (h : TreeV w n aA ac kA kc) (hb : Below w.heap.size w w') : TreeV w' n aA ac kA kc := ⟨h.at_.under hb, h.kd.under hb⟩
def treeCs (n : NodeT) (aA : Option Addr) (ac : Nat) (kA : Option Addr) (kc : Nat) : Array Value := #[.string ⟨n.text.toArray⟩, .string ⟨n.space.toArray⟩, .string ⟨n.name.toArray⟩, .slice aA n.attrs.length ac, .slice kA n.kids.length kc]
def ParseV (x : Except Int NodeT) (w : World) (e : Ending) (w' : World) : Prop := Below w.heap.size w w' ∧ ∃ aA ac kA kc, e = .returned (.tuple #[.agg (treeCs (outN x) aA ac kA kc), .int .i64 (outE x)]) ∧ TreeV w' (outN x) aA ac kA kc
theorem xparseV (s : List UInt8) (w : World) (hs : s.length ≤ 2 ^ 63 - 1) (hE : XEnv w) : Calls Tryz.prog 49 #[.string ⟨s.toArray⟩] w (ParseV (parseX s) w) := by
  refine (xparse_any s w hs hE).mono ?_
  rintro e w' ⟨hb, h⟩
  refine ⟨hb, ?_⟩
  cases hx : parseX s with
  | error k =>
    rw [hx] at h
    exact ⟨none, 0, none, 0, h, TabP.nil _ _ _ _, TabP.nil _ _ _ _⟩
  | ok n =>
    rw [hx] at h
    obtain ⟨av, kv, rfl, ha, hk⟩ := h
    obtain ⟨aA, ac, rfl⟩ := tab_shape ha.1
    obtain ⟨kA, kc, rfl⟩ := tab_shape hk.1
    exact ⟨aA, ac, kA, kc, rfl, ha.move (Moves.same w' fun _ _ _ => trivial), hk.move (Moves.same w' fun _ _ _ => trivial)⟩
def fx1 : List UInt8 := [60, 97, 32, 120, 109, 108, 110, 115, 61, 34, 117, 34, 62, 60, 98, 32, 120, 61, 39, 49, 39, 47, 62, 116, 38, 108, 116, 59, 60, 33, 45, 45, 32, 99, 32, 45, 45, 62, 60, 33, 91, 67, 68, 65, 84, 65, 91, 38, 93, 93, 62, 60, 47, 97, 62]
def fxN : NodeT := .mk [] [117] [97] [] [.mk [] [117] [98] [⟨[120], [49]⟩] [], .mk [116, 60, 38] [] [] [] []]
def fxW : List UInt8 := [60, 97, 32, 120, 109, 108, 110, 115, 61, 34, 117, 34, 62, 60, 98, 32, 120, 61, 34, 49, 34, 47, 62, 116, 38, 108, 116, 59, 38, 97, 109, 112, 59, 60, 47, 97, 62]
theorem fx1_eq : parseX fx1 = .ok fxN := by kernel_rfl
theorem fx2_eq : parseX [60, 97, 62, 60, 47, 98, 62] = .error 30 := by kernel_rfl
theorem fxw_eq : writeX fxN = .ok fxW := by kernel_rfl
theorem fx_small : SmallN 2000000 fxN := by
  unfold fxN
  refine .mk _ _ _ _ _ (by decide) (by decide) (by decide) (by decide) (by intro a ha; cases ha) (by decide) ?_
  intro k hk
  simp only [List.mem_cons, List.not_mem_nil, or_false] at hk
  rcases hk with rfl | rfl
  · exact .mk _ _ _ _ _ (by decide) (by decide) (by decide) (by decide) (by intro a ha; simp only [List.mem_cons, List.not_mem_nil, or_false] at ha; subst ha; decide) (by decide) (by intro x hx; cases hx)
  · exact SmallN.text (by decide)
end Go.Proofs.YtjkiehmjffgnlaaGreatDoor
namespace Go.Proofs.YtjkiehmjffgnlaaGreatDoor
set_option linter.unusedVariables false
set_option linter.unusedSimpArgs false
open Go.RowKit

def BRow (B : Nat) (l : List UInt8) (v : Value) (w : World) : Prop := w.ownsRow B 5 1 v (Lib.byteCells l).length (Lib.byteCells l)
theorem BRow.lt {B : Nat} {l : List UInt8} {v : Value} {w : World} (h : BRow B l v w) : ∀ k, v.ownBlock = some k → B ≤ k ∧ k < w.heap.size := fun k hk => World.ownsRow.lt h k hk
theorem BRow.nil (B : Nat) (w : World) : BRow B [] (.slice none 0 0) w := World.ownsRow_nil _ _ _ _
theorem BRow.other {B : Nat} {l : List UInt8} {v1 v1' v2 : Value} {w w' : World} (h2 : BRow B l v2 w) (hne : ∀ k, v1.ownBlock = some k → v2.ownBlock ≠ some k) (hg : w.grownBy w' v1.ownBlock) (hn : v1'.ownBlock = v1.ownBlock ∨ ∃ k, v1'.ownBlock = some k ∧ w.heap.size ≤ k) :
    BRow B l v2 w' ∧ ∀ k, v1'.ownBlock = some k → v2.ownBlock ≠ some k := by
  refine ⟨World.ownsRow.kept h2 hg ?_, fun k hk he => ?_⟩
  · cases h : v2.ownBlock with
    | none => exact .inl rfl
    | some j => exact .inr fun e => hne j e.symm h
  · rcases hn with hn | ⟨j, hj, hs⟩
    · exact hne k (hn.symm.trans hk) he
    · obtain rfl := Option.some.inj (hj.symm.trans hk)
      have := (h2.lt j he).2
      omega
theorem BRow.below {B : Nat} {l : List UInt8} {v : Value} {w w' : World} (h : BRow B l v w) (hB : B ≤ w.heap.size) (hg : w.grownBy w' v.ownBlock) : Below B w w' :=
  ⟨hg.os, hg.tape, hg.output, hg.size, fun k hk => hg.block k (by omega) (by intro e; have := (h.lt k e.symm).1; omega)⟩
theorem BRow.under {B : Nat} {l : List UInt8} {v : Value} {w w' : World} (h : BRow B l v w) (hb : Below w.heap.size w w') : BRow B l v w' :=
  World.ownsRow.kept (row := none) h ⟨hb.os, hb.tape, hb.output, hb.size, fun k hk _ => hb.block k hk⟩ (by cases v.ownBlock <;> simp)
theorem BRow.text {B : Nat} {l : List UInt8} {v : Value} {w : World} (h : BRow B l v w) : (convert 116 9 v).run Tryz.prog w = .ok (.string ⟨l.toArray⟩) w :=
  conv_bytes w v l (Own.rd (e := 5) (B := B) h)
end Go.Proofs.YtjkiehmjffgnlaaGreatDoor
