/-
  Small words that all walks of this seat share: how a list of strings lies in memory, what a call that only makes memory leaves behind, what the package variables hold. No condition.
-/
import Derived.Test.YtjkiehmjffgnlaaGreatDoorRows
import Derived.WalkKit
import Derived.WalkSpells
import Derived.WalkLawsBesides
import Derived.Lib.Hide
import Derived.Lib.Strings
namespace Go.Proofs.YtjkiehmjffgnlaaGreatDoor
open Go.RowKit

def Rd (w : World) (v : Value) (size : Nat) (xs : List Value) : Prop :=
  ∃ a len cap, v = .slice a len cap ∧ xs.length = len * size ∧ len ≤ cap ∧ cap ≤ maxLen ∧
    ∀ j u, xs[j]? = some u → ∃ b o, a = some ⟨b, o, none⟩ ∧ b < w.heap.size ∧ w.cell? ⟨b, o + j, none⟩ = some u

def str (l : List UInt8) : Value := .string ⟨l.toArray⟩
def Strs (w : World) (v : Value) (ls : List (List UInt8)) : Prop :=
  ∃ a cap, v = .slice a ls.length cap ∧ ls.length ≤ cap ∧ cap ≤ maxLen ∧
    ∀ j l, ls[j]? = some l → ∃ b o, a = some ⟨b, o, none⟩ ∧ b < w.heap.size ∧ w.cell? ⟨b, o + j, none⟩ = some (.string ⟨l.toArray⟩)

theorem Strs.below {w w' : World} {v : Value} {ls : List (List UInt8)} {B : Nat} (h : Strs w v ls) (hb : Below B w w') (hB : w.heap.size ≤ B) : Strs w' v ls := by
  obtain ⟨a, cap, hv, h1, h2, hc⟩ := h
  refine ⟨a, cap, hv, h1, h2, fun j l hj => ?_⟩
  obtain ⟨b, o, ha, hb', hcell⟩ := hc j l hj
  refine ⟨b, o, ha, Nat.lt_of_lt_of_le hb' hb.size, ?_⟩
  rw [hb.cell (p := ⟨b, o + j, none⟩) (by show b < B; omega)]
  exact hcell

theorem Strs.alloc {w : World} {v : Value} {ls : List (List UInt8)} (h : Strs w v ls) (o : Obj) : Strs (w.alloc o) v ls :=
  h.below ((Below.refl w.heap.size w).alloc (Nat.le_refl _) o) (Nat.le_refl _)
theorem Strs.take {w : World} {a : Option Addr} {n cap : Nat} {ls : List (List UInt8)} {k : Nat} (h : Strs w (.slice a n cap) ls) (hk : k ≤ ls.length) : Strs w (.slice a k cap) (ls.take k) := by
  obtain ⟨a', cap', hv, h1, h2, hc⟩ := h
  injection hv with e1 e2 e3
  subst e1 e2 e3
  refine ⟨a, cap, by rw [List.length_take, Nat.min_eq_left hk], by rw [List.length_take]; omega, h2, fun j l hj => ?_⟩
  rw [List.getElem?_take] at hj
  split at hj
  · exact hc j l hj
  · cases hj
def Fits (ls : List (List UInt8)) : Prop := ∀ (j : Nat) l, ls[j]? = some l → l.length ≤ maxLen
def Ret (v : Value) (w : World) (e : Ending) (w' : World) : Prop := e = .returned v ∧ Below w.heap.size w w'
def Same0 (v : Value) (w : World) (e : Ending) (w' : World) : Prop := e = .returned v ∧ w = w'

theorem rets {a b : List UInt8} (h : a = b) : Ending.returned (.string ⟨a.toArray⟩) = .returned (.string ⟨b.toArray⟩) := by rw [h]
theorem retb {a b : Bool} (h : a = b) : Ending.returned (.bool a) = .returned (.bool b) := by rw [h]
theorem ret_int {k : IntKind} {a b : Int} (h : a = b) : Ending.returned (.int k a) = .returned (.int k b) := by rw [h]

theorem quiet0 {P : Program} {f : FuncId} {args : Array Value} {w : World} {n : Nat} {v : Value}
    (h : Calls P f args (w.drewN n) (Same0 v (w.drewN n))) : Calls P f args (w.drewN n) fun e w'' => e = .returned v ∧ ∃ m, w'' = w.drewN m :=
  h.mono fun _ _ ⟨he, hm⟩ => ⟨he, n, hm.symm⟩
theorem quiet1 {P : Program} {f : FuncId} {args : Array Value} {w : World} {k n : Nat} {v : Value}
    (h : Calls P f args (w.drewN (k + n)) (Same0 v (w.drewN (k + n)))) : Calls P f args (w.drewN (k + n)) fun e w'' => e = .returned v ∧ ∃ m, w'' = w.drewN (k + m) :=
  h.mono fun _ _ ⟨he, hm⟩ => ⟨he, n, hm.symm⟩
theorem quiet2 {P : Program} {f : FuncId} {args : Array Value} {w : World} {k n : Nat} {v : Value}
    (h : Calls P f args (w.drewN (k + n)) fun e w' => e = .returned v ∧ w' = w.drewN (k + n)) : Calls P f args (w.drewN (k + n)) fun e w'' => e = .returned v ∧ ∃ m, w'' = w.drewN (k + m) :=
  h.mono fun _ _ ⟨he, hm⟩ => ⟨he, n, hm⟩
theorem below_draws {B : Nat} {a w : World} (h : Below B a w) (n : Nat) : Below B a (w.drewN n) := ⟨h.os, h.tape, h.output, h.size, h.block⟩
theorem ext_list (l : List UInt8) (i j : Nat) : (⟨l.toArray⟩ : ByteArray).extract i j = ⟨((l.take j).drop i).toArray⟩ := by
  apply ByteArray.ext
  rw [ByteArray.data_extract]
  apply Array.toList_inj.1
  rw [Array.toList_extract]
  simp [List.drop_take]
theorem ext_end (l : List UInt8) (i : Nat) : (⟨l.toArray⟩ : ByteArray).extract i l.length = ⟨(l.drop i).toArray⟩ := by
  rw [ext_list, List.take_length]
theorem app_list (a b : List UInt8) : (⟨a.toArray⟩ : ByteArray) ++ ⟨b.toArray⟩ = ⟨(a ++ b).toArray⟩ := by
  apply ByteArray.ext
  rw [ByteArray.data_append]
  simp
attribute [go_sem] ext_list app_list
attribute [go_sem high] ext_end
theorem drop_cons {l r : List UInt8} {k : Nat} {x : UInt8} (h : l.drop k = x :: r) :
    k < l.length ∧ (∀ hk, (⟨l.toArray⟩ : ByteArray)[k]'hk = x) ∧ l.drop (k + 1) = r := by
  have hlt : k < l.length := by
    rcases Nat.lt_or_ge k l.length with h' | h'
    · exact h'
    · rw [List.drop_eq_nil_of_le h'] at h; cases h
  rw [List.drop_eq_getElem_cons hlt] at h
  injection h with h1 h2
  exact ⟨hlt, fun hk => h1, h2⟩
theorem drop_nil {α : Type} {l : List α} {k : Nat} (h : l.drop k = []) : l.length ≤ k := List.drop_eq_nil_iff.1 h
theorem drop_consA {α : Type} {l r : List α} {k : Nat} {x : α} (h : l.drop k = x :: r) : k < l.length ∧ l[k]? = some x ∧ l.drop (k + 1) = r := by
  have hlt : k < l.length := by
    rcases Nat.lt_or_ge k l.length with h' | h'
    · exact h'
    · rw [List.drop_eq_nil_of_le h'] at h; cases h
  rw [List.drop_eq_getElem_cons hlt] at h
  injection h with h1 h2
  exact ⟨hlt, by rw [List.getElem?_eq_getElem hlt, h1], h2⟩
end Go.Proofs.YtjkiehmjffgnlaaGreatDoor
