/-
  Layer 12: how headers and responses lie in memory; a row of bytes that the call itself writes. No condition.
-/
import Derived.Test.YtlkbfehdiopkbaaGreatDoorRepLaws
import Derived.Test.YtlkbfehdiopkbaaGreatDoorTab
import Derived.Test.YtlkbfehdiopkbaaGreatDoorElem
import Derived.Lib.ConvBytes
import Derived.Lib.AtoiErrMem
namespace Go.Proofs.YtlkbfehdiopkbaaGreatDoor
open Go.RowKit

theorem cell2 (w : World) (x y : Value) (t : TypeId) : (w.alloc (.cells #[x, y] t)).cell? ⟨w.heap.size, 0, none⟩ = some x ∧ (w.alloc (.cells #[x, y] t)).cell? ⟨w.heap.size, 1, none⟩ = some y :=
  ⟨cell_new w #[x, y] t 0, cell_new w #[x, y] t 1⟩
theorem cell5 (w : World) (a b c d e : Value) (t : TypeId) : (w.alloc (.cells #[a, b, c, d, e] t)).cell? ⟨w.heap.size, 0, none⟩ = some a ∧ (w.alloc (.cells #[a, b, c, d, e] t)).cell? ⟨w.heap.size, 1, none⟩ = some b ∧
    (w.alloc (.cells #[a, b, c, d, e] t)).cell? ⟨w.heap.size, 2, none⟩ = some c ∧ (w.alloc (.cells #[a, b, c, d, e] t)).cell? ⟨w.heap.size, 3, none⟩ = some d ∧ (w.alloc (.cells #[a, b, c, d, e] t)).cell? ⟨w.heap.size, 4, none⟩ = some e :=
  ⟨cell_new w #[a, b, c, d, e] t 0, cell_new w #[a, b, c, d, e] t 1, cell_new w #[a, b, c, d, e] t 2, cell_new w #[a, b, c, d, e] t 3, cell_new w #[a, b, c, d, e] t 4⟩
def szV : Value → Nat
  | .string b => b.size
  | _ => 0
theorem szV_str (l : List UInt8) : szV (.string ⟨l.toArray⟩) = l.length := rfl
def HdrR (_ : World) (cs : List Value) (h : HdrT) : Prop := cs = [str h.name, str h.value]
/-- v is a slice that reads as these headers. -/
def Hdrs (w : World) (v : Value) (l : List HdrT) : Prop := Tab 2 HdrR w v l
theorem Hdrs.below {w w' : World} {v : Value} {l : List HdrT} {B : Nat} (h : Hdrs w v l) (hb : Below B w w') (hB : w.heap.size ≤ B) : Hdrs w' v l := Tab.below h hb hB fun _ _ h => h
theorem Hdrs.at {w : World} {v : Value} {l : List HdrT} (h : Hdrs w v l) : ∃ A cap, v = .slice A l.length cap ∧ l.length ≤ cap ∧ cap ≤ maxLen ∧
    ∀ j c, l[j]? = some c → ∃ b o, A = some ⟨b, o, none⟩ ∧ b < w.heap.size ∧ w.cell? ⟨b, o + j * 2, none⟩ = some (.string ⟨c.name.toArray⟩) ∧ w.cell? ⟨b, o + j * 2 + 1, none⟩ = some (.string ⟨c.value.toArray⟩) := by
  obtain ⟨A, cap, hv, h1, h2, hc⟩ := h
  refine ⟨A, cap, hv, h1, h2, fun j c hj => ?_⟩
  obtain ⟨b, o, ha, hb, cs, hl, hcell, rfl⟩ := hc j c hj
  exact ⟨b, o, ha, hb, hcell 0 _ rfl, hcell 1 _ rfl⟩
theorem Hdrs.nil (w : World) : Hdrs w (.slice none 0 0) [] := Tab.nil _ _ _
/-- a response as a value; its headers' slice is hv. -/
def respV (r : RespT) (hv : Value) : Value := .agg #[.int .i64 r.status, hv, .string ⟨r.body.toArray⟩, .bool r.head, .bool r.close]
theorem elemH : ElemN Tryz.prog 24 38 2 (.agg #[.string ⟨#[]⟩, .string ⟨#[]⟩]) 32 := ⟨Tryz.underlying24, by kernel_rfl, rfl, by omega, by omega⟩

/-- block g holds these bytes from its head on, and may be written. -/
def BW (w : World) (g : Nat) (l : List UInt8) : Prop := g < w.heap.size ∧ ∀ j b, l[j]? = some b → w.cell? ⟨g, j, none⟩ = some (.int .u8 b.toNat) ∧ w.frozen? ⟨g, j, none⟩ = false
theorem BW.below {w w' : World} {g : Nat} {l : List UInt8} (h : BW w g l) (hb : Below w.heap.size w w') : BW w' g l :=
  ⟨Nat.lt_of_lt_of_le h.1 hb.size, fun j b hj => ⟨(hb.cell (p := ⟨g, j, none⟩) h.1).trans (h.2 j b hj).1, (hb.frozen (p := ⟨g, j, none⟩) h.1).trans (h.2 j b hj).2⟩⟩
theorem BW.set {w : World} {g : Nat} {l : List UInt8} (h : BW w g l) (k : Nat) (c : UInt8) (hk : k < l.length) : BW (w.setCell ⟨g, k, none⟩ (.int .u8 c.toNat)) g (l.set k c) := by
  refine ⟨by rw [show (w.setCell ⟨g, k, none⟩ (.int .u8 c.toNat)).heap.size = w.heap.size by simp]; exact h.1, fun j b hj => ?_⟩
  rw [World.frozen?_setCell]
  by_cases he : k = j
  · subst he
    rw [List.getElem?_set_self hk] at hj
    injection hj with hj
    subst hj
    have := h.2 k _ (List.getElem?_eq_getElem hk)
    exact ⟨World.cell?_setCell_same _ _ _ this.1, this.2⟩
  · rw [List.getElem?_set_ne he] at hj
    rw [World.cell?_setCell_other _ _ _ _ (by intro h; injection h with _ h _; exact he h)]
    exact h.2 j b hj
theorem BW.rd {w : World} {g : Nat} {l : List UInt8} (h : BW w g l) (cap : Nat) (h1 : l.length ≤ cap) (h2 : cap ≤ maxLen) : RdL w (.slice (some ⟨g, 0, none⟩) l.length cap) (vbytes l) :=
  ⟨some ⟨g, 0, none⟩, cap, by rw [vbytes_len], by rw [vbytes_len]; exact h1, h2, fun j u hj => by
    unfold vbytes at hj
    rw [List.getElem?_map] at hj
    obtain ⟨b, hb, rfl⟩ := Option.map_eq_some_iff.1 hj
    exact ⟨g, 0, rfl, h.1, by rw [Nat.zero_add]; exact (h.2 j b hb).1⟩⟩
theorem BW.lit (w : World) (l : List UInt8) : BW (w.alloc (.cells (vbytes l).toArray 5)) w.heap.size l := by
  refine ⟨by simp, fun j b hj => ⟨?_, ?_⟩⟩
  · rw [cell_new]
    unfold vbytes
    simp [hj]
  · have h := heap_alloc_new w (.cells (vbytes l).toArray 5)
    unfold World.frozen?
    rw [h]
    simp
/-- '[]byte(s)'. -/
theorem conv_string (w : World) (l : List UInt8) : (convert 9 31 (.string ⟨l.toArray⟩)).run Tryz.prog w = .ok (.slice (some ⟨w.heap.size, 0, none⟩) l.length (grownCap w l.length 0 5)) (Lib.bytesWorld w 5 ⟨l.toArray⟩) :=
  Lib.run_convert_string_bytes w _ _ 5 ⟨l.toArray⟩ Tryz.underlying9 Tryz.underlying31 Tryz.underlying5
theorem bytes_bw (w : World) (l : List UInt8) : BW (Lib.bytesWorld w 5 ⟨l.toArray⟩) w.heap.size l := by
  refine ⟨by rw [Lib.bytesWorld_size]; omega, fun j b hj => ⟨?_, ?_⟩⟩
  · have hlt := (List.getElem?_eq_some_iff.1 hj).1
    rw [Lib.bytesWorld_cell w 5 ⟨l.toArray⟩ j hlt, List.getD_eq_getElem?_getD]
    show some (Value.int .u8 ((l[j]?).getD 0).toNat) = _
    rw [hj]
    rfl
  · have hlt := (List.getElem?_eq_some_iff.1 hj).1
    unfold World.frozen?
    simp only [Lib.bytesWorld_at_new]
    have hs : l.length ≤ (Lib.bytesCells w 5 ⟨l.toArray⟩).size := by
      unfold Lib.bytesCells
      simp
    simp
    omega
theorem bytes_below (w : World) (l : List UInt8) : Below w.heap.size w (Lib.bytesWorld w 5 ⟨l.toArray⟩) := Lib.bytesWorld_below _ _ _
end Go.Proofs.YtlkbfehdiopkbaaGreatDoor
