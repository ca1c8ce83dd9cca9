/-
  The walks of cond's reader: white, eat. Condition: the reader lies in a block of its own.
-/
import Derived.Test.YthfdhanhkanhhaaDoorCondMem
import Derived.Test.YthfdhanhkanhhaaDoorCondSpec
import Derived.Shelf.Lays
import Derived.Test.YthfdhanhkanhhaaDoorShelf
import Derived.Shelf.Strings.SlTrimAscii
namespace Go.Proofs
open Go.Shelf
def Tryd.lay161_ren : Go.Shelf.Ren := ⟨fun | 119 => 94 | 137 => 50 | 151 => 89 | 152 => 86 | 161 => 64 | 197 => 83 | 217 => 68 | 224 => 92 | 225 => 91 | 227 => 77 | 228 => 88 | 231 => 76 | 233 => 78 | 235 => 79 | 260 => 90 | 266 => 81 | n => n, fun | 0 => 0 | 3 => 3 | 4 => 4 | 5 => 5 | 9 => 9 | 21 => 21 | 46 => 66 | 105 => 111 | 116 => 105 | 117 => 106 | 119 => 95 | 124 => 109 | 138 => 97 | 139 => 98 | n => n, fun | 3 => 0 | 4 => 1 | n => n⟩
theorem Tryd.lay161 : Go.Proofs.Lays.n161 Tryd.prog Tryd.lay161_ren := {
  mixed := by kernel_rfl
  f119 := Tryd.func94.trans (congrArg some (by kernel_rfl))
  f137 := Tryd.func50.trans (congrArg some (by kernel_rfl))
  f151 := Tryd.func89.trans (congrArg some (by kernel_rfl))
  f152 := Tryd.func86.trans (congrArg some (by kernel_rfl))
  f161 := Tryd.func64.trans (congrArg some (by kernel_rfl))
  f197 := Tryd.func83.trans (congrArg some (by kernel_rfl))
  f217 := Tryd.func68.trans (congrArg some (by kernel_rfl))
  f224 := Tryd.func92.trans (congrArg some (by kernel_rfl))
  f225 := Tryd.func91.trans (congrArg some (by kernel_rfl))
  f227 := Tryd.func77.trans (congrArg some (by kernel_rfl))
  f228 := Tryd.func88.trans (congrArg some (by kernel_rfl))
  f231 := Tryd.func76.trans (congrArg some (by kernel_rfl))
  f233 := Tryd.func78.trans (congrArg some (by kernel_rfl))
  f235 := Tryd.func79.trans (congrArg some (by kernel_rfl))
  f260 := Tryd.func90.trans (congrArg some (by kernel_rfl))
  f266 := Tryd.func81.trans (congrArg some (by kernel_rfl))
  t0 := Tryd.underlying0
  a0 := Tryd.isAgg0
  z0 := Tryd.sizeOf0
  v0 := Tryd.zeroValue0
  t3 := Tryd.underlying3
  a3 := Tryd.isAgg3
  z3 := Tryd.sizeOf3
  v3 := Tryd.zeroValue3
  t4 := Tryd.underlying4
  a4 := Tryd.isAgg4
  z4 := Tryd.sizeOf4
  v4 := Tryd.zeroValue4
  t5 := Tryd.underlying5
  a5 := Tryd.isAgg5
  z5 := Tryd.sizeOf5
  v5 := Tryd.zeroValue5
  t9 := Tryd.underlying9
  a9 := Tryd.isAgg9
  z9 := Tryd.sizeOf9
  v9 := Tryd.zeroValue9
  t21 := Tryd.underlying21
  a21 := Tryd.isAgg21
  z21 := Tryd.sizeOf21
  v21 := Tryd.zeroValue21
  t46 := Tryd.underlying66
  a46 := Tryd.isAgg66
  z46 := Tryd.sizeOf66
  v46 := Tryd.zeroValue66
  t105 := Tryd.underlying111
  a105 := Tryd.isAgg111
  z105 := Tryd.sizeOf111
  v105 := Tryd.zeroValue111
  t116 := Tryd.underlying105
  a116 := Tryd.isAgg105
  z116 := Tryd.sizeOf105
  t117 := Tryd.underlying106
  a117 := Tryd.isAgg106
  z117 := Tryd.sizeOf106
  v117 := Tryd.zeroValue106
  t119 := Tryd.underlying95
  a119 := Tryd.isAgg95
  z119 := Tryd.sizeOf95
  t124 := Tryd.underlying109
  a124 := Tryd.isAgg109
  z124 := Tryd.sizeOf109
  v124 := Tryd.zeroValue109
  t138 := Tryd.underlying97
  a138 := Tryd.isAgg97
  z138 := Tryd.sizeOf97
  v138 := Tryd.zeroValue97
  t139 := Tryd.underlying98
  a139 := Tryd.isAgg98
  z139 := Tryd.sizeOf98
  v139 := Tryd.zeroValue98
  g3 := by kernel_rfl
  g4 := by kernel_rfl }

namespace YthfdhanhkanhhaaDoor
open Go.RowKit

/-- the reader in block r holds these bytes. -/
def Rdr (w : World) (r : Nat) (s : List UInt8) : Prop := w.heap[r]? = some (.cells #[.string ⟨s.toArray⟩] 75 (0, 0))
theorem Rdr.lt {w : World} {r : Nat} {s : List UInt8} (h : Rdr w r s) : r < w.heap.size := (Array.getElem?_eq_some_iff.1 h).1
theorem Rdr.cell {w : World} {r : Nat} {s : List UInt8} (h : Rdr w r s) : w.cell? ⟨r, 0, none⟩ = some (.string ⟨s.toArray⟩) := by
  rw [cell_of_row w r 0 _ _ _ h]; rfl
theorem Rdr.frozen {w : World} {r : Nat} {s : List UInt8} (h : Rdr w r s) : w.frozen? ⟨r, 0, none⟩ = false := by
  unfold World.frozen?; rw [h]; rfl
theorem Rdr.below {w w' : World} {r : Nat} {s : List UInt8} {B : Nat} (h : Rdr w r s) (hb : Below B w w') (hB : r < B) : Rdr w' r s := (hb.block r hB).trans h
theorem Rdr.alloc {w : World} {r : Nat} {s : List UInt8} (h : Rdr w r s) (o : Obj) : Rdr (w.alloc o) r s := (Below.heap_alloc w o r h.lt).trans h
theorem Rdr.set {w : World} {r : Nat} {s s' : List UInt8} (h : Rdr w r s) : Rdr (w.setCell ⟨r, 0, none⟩ (.string ⟨s'.toArray⟩)) r s' := heap_setCell_same w r 0 _ _ _ h
theorem grown_set (w : World) (r : Nat) (v : Value) : w.grownBy (w.setCell ⟨r, 0, none⟩ v) (some r) :=
  ⟨rfl, rfl, rfl, by simp, fun k _ hne => heap_setCell_other w _ k v (fun h => hne (by rw [h]))⟩
/-- a call on the reader: what it hands back, what is left, nothing else changed but memory made. -/
def RdS (v : Value) (r : Nat) (s' : List UInt8) (w : World) (e : Ending) (w' : World) : Prop := e = .returned v ∧ Rdr w' r s' ∧ w.grownBy w' (some r)

theorem trimLeft_any (s : List UInt8) (w : World) : Calls Tryd.prog 64 #[.string ⟨s.toArray⟩, .string ⟨#[32, 9]⟩] w (Ret (.string ⟨(whiteS s).toArray⟩) w) :=
  Any.strings_TrimLeft_laid Tryd.lay161 (by kernel_rfl) ⟨s.toArray⟩ ⟨#[32, 9]⟩ w (by decide) (ascii_of_all (by decide))

set_option maxHeartbeats 400000 in
set_option maxRecDepth 100000 in
set_option linter.unusedSimpArgs false in
theorem white_any (r : Nat) (s : List UInt8) (w : World) (h : Rdr w r s) :
    Calls Tryd.prog 45 #[.pointer (some ⟨r, 0, none⟩)] w (RdS (.tuple #[]) r (whiteS s) w) := by
  have H := Lib.hid h
  have hc := h.cell
  clear h
  go_enter Tryd.func45, Tryd.ntmps45
  go_wp2_with fail
  refine (trimLeft_any s w).mono ?_
  rintro e w1 ⟨rfl, hb⟩
  have H1 := Lib.hid (H.out.below hb H.out.lt)
  have hc1 := H1.out.cell
  have hf1 := H1.out.frozen
  go_wp2
  go_end0
  exact ⟨rfl, H1.out.set, grown_trans (Below.toGrown hb _) (grown_set _ _ _)⟩
theorem cutPrefix_any (s p : List UInt8) (w : World) : Calls Tryd.prog 49 #[.string ⟨s.toArray⟩, .string ⟨p.toArray⟩] w (Same0 (.tuple #[.string ⟨(if p.isPrefixOf s then s.drop p.length else s).toArray⟩, .bool (p.isPrefixOf s)]) w) := by
  have h := Tryd.strings_CutPrefix ⟨s.toArray⟩ ⟨p.toArray⟩ w
  refine h.mono ?_
  rintro e w1 ⟨rfl, rfl⟩
  exact ⟨rfl, rfl⟩
set_option maxHeartbeats 400000 in
set_option maxRecDepth 100000 in
set_option linter.unusedSimpArgs false in
theorem eat_any (r : Nat) (word s : List UInt8) (w : World) (h : Rdr w r s) :
    Calls Tryd.prog 46 #[.pointer (some ⟨r, 0, none⟩), .string ⟨word.toArray⟩] w (RdS (.bool (eatB word s)) r (eatR word s) w) := by
  have H := Lib.hid h
  have HR := Lib.hid (show eatR word s = (if eatB word s then (whiteS s).drop word.length else whiteS s) from rfl)
  have HB := Lib.hid (show word.isPrefixOf (whiteS s) = eatB word s from rfl)
  generalize eatR word s = R at HR
  generalize eatB word s = b at HB HR
  clear h
  go_enter Tryd.func46, Tryd.ntmps46
  go_wp2_with fail
  refine (white_any r s w H.out).mono ?_
  rintro e w1 ⟨rfl, h1, hg1⟩
  have H1 := Lib.hid h1
  have hc1 := h1.cell
  have hf1 := h1.frozen
  clear h1
  go_wp2_with fail
  refine (cutPrefix_any _ _ _).mono ?_
  rw [HB.out]
  rintro e w2 ⟨rfl, rfl⟩
  cases b
  · obtain rfl : R = whiteS s := HR.out
    go_wp2
    go_ret
    exact ⟨rfl, H1.out, hg1⟩
  · obtain rfl : R = (whiteS s).drop word.length := HR.out
    go_wp2
    go_ret
    exact ⟨rfl, H1.out.set, grown_trans hg1 (grown_set _ _ _)⟩
end YthfdhanhkanhhaaDoor
end Go.Proofs
