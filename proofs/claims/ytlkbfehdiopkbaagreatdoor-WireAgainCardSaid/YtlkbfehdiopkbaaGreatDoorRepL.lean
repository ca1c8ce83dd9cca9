/-
  For the walk of reply.Read: a text's lines and their lengths; blocks of five cells; results behind a cell. No condition.
-/
import Derived.Test.YtlkbfehdiopkbaaGreatDoorRepK
import Derived.Laws.ResultCell
namespace Go.Proofs.YtlkbfehdiopkbaaGreatDoor
open Go.RowKit

theorem split_ne (s sep : List UInt8) : Lib.split s sep ≠ [] := by
  unfold Lib.split
  cases Lib.count s sep with
  | zero => simp [Lib.splitK]
  | succ k =>
    unfold Lib.splitK
    split <;> simp
def lineSum (ls : List (List UInt8)) : Nat := (ls.map fun l => l.length + 2).sum
theorem stepsL_cons (l : List UInt8) (ls : List (List UInt8)) (hs : List HdrT) (n : Nat) (cl : Bool) : stepsL (l :: ls) hs n cl = match stepL l hs n cl with
    | none => none
    | some (hs', n', cl') => stepsL ls hs' n' cl' := rfl
theorem lineSum_cons (l : List UInt8) (ls : List (List UInt8)) : lineSum (l :: ls) = l.length + 2 + lineSum ls := by
  unfold lineSum
  rw [List.map_cons, List.sum_cons]
theorem splitK_sum (a b : UInt8) : ∀ (k : Nat) (s : List UInt8), lineSum (Lib.splitK [a, b] 0 k s) ≤ s.length + 2
  | 0, s => by simp [Lib.splitK, lineSum]
  | k + 1, s => by
    unfold Lib.splitK
    by_cases h : (Lib.index s [a, b] == -1) = true
    · rw [if_pos h]; simp [lineSum]
    · rw [if_neg h, lineSum_cons]
      have hc := index_cut [a, b] s
      rcases hcut : cutS [a, b] s with _ | ⟨p, q⟩
      · rw [hcut] at hc
        simp only at hc
        rw [hc] at h
        exact absurd rfl h
      · rw [hcut] at hc
        simp only at hc
        obtain ⟨h1, h2⟩ := hc
        have ih := splitK_sum a b k (s.drop ((Lib.index s [a, b]).toNat + [a, b].length))
        have hl := congrArg List.length h2
        simp only [List.length_append, List.length_cons, List.length_nil] at hl
        rw [h1, Int.toNat_natCast] at ih ⊢
        simp only [List.length_drop, List.length_cons, List.length_nil, List.length_take] at ih ⊢
        omega
theorem split_sum (s : List UInt8) (a b : UInt8) : lineSum (Lib.split s [a, b]) ≤ s.length + 2 := splitK_sum a b _ s
theorem lineSum_mem {l : List UInt8} : ∀ {ls : List (List UInt8)}, l ∈ ls → l.length + 2 ≤ lineSum ls
  | [], h => by cases h
  | x :: ls, h => by
    rw [lineSum_cons]
    rcases List.mem_cons.1 h with rfl | h
    · omega
    · have := lineSum_mem h; omega
theorem lineSum_len : ∀ (ls : List (List UInt8)), 2 * ls.length ≤ lineSum ls
  | [] => Nat.zero_le _
  | x :: ls => by
    rw [lineSum_cons, List.length_cons]
    have := lineSum_len ls
    omega
theorem cut_len {sep s a b : List UInt8} (h : cutS sep s = some (a, b)) : s = a ++ (sep ++ b) := by
  have := index_cut sep s
  rw [h] at this
  exact this.2
/-- the header of a line, as the form has it. -/
theorem hdrF_cut {l n v : List UInt8} (h : cutS [58, 32] l = some (n, v)) : (hdrF ⟨n, v⟩).length = l.length + 2 := by
  have := congrArg List.length (cut_len h)
  unfold hdrF
  simp only [List.length_append, List.length_cons, List.length_nil, crlf] at this ⊢
  omega

/-! five cells -/
theorem set5 {w : World} {b : Nat} {x0 x1 x2 x3 x4 : Value} (y0 y1 y2 y3 y4 : Value) {t : TypeId} (h : w.heap[b]? = some (.cells #[x0, x1, x2, x3, x4] t (0, 0))) :
    (((((w.setCell ⟨b, 0, none⟩ y0).setCell ⟨b, 1, none⟩ y1).setCell ⟨b, 2, none⟩ y2).setCell ⟨b, 3, none⟩ y3).setCell ⟨b, 4, none⟩ y4).heap[b]? = some (.cells #[y0, y1, y2, y3, y4] t (0, 0)) :=
  heap_setCell_same _ b 4 _ _ y4 (heap_setCell_same _ b 3 _ _ y3 (heap_setCell_same _ b 2 _ _ y2 (heap_setCell_same _ b 1 _ _ y1 (heap_setCell_same w b 0 _ _ y0 h))))
theorem free5 {w : World} {b : Nat} {xs : Array Value} {t : TypeId} (h : w.heap[b]? = some (.cells xs t (0, 0))) (k : Nat) : w.frozen? ⟨b, k, none⟩ = false := by
  unfold World.frozen?
  simp [h]
theorem at5 {w : World} {b : Nat} {xs : Array Value} {t : TypeId} (h : w.heap[b]? = some (.cells xs t (0, 0))) (k : Nat) : w.cell? ⟨b, k, none⟩ = xs[k]? := cell_of_row _ _ _ _ _ _ h
/-- what a store of five cells asks. -/
theorem set5_cells {w : World} {b : Nat} {x0 x1 x2 x3 x4 : Value} (y0 y1 y2 y3 : Value) {t : TypeId} (h : w.heap[b]? = some (.cells #[x0, x1, x2, x3, x4] t (0, 0))) :
    w.cell? ⟨b, 0, none⟩ = some x0 ∧ (w.setCell ⟨b, 0, none⟩ y0).cell? ⟨b, 1, none⟩ = some x1 ∧ ((w.setCell ⟨b, 0, none⟩ y0).setCell ⟨b, 1, none⟩ y1).cell? ⟨b, 2, none⟩ = some x2 ∧
      (((w.setCell ⟨b, 0, none⟩ y0).setCell ⟨b, 1, none⟩ y1).setCell ⟨b, 2, none⟩ y2).cell? ⟨b, 3, none⟩ = some x3 ∧
      ((((w.setCell ⟨b, 0, none⟩ y0).setCell ⟨b, 1, none⟩ y1).setCell ⟨b, 2, none⟩ y2).setCell ⟨b, 3, none⟩ y3).cell? ⟨b, 4, none⟩ = some x4 ∧
      w.frozen? ⟨b, 0, none⟩ = false ∧ w.frozen? ⟨b, 1, none⟩ = false ∧ w.frozen? ⟨b, 2, none⟩ = false ∧ w.frozen? ⟨b, 3, none⟩ = false ∧ w.frozen? ⟨b, 4, none⟩ = false := by
  have h1 := heap_setCell_same w b 0 _ _ y0 h
  have h2 := heap_setCell_same _ b 1 _ _ y1 h1
  have h3 := heap_setCell_same _ b 2 _ _ y2 h2
  have h4 := heap_setCell_same _ b 3 _ _ y3 h3
  exact ⟨at5 h 0, at5 h1 1, at5 h2 2, at5 h3 3, at5 h4 4, free5 h 0, free5 h 1, free5 h 2, free5 h 3, free5 h 4⟩
theorem set5_below {B : Nat} {w w' : World} {b : Nat} (h : Below B w w') (hb : B ≤ b) (y0 y1 y2 y3 y4 : Value) :
    Below B w (((((w'.setCell ⟨b, 0, none⟩ y0).setCell ⟨b, 1, none⟩ y1).setCell ⟨b, 2, none⟩ y2).setCell ⟨b, 3, none⟩ y3).setCell ⟨b, 4, none⟩ y4) :=
  ((((h.setCell hb y0).setCell hb y1).setCell hb y2).setCell hb y3).setCell hb y4
theorem results_ctt {P : Program} {fn : Func} {p u v : Tmp} {ty : TypeId} (h : fn.results = #[.cell p ty, .tmp u, .tmp v]) (tmps : Array Value) (w : World) (g : Nat) (t : TypeId) (cs : Array Value) (fr : Nat × Nat) (d : TypeDesc)
    (hp : tmps.getD p undef = .pointer (some ⟨g, 0, none⟩)) (hg : w.heap[g]? = some (.cells cs t fr))
    (hu : P.underlying ty = some d) (hd : (match d with | .struct _ | .array _ _ => true | _ => false) = true) (hi : (P.info? ty).map (·.size) = some cs.size) :
    (results fn tmps).run P w = .ok (.tuple #[.agg cs, tmps.getD u undef, tmps.getD v undef]) w := by
  have h1 : (results fn tmps).run P w = ((asAddr (tmps.getD p undef)).run P w).andThen fun a w₁ => ((loadVar ty a).run P w₁).andThen fun x w₂ => .ok (.tuple #[x, tmps.getD u undef, tmps.getD v undef]) w₂ := by
    simp only [results, h]
    simp [Sem.run_bind, Result.andThen]
  rw [h1, hp]
  simp [asAddr, run_loadVar_row w g t ty cs fr d hg hu hd hi]

def zeroV : Value := .agg #[.int .i64 0, .slice none 0 0, .string ⟨#[]⟩, .bool false, .bool false]
/-- what Read hands back. -/
def ReadP (o : Option (RespT × Nat)) (w : World) (e : Ending) (w' : World) : Prop :=
  Below w.heap.size w w' ∧ match o with
    | none => e = .returned (.tuple #[zeroV, .int .i64 0, .bool false])
    | some (r, k) => ∃ hv, e = .returned (.tuple #[respV r hv, .int .i64 k, .bool true]) ∧ Hdrs w' hv r.hdrs
/-- the same, and the headers' row is one that the call itself made. -/
def ReadF (o : Option (RespT × Nat)) (w : World) (e : Ending) (w' : World) : Prop :=
  Below w.heap.size w w' ∧ match o with
    | none => e = .returned (.tuple #[zeroV, .int .i64 0, .bool false])
    | some (r, k) => ∃ hv, e = .returned (.tuple #[respV r hv, .int .i64 k, .bool true]) ∧ Hdrs w' hv r.hdrs ∧ ∀ b, hv.ownBlock = some b → w.heap.size ≤ b
theorem readF_no {o : Option (RespT × Nat)} {w w' : World} (h : o = none) (hb : Below w.heap.size w w') : ReadF o w (.returned (.tuple #[zeroV, .int .i64 0, .bool false])) w' := by
  subst h
  exact ⟨hb, rfl⟩
theorem readF_yes {o : Option (RespT × Nat)} {w w' : World} {r : RespT} {k : Nat} {hv : Value} (h : o = some (r, k)) (hb : Below w.heap.size w w') (hh : Hdrs w' hv r.hdrs) (hf : ∀ b, hv.ownBlock = some b → w.heap.size ≤ b) : ReadF o w (.returned (.tuple #[respV r hv, .int .i64 k, .bool true])) w' := by
  subst h
  exact ⟨hb, hv, rfl, hh, hf⟩
theorem readF_P {o : Option (RespT × Nat)} {w w' : World} {e : Ending} (h : ReadF o w e w') : ReadP o w e w' := by
  obtain ⟨hb, h⟩ := h
  rcases o with _ | ⟨r, k⟩
  · exact ⟨hb, h⟩
  · obtain ⟨hv, he, hh, -⟩ := h
    exact ⟨hb, hv, he, hh⟩

theorem ownT_shape {e : TypeId} {n B : Nat} {rows : List (List Value)} {v : Value} {w : World} (h : OwnT e n B rows v w) : ∃ A cap, v = .slice A rows.length cap := by
  rcases h.1.2 with ⟨hv, h0⟩ | ⟨g, cap, cur, hv, hb, hg, hn, hm, hs, ht⟩
  · exact ⟨none, 0, by rw [hv, h0]⟩
  · exact ⟨_, cap, hv⟩
/-! the response that Read fills -/
def hcells (h : HdrT) : List Value := [.string ⟨h.name.toArray⟩, .string ⟨h.value.toArray⟩]
/-- block q holds the response as it is filled; behind w2 nothing old is touched. -/
structure Filled (w2 wr : World) (q : Nat) (st : Int) (head : Bool) (hs : List HdrT) (cl : Bool) (hv : Value) : Prop where
  below : Below q w2 wr
  cells : wr.heap[q]? = some (.cells #[.int .i64 st, hv, .string ⟨#[]⟩, .bool head, .bool cl] 49 (0, 0))
  own : OwnT 38 2 (q + 1) (hs.map hcells) hv wr
theorem Filled.lt {w2 wr : World} {q : Nat} {st : Int} {head cl : Bool} {hs : List HdrT} {hv : Value} (h : Filled w2 wr q st head hs cl hv) : q < wr.heap.size := (Array.getElem?_eq_some_iff.1 h.cells).1
theorem Filled.keep {w2 wr w' : World} {q : Nat} {st : Int} {head cl : Bool} {hs : List HdrT} {hv : Value} (h : Filled w2 wr q st head hs cl hv) (hb : Below wr.heap.size wr w') : Filled w2 w' q st head hs cl hv :=
  ⟨h.below.trans (hb.mono (Nat.le_of_lt h.lt)), (hb.block q h.lt).trans h.cells, h.own.below hb⟩
theorem grown_set1 (w : World) (q k : Nat) (v : Value) : w.grownBy (w.setCell ⟨q, k, none⟩ v) (some q) :=
  ⟨rfl, rfl, rfl, by simp, fun j _ hn => Below.heap_setCell w ⟨q, k, none⟩ v j (fun e => hn (by rw [e]))⟩
theorem own_ne {w : World} {q : Nat} {e : TypeId} {n : Nat} {rows : List (List Value)} {hv : Value} (h : OwnT e n (q + 1) rows hv w) : ∀ b, hv.ownBlock = some b → some b ≠ some q := fun b hb e => by
  have := (h.lt b hb).1
  injection e with e
  omega
theorem Filled.close {w2 wr : World} {q : Nat} {st : Int} {head cl : Bool} {hs : List HdrT} {hv : Value} (h : Filled w2 wr q st head hs cl hv) : Filled w2 (wr.setCell ⟨q, 4, none⟩ (.bool true)) q st head hs true hv :=
  ⟨h.below.setCell (Nat.le_refl _) _, heap_setCell_same _ q 4 _ _ _ h.cells, h.own.grown (grown_set1 _ _ _ _) (own_ne h.own)⟩
theorem Filled.app {w2 wr w' : World} {q : Nat} {st : Int} {head cl : Bool} {hs : List HdrT} {hv v' : Value} (h : Filled w2 wr q st head hs cl hv) (x : HdrT)
    (ho : OwnT 38 2 (q + 1) (hs.map hcells ++ [hcells x]) v' w') (hb : Below (q + 1) wr w') : Filled w2 (w'.setCell ⟨q, 1, none⟩ v') q st head (hs ++ [x]) cl v' := by
  have hq : w'.heap[q]? = some (.cells #[.int .i64 st, hv, .string ⟨#[]⟩, .bool head, .bool cl] 49 (0, 0)) := (hb.block q (Nat.lt_succ_self q)).trans h.cells
  refine ⟨(h.below.trans (hb.mono (Nat.le_succ q))).setCell (Nat.le_refl _) _, heap_setCell_same _ q 1 _ _ _ hq, ?_⟩
  rw [List.map_append]
  exact ho.grown (grown_set1 _ _ _ _) (own_ne ho)
theorem Filled.hdrs {w2 wr : World} {q : Nat} {st : Int} {head cl : Bool} {hs : List HdrT} {hv : Value} (h : Filled w2 wr q st head hs cl hv) : Hdrs wr hv hs :=
  OwnT.tab h.own (by rw [List.length_map]) (fun j x r hx hr => by
    rw [List.getElem?_map, hx] at hr
    injection hr with hr
    exact hr.symm)
theorem hcells_one (x : HdrT) : ∀ u ∈ (#[Value.string ⟨x.name.toArray⟩, Value.string ⟨x.value.toArray⟩] : Array Value).toList, u.oneCell' = true := by
  intro u hu
  have : u = .string ⟨x.name.toArray⟩ ∨ u = .string ⟨x.value.toArray⟩ := by simpa using hu
  rcases this with h | h <;> rw [h] <;> rfl
theorem flat_app (hs : List HdrT) (x : HdrT) : ((hs ++ [x]).flatMap hdrF).length = (hs.flatMap hdrF).length + (hdrF x).length := by
  rw [List.flatMap_append, List.length_append]
  simp
end Go.Proofs.YtlkbfehdiopkbaaGreatDoor
