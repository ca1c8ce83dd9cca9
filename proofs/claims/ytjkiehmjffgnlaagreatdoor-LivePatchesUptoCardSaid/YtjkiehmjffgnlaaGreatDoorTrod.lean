import Derived.Test.YtjkiehmjffgnlaaGreatDoorTab
import Derived.ProofKit
import Derived.OpenShut
import Derived.ShutString
import Derived.SliceStrings
import Derived.Deep.Slices
import Derived.Deep.Fields
import Derived.Lib.SmallJoins
namespace Go.Proofs.YtjkiehmjffgnlaaGreatDoor
open Go.ChangeShapes Go.WideShapes Go.ChangeAt Go.RowKit Go.Deep

section
variable {H : Type} {enc : TypeId × Value → H} {P : Program} {w : World} {base : Nat} {spare : Nat → Bool} {held : Bool}
theorem open_slice_fields {t e : TypeId} {fs : Array Field} {fuel : Nat} {cs : List Value} {x : DataW H × List MemPlace} (ht : P.underlying t = some (.slice e)) (he : P.underlying e = some (.struct fs))
    (hone : oneCellFields P fs = true) (hC : P.cellsOf e = fs.size) (h : DataW.trod enc P w base spare held fuel t cs = some x) :
    (cs = [.slice none 0 0] ∧ x = (.nil, [])) ∨
    ∃ (a : Addr) (len cap m : Nat) (D : Nat → DataW H) (Pl : Nat → List MemPlace), cs = [.slice (some a) len cap] ∧ base ≤ a.block ∧ len ≤ cap ∧ cap ≤ maxLen ∧ m = (if spare a.block then cap else len) ∧
      x = (.slice ((List.range len).map D) ((List.range (m - len)).map fun j => D (len + j)), MemPlace.row a (m * fs.size) ++ (List.range m).flatMap Pl) ∧
      ∀ i, i < m → ∃ (ys : List (DataW H × List MemPlace)) (n : Nat), D i = .agg (ys.map (·.1)) ∧ Pl i = ys.flatMap (·.2) ∧ ys.length = fs.size ∧
        ∀ (j : Nat) (f : Field), fs[j]? = some f → ∃ (v : Value) (y : DataW H × List MemPlace), w.cell? (a.add (i * fs.size + j)) = some v ∧ ys[j]? = some y ∧ DataW.trod enc P w base spare held n f.type [v] = some y := by
  rcases open_slice ht h with h0 | ⟨a, len, cap, m, n, D, Pl, hcs, hb, hl, hm, hmm, hx, hi⟩
  · exact .inl h0
  · refine .inr ⟨a, len, cap, m, D, Pl, hcs, hb, hl, hm, hmm, by rw [hC] at hx; exact hx, fun i him => ?_⟩
    obtain ⟨cs', hc, ht'⟩ := hi i him
    rw [hC] at hc
    obtain ⟨ys, n', hn', hy, hlen, hyl, hf⟩ := DataW.trod_struct he ht'
    obtain ⟨_, hcl, hat⟩ := World.cells?_some hc
    simp only [Prod.mk.injEq] at hy
    refine ⟨ys, n', hy.1, hy.2, hyl, fun j f hj => ?_⟩
    obtain ⟨ho, hk⟩ := hone_of hone j f hj
    have hjl : j < fs.size := (Array.getElem?_eq_some_iff.1 hj).1
    have hcell := hat j hjl
    have hv : cs'[j]? = some (cs'[j]'(by omega)) := List.getElem?_eq_getElem (by omega)
    have h1 := hf j f hj
    rw [ho, hk] at h1
    have hone' : (cs'.drop j).take 1 = [cs'[j]'(by omega)] := by
      rw [List.drop_eq_getElem_cons (by omega)]
      rfl
    rw [hone'] at h1
    have hys : ys[j]? = some (ys[j]'(by omega)) := List.getElem?_eq_getElem (by omega)
    refine ⟨_, _, ?_, hys, h1.trans hys⟩
    rw [← Go.Deep.add_add, hcell, hv]
end

theorem exists_list {α : Type} (p : Nat → α → Prop) : ∀ (n : Nat), (∀ i, i < n → ∃ x, p i x) → ∃ xs : List α, xs.length = n ∧ ∀ (i : Nat) x, xs[i]? = some x → p i x
  | 0, _ => ⟨[], rfl, fun i x h => by simp at h⟩
  | n + 1, h => by
    obtain ⟨xs, hl, hp⟩ := exists_list p n (fun i hi => h i (by omega))
    obtain ⟨x, hx⟩ := h n (by omega)
    refine ⟨xs ++ [x], by simp [hl], fun i y hy => ?_⟩
    by_cases hi : i < xs.length
    · rw [List.getElem?_append_left hi] at hy
      exact hp i y hy
    · rw [List.getElem?_append_right (by omega)] at hy
      obtain ⟨k, hk⟩ : ∃ k, i - xs.length = k := ⟨_, rfl⟩
      rw [hk] at hy
      cases k with
      | succ k => simp at hy
      | zero =>
        simp at hy
        subst hy
        have : i = n := by omega
        subst this
        exact hx
theorem bulk_range {H : Type} {α : Type} (D : Nat → DataW H) (m : α → Nat) : ∀ (n : Nat) (xs : List α), xs.length = n → (∀ (i : Nat) x, xs[i]? = some x → m x + 1 ≤ Rows.uptoBulk (D i)) → (xs.map m).sum + xs.length ≤ Rows.uptoBulkAll ((List.range n).map D) := by
  intro n
  induction n generalizing D with
  | zero =>
    intro xs hl _
    have : xs = [] := List.eq_nil_of_length_eq_zero hl
    subst this
    simp
  | succ n ih =>
    intro xs hl h
    cases xs with
    | nil => simp at hl
    | cons x xs =>
      have h0 := h 0 x rfl
      have := ih (fun i => D (i + 1)) xs (by simpa using hl) (fun i y hy => h (i + 1) y (by simpa using hy))
      rw [List.range_succ_eq_map]
      simp only [Rows.uptoBulkAll, List.map_cons, List.sum_cons, List.length_cons, List.map_map]
      have e : ((List.range n).map (D ∘ Nat.succ)) = (List.range n).map (fun i => D (i + 1)) := rfl
      rw [e]
      omega
section
variable {H : Type} {enc : TypeId × Value → H}
theorem addr_plain {w : World} {a : Addr} {v : Value} (h : w.cell? a = some v) : a.spot = none := by
  obtain ⟨b, o, sp⟩ := a
  cases sp with
  | none => rfl
  | some k =>
    unfold World.cell? at h
    revert h
    simp only
    split <;> simp
theorem tab_of_trod {α : Type} {W : World} {t e : TypeId} {fs : Array Field} {fuel : Nat} {v : Value} {x : DataW H × List MemPlace} (R : World → List Value → α → Prop) (m : α → Nat) (ht : Tryz.prog.underlying t = some (.slice e)) (he : Tryz.prog.underlying e = some (.struct fs))
    (hone : oneCellFields Tryz.prog fs = true) (hC : Tryz.prog.cellsOf e = fs.size) (hpos : 0 < fs.size)
    (hel : ∀ (cs : List Value) (ys : List (DataW H × List MemPlace)) (k : Nat), cs.length = fs.size → ys.length = fs.size →
      (∀ (j : Nat) (f : Field), fs[j]? = some f → ∃ v y, cs[j]? = some v ∧ ys[j]? = some y ∧ DataW.trod enc Tryz.prog W 0 (fun _ => true) true k f.type [v] = some y) → ∃ x, R W cs x ∧ m x + 1 ≤ Rows.uptoBulk (.agg (ys.map (·.1))))
    (h : DataW.trod enc Tryz.prog W 0 (fun _ => true) true fuel t [v] = some x) : ∃ xs : List α, Tab fs.size R W v xs ∧ (xs.map m).sum + xs.length ≤ Rows.uptoBulk x.1 := by
  rcases open_slice_fields ht he hone hC h with ⟨hv, rfl⟩ | ⟨a, len, cap, M, D, Pl, hv, _, hl, hm, hM, rfl, hi⟩
  · injection hv with hv
    subst hv
    exact ⟨[], Tab.nil _ _ _, by simp⟩
  · injection hv with hv
    subst hv
    simp only [if_true] at hM
    subst hM
    obtain ⟨xs, hxl, hxs⟩ := exists_list (fun i x => R W ((List.range fs.size).map fun j => (W.cell? (a.add (i * fs.size + j))).getD undef) x ∧ m x + 1 ≤ Rows.uptoBulk (D i)) len (fun i hil => by
      obtain ⟨ys, n, hD, _, hyl, hf⟩ := hi i (by omega)
      obtain ⟨x, hx, hmx⟩ := hel ((List.range fs.size).map fun j => (W.cell? (a.add (i * fs.size + j))).getD undef) ys n (by simp) hyl (fun j f hj => by
        obtain ⟨v, y, hc, hy, htr⟩ := hf j f hj
        have hjl : j < fs.size := (Array.getElem?_eq_some_iff.1 hj).1
        exact ⟨v, y, by rw [List.getElem?_map, List.getElem?_range hjl]; simp [hc], hy, htr⟩)
      exact ⟨x, hx, by rw [hD]; exact hmx⟩)
    refine ⟨xs, ⟨some a, _, by rw [hxl], by omega, hm, fun j x hj => ?_⟩, ?_⟩
    · have hjl : j < len := by rw [← hxl]; exact (List.getElem?_eq_some_iff.1 hj).1
      obtain ⟨ys, n, hD, _, hyl, hf⟩ := hi j (by omega)
      have hcell : ∀ k, k < fs.size → ∃ v, W.cell? (a.add (j * fs.size + k)) = some v := fun k hk => by
        obtain ⟨v, y, hc, _⟩ := hf k _ (Array.getElem?_eq_getElem hk)
        exact ⟨v, hc⟩
      have hsp : a.spot = none := by
        obtain ⟨ys, n, hD, _, hyl, hf⟩ := hi 0 (by omega)
        obtain ⟨v, y, hc, _⟩ := hf 0 _ (Array.getElem?_eq_getElem hpos)
        rw [show a.add (0 * fs.size + 0) = a by rw [Nat.zero_mul]; rfl] at hc
        exact addr_plain hc
      obtain ⟨v0, hv0⟩ := hcell 0 hpos
      have hlt := World.block_lt_of_cell? W _ hv0
      obtain ⟨b, o, sp⟩ := a
      simp only at hsp
      subst hsp
      rw [add_eq] at hlt
      refine ⟨b, o, rfl, hlt, _, ?_, fun k u hk => ?_, (hxs j x hj).1⟩
      · simp
      · have hkl : k < fs.size := by have := (List.getElem?_eq_some_iff.1 hk).1; simpa using this
        obtain ⟨v, hv⟩ := hcell k hkl
        rw [List.getElem?_map, List.getElem?_range hkl] at hk
        rw [add_eq] at hv
        simp only [Option.map_some, add_eq, hv, Option.getD_some, Option.some.injEq] at hk
        rw [hv, hk]
    · have := bulk_range D m len xs hxl (fun i x hx => (hxs i x hx).2)
      simp only [Rows.uptoBulk]
      omega
set_option maxRecDepth 100000 in
theorem trod_one {W : World} {t e : TypeId} {v : Value} {d : DataW H} {ps : List MemPlace} (hu : Tryz.prog.underlying t = some (.slice e)) (hv : Value.okWide Tryz.prog W .any 0 t v)
    (h : DataW.Trod enc Tryz.prog W 0 (fun _ => true) true t v d ps) : ∃ fuel, DataW.trod enc Tryz.prog W 0 (fun _ => true) true fuel t [v] = some (d, ps) := by
  obtain ⟨a0, len, cap, rfl⟩ := okWide_slice hu hv
  obtain ⟨fuel, hf⟩ := h
  exact ⟨fuel, by simpa [Value.cells] using hf⟩
theorem trod_behind {W W' : World} {t : TypeId} {v : Value} {d : DataW H} {ps : List MemPlace} (hlo : laidOutB Tryz.prog = true) (hr : Tryz.prog.readableRec t = true) (hrow : t < Tryz.prog.types.size)
    (h : DataW.Trod enc Tryz.prog W 0 (fun _ => true) true t v d ps) (hb : Below W.heap.size W W') (hlt : ∀ x ∈ ps, x.block < W.heap.size) :
    DataW.Trod enc Tryz.prog W' 0 (fun b => decide (b < W.heap.size)) true t v d ps := Below.trod hlo hr hrow h hb hlt
end
end Go.Proofs.YtjkiehmjffgnlaaGreatDoor
