/-
  From a law's walk of layer 16 to its row: arguments that are groups, facts and conditions; how much they are. No condition.
-/
import Derived.Test.YthfdhanhkanhhaaDoorRowKit
import Derived.Test.YthfdhanhkanhhaaDoorCondC
import Derived.Deep.Slices
import Derived.Deep.Fields
import Derived.Lib.SmallJoins
namespace Go.Proofs.YthfdhanhkanhhaaDoor
open Go.ChangeShapes Go.WideShapes Go.ChangeAt Go.RowKit Go.Deep

section
variable {H : Type} {enc : TypeId × Value → H} {P : Program} {w : World} {base : Nat} {spare : Nat → Bool} {held : Bool}
theorem open_slice_fields {t e : TypeId} {fs : Array Field} {fuel : Nat} {cs : List Value} {x : DataW H × List MemPlace} (ht : P.underlying t = some (.slice e)) (he : P.underlying e = some (.struct fs))
    (hone : oneCellFields P fs = true) (hC : P.cellsOf e = fs.size) (h : DataW.trod enc P w base spare held fuel t cs = some x) :
    (cs = [.slice none 0 0] ∧ x = (.nil, [])) ∨
    ∃ (a : Addr) (len cap m : Nat) (D : Nat → DataW H) (Pl : Nat → List MemPlace), cs = [.slice (some a) len cap] ∧ base ≤ a.block ∧ len ≤ cap ∧ cap ≤ maxLen ∧ m = (if spare a.block then cap else len) ∧
      x = (.slice ((List.range len).map D) ((List.range (m - len)).map fun j => D (len + j)), MemPlace.row a (m * fs.size) ++ (List.range m).flatMap Pl) ∧
      ∀ i, i < m → ∃ (ys : List (DataW H × List MemPlace)) (n : Nat), D i = .agg (ys.map (·.1)) ∧ Pl i = ys.flatMap (·.2) ∧ ys.length = fs.size ∧
        ∀ (j : Nat) (f : Field), fs[j]? = some f → ∃ (v : Value) (y : DataW H × List MemPlace), w.cell? (a.add (i * fs.size + j)) = some v ∧ ys[j]? = some y ∧ DataW.trod enc P w base spare held n f.type [v] = some y := by
  rcases open_slice ht h with h0 | ⟨a, len, cap, m, n, D, Pl, hcs, hb, hl, hm, hmm, hx, hi⟩
  · exact .inl h0
  · refine .inr ⟨a, len, cap, m, D, Pl, hcs, hb, hl, hm, hmm, by rw [hC] at hx; exact hx, fun i him => ?_⟩
    obtain ⟨cs', hc, ht'⟩ := hi i him
    rw [hC] at hc
    obtain ⟨ys, n', hn', hy, hlen, hyl, hf⟩ := DataW.trod_struct he ht'
    obtain ⟨_, hcl, hat⟩ := World.cells?_some hc
    simp only [Prod.mk.injEq] at hy
    refine ⟨ys, n', hy.1, hy.2, hyl, fun j f hj => ?_⟩
    obtain ⟨ho, hk⟩ := hone_of hone j f hj
    have hjl : j < fs.size := (Array.getElem?_eq_some_iff.1 hj).1
    have hcell := hat j hjl
    have hv : cs'[j]? = some (cs'[j]'(by omega)) := List.getElem?_eq_getElem (by omega)
    have h1 := hf j f hj
    rw [ho, hk] at h1
    have hone' : (cs'.drop j).take 1 = [cs'[j]'(by omega)] := by
      rw [List.drop_eq_getElem_cons (by omega)]
      rfl
    rw [hone'] at h1
    have hys : ys[j]? = some (ys[j]'(by omega)) := List.getElem?_eq_getElem (by omega)
    refine ⟨_, _, ?_, hys, h1.trans hys⟩
    rw [← Go.Deep.add_add, hcell, hv]
end

theorem exists_list {α : Type} (p : Nat → α → Prop) : ∀ (n : Nat), (∀ i, i < n → ∃ x, p i x) → ∃ xs : List α, xs.length = n ∧ ∀ (i : Nat) x, xs[i]? = some x → p i x
  | 0, _ => ⟨[], rfl, fun i x h => by simp at h⟩
  | n + 1, h => by
    obtain ⟨xs, hl, hp⟩ := exists_list p n (fun i hi => h i (by omega))
    obtain ⟨x, hx⟩ := h n (by omega)
    refine ⟨xs ++ [x], by simp [hl], fun i y hy => ?_⟩
    by_cases hi : i < xs.length
    · rw [List.getElem?_append_left hi] at hy
      exact hp i y hy
    · rw [List.getElem?_append_right (by omega)] at hy
      obtain ⟨k, hk⟩ : ∃ k, i - xs.length = k := ⟨_, rfl⟩
      rw [hk] at hy
      cases k with
      | succ k => simp at hy
      | zero =>
        simp at hy
        subst hy
        have : i = n := by omega
        subst this
        exact hx
theorem bulk_range {H : Type} {α : Type} (D : Nat → DataW H) (m : α → Nat) : ∀ (n : Nat) (xs : List α), xs.length = n → (∀ (i : Nat) x, xs[i]? = some x → m x + 1 ≤ Rows.uptoBulk (D i)) → (xs.map m).sum + xs.length ≤ Rows.uptoBulkAll ((List.range n).map D) := by
  intro n
  induction n generalizing D with
  | zero =>
    intro xs hl _
    have : xs = [] := List.eq_nil_of_length_eq_zero hl
    subst this
    simp
  | succ n ih =>
    intro xs hl h
    cases xs with
    | nil => simp at hl
    | cons x xs =>
      have h0 := h 0 x rfl
      have := ih (fun i => D (i + 1)) xs (by simpa using hl) (fun i y hy => h (i + 1) y (by simpa using hy))
      rw [List.range_succ_eq_map]
      simp only [Rows.uptoBulkAll, List.map_cons, List.sum_cons, List.length_cons, List.map_map]
      have e : ((List.range n).map (D ∘ Nat.succ)) = (List.range n).map (fun i => D (i + 1)) := rfl
      rw [e]
      omega
section
variable {H : Type} {enc : TypeId × Value → H}
theorem addr_plain {w : World} {a : Addr} {v : Value} (h : w.cell? a = some v) : a.spot = none := by
  obtain ⟨b, o, sp⟩ := a
  cases sp with
  | none => rfl
  | some k =>
    unfold World.cell? at h
    revert h
    simp only
    split <;> simp
theorem tab_of_trod {α : Type} {W : World} {t e : TypeId} {fs : Array Field} {fuel : Nat} {v : Value} {x : DataW H × List MemPlace} (R : World → List Value → α → Prop) (m : α → Nat) (ht : Tryd.prog.underlying t = some (.slice e)) (he : Tryd.prog.underlying e = some (.struct fs))
    (hone : oneCellFields Tryd.prog fs = true) (hC : Tryd.prog.cellsOf e = fs.size) (hpos : 0 < fs.size)
    (hel : ∀ (cs : List Value) (ys : List (DataW H × List MemPlace)) (k : Nat), cs.length = fs.size → ys.length = fs.size →
      (∀ (j : Nat) (f : Field), fs[j]? = some f → ∃ v y, cs[j]? = some v ∧ ys[j]? = some y ∧ DataW.trod enc Tryd.prog W 0 (fun _ => true) true k f.type [v] = some y) → ∃ x, R W cs x ∧ m x + 1 ≤ Rows.uptoBulk (.agg (ys.map (·.1))))
    (h : DataW.trod enc Tryd.prog W 0 (fun _ => true) true fuel t [v] = some x) : ∃ xs : List α, Tab fs.size R W v xs ∧ (xs.map m).sum + xs.length ≤ Rows.uptoBulk x.1 := by
  rcases open_slice_fields ht he hone hC h with ⟨hv, rfl⟩ | ⟨a, len, cap, M, D, Pl, hv, _, hl, hm, hM, rfl, hi⟩
  · injection hv with hv
    subst hv
    exact ⟨[], Tab.nil _ _ _, by simp⟩
  · injection hv with hv
    subst hv
    simp only [if_true] at hM
    subst hM
    obtain ⟨xs, hxl, hxs⟩ := exists_list (fun i x => R W ((List.range fs.size).map fun j => (W.cell? (a.add (i * fs.size + j))).getD undef) x ∧ m x + 1 ≤ Rows.uptoBulk (D i)) len (fun i hil => by
      obtain ⟨ys, n, hD, _, hyl, hf⟩ := hi i (by omega)
      obtain ⟨x, hx, hmx⟩ := hel ((List.range fs.size).map fun j => (W.cell? (a.add (i * fs.size + j))).getD undef) ys n (by simp) hyl (fun j f hj => by
        obtain ⟨v, y, hc, hy, htr⟩ := hf j f hj
        have hjl : j < fs.size := (Array.getElem?_eq_some_iff.1 hj).1
        exact ⟨v, y, by rw [List.getElem?_map, List.getElem?_range hjl]; simp [hc], hy, htr⟩)
      exact ⟨x, hx, by rw [hD]; exact hmx⟩)
    refine ⟨xs, ⟨some a, _, by rw [hxl], by omega, hm, fun j x hj => ?_⟩, ?_⟩
    · have hjl : j < len := by rw [← hxl]; exact (List.getElem?_eq_some_iff.1 hj).1
      obtain ⟨ys, n, hD, _, hyl, hf⟩ := hi j (by omega)
      have hcell : ∀ k, k < fs.size → ∃ v, W.cell? (a.add (j * fs.size + k)) = some v := fun k hk => by
        obtain ⟨v, y, hc, _⟩ := hf k _ (Array.getElem?_eq_getElem hk)
        exact ⟨v, hc⟩
      have hsp : a.spot = none := by
        obtain ⟨ys, n, hD, _, hyl, hf⟩ := hi 0 (by omega)
        obtain ⟨v, y, hc, _⟩ := hf 0 _ (Array.getElem?_eq_getElem hpos)
        rw [show a.add (0 * fs.size + 0) = a by rw [Nat.zero_mul]; rfl] at hc
        exact addr_plain hc
      obtain ⟨v0, hv0⟩ := hcell 0 hpos
      have hlt := World.block_lt_of_cell? W _ hv0
      obtain ⟨b, o, sp⟩ := a
      simp only at hsp
      subst hsp
      rw [add_eq] at hlt
      refine ⟨b, o, rfl, hlt, _, ?_, fun k u hk => ?_, (hxs j x hj).1⟩
      · simp
      · have hkl : k < fs.size := by have := (List.getElem?_eq_some_iff.1 hk).1; simpa using this
        obtain ⟨v, hv⟩ := hcell k hkl
        rw [List.getElem?_map, List.getElem?_range hkl] at hk
        rw [add_eq] at hv
        simp only [Option.map_some, add_eq, hv, Option.getD_some, Option.some.injEq] at hk
        rw [hv, hk]
    · have := bulk_range D m len xs hxl (fun i x hx => (hxs i x hx).2)
      simp only [Rows.uptoBulk]
      omega
theorem strs_of_cells {W : World} {fuel : Nat} {v : Value} {x : DataW H × List MemPlace} (h : DataW.trod enc Tryd.prog W 0 (fun _ => true) true fuel 23 [v] = some x) : ∃ ls, Strs W v ls ∧ Fits ls := by
  have hc1 : Tryd.prog.cellsOf 9 = 1 := by kernel_rfl
  rcases open_strings Tryd.underlying23 Tryd.underlying9 hc1 h with ⟨hcs, hx⟩ | ⟨a, len, cap, ss, hcs, _, hl, hm, hz, hx, hcell, hws⟩
  · injection hcs with hcs
    subst hcs
    exact ⟨[], ⟨none, 0, rfl, Nat.le_refl _, Nat.zero_le _, fun j l hj => by simp at hj⟩, fun j l hj => by simp at hj⟩
  · injection hcs with hcs
    subst hcs
    simp only [if_true] at hz
    refine ⟨(ss.take len).map (·.data.toList), ⟨some a, cap, by simp [hz, hl], by simp; omega, hm, fun j l hj => ?_⟩, fun j l hj => ?_⟩
    · rw [List.getElem?_map, List.getElem?_take] at hj
      split at hj
      · rename_i hlt
        obtain ⟨s, hs, rfl⟩ := Option.map_eq_some_iff.1 hj
        have h0 := hcell 0 (by omega)
        have hj' := hcell j (by omega)
        have hlt0 := cell_lt h0
        have hsp := addr_plain (show W.cell? a = _ from h0)
        obtain ⟨b, o, sp⟩ := a
        simp only at hsp
        subst hsp
        refine ⟨b, o, rfl, hlt0, ?_⟩
        rw [add_eq] at hj'
        rw [hj', List.getD_eq_getElem?_getD, hs]
        simp
      · cases hj
    · rw [List.getElem?_map] at hj
      obtain ⟨s, hs, rfl⟩ := Option.map_eq_some_iff.1 hj
      have := hws s (List.mem_of_mem_take (List.mem_of_getElem? hs))
      have e : s.data.toList.length = s.size := Array.length_toList
      rw [e]; exact this
theorem read_groups : Tryd.prog.readableRec 36 = true := by kernel_rfl
theorem row_groups : 36 < Tryd.prog.types.size := of_decide_eq_true (by kernel_rfl)
theorem read_facts : Tryd.prog.readableRec 37 = true := by kernel_rfl
theorem row_facts : 37 < Tryd.prog.types.size := of_decide_eq_true (by kernel_rfl)
theorem three {α : Type} {l : List α} (h : l.length = 3) : ∃ a b c, l = [a, b, c] := by
  match l, h with
  | [a, b, c], _ => exact ⟨a, b, c, rfl⟩
set_option maxRecDepth 100000 in
theorem conds_of_cells {W : World} {fuel : Nat} {v : Value} {x : DataW H × List MemPlace} (h : DataW.trod enc Tryd.prog W 0 (fun _ => true) true fuel 44 [v] = some x) : ∃ l, Conds W v l ∧ l.length ≤ Rows.uptoBulk x.1 := by
  obtain ⟨l, hl, hb⟩ := tab_of_trod (fs := _) (α := CondT) CondR (fun _ => 0) Tryd.underlying44 Tryd.underlying48 (by kernel_rfl) (by kernel_rfl) (by decide) (fun cs ys k hc hy hf => by
    obtain ⟨c0, c1, c2, rfl⟩ := three hc
    obtain ⟨y0, y1, y2, rfl⟩ := three hy
    obtain ⟨v0, z0, h0, hz0, t0⟩ := hf 0 _ rfl
    obtain ⟨v1, z1, h1, hz1, t1⟩ := hf 1 _ rfl
    obtain ⟨v2, z2, h2, hz2, t2⟩ := hf 2 _ rfl
    injection h0 with h0; injection h1 with h1; injection h2 with h2
    subst h0 h1 h2
    obtain ⟨b, hb, -⟩ := DataW.trod_bool Tryd.underlying4 t0
    obtain ⟨⟨⟨s1⟩⟩, hs1, -, -⟩ := DataW.trod_string Tryd.underlying9 t1
    obtain ⟨⟨⟨s2⟩⟩, hs2, -, -⟩ := DataW.trod_string Tryd.underlying9 t2
    injection hb with hb; injection hs1 with hs1; injection hs2 with hs2
    subst hb hs1 hs2
    exact ⟨⟨b, s1, s2⟩, rfl, by simp only [Rows.uptoBulk]; omega⟩) h
  exact ⟨l, hl, by omega⟩
/-- how much a group is: its tag's bytes, its conditions. -/
def groupM (g : GroupT) : Nat := g.tag.length + g.conds.length
set_option maxRecDepth 100000 in
theorem groups_of_cells {W : World} {fuel : Nat} {v : Value} {x : DataW H × List MemPlace} (h : DataW.trod enc Tryd.prog W 0 (fun _ => true) true fuel 36 [v] = some x) : ∃ l, Groups W v l ∧ (l.map groupM).sum + l.length ≤ Rows.uptoBulk x.1 := by
  exact tab_of_trod (fs := _) (α := GroupT) GroupR groupM Tryd.underlying36 Tryd.underlying46 (by kernel_rfl) (by kernel_rfl) (by decide) (fun cs ys k hc hy hf => by
    obtain ⟨c0, c1, c2, rfl⟩ := three hc
    obtain ⟨y0, y1, y2, rfl⟩ := three hy
    obtain ⟨v0, z0, h0, hz0, t0⟩ := hf 0 _ rfl
    obtain ⟨v1, z1, h1, hz1, t1⟩ := hf 1 _ rfl
    obtain ⟨v2, z2, h2, hz2, t2⟩ := hf 2 _ rfl
    injection h0 with h0; injection h1 with h1; injection h2 with h2
    injection hz1 with hz1; injection hz2 with hz2
    subst h0 h1 h2 hz1 hz2
    obtain ⟨b, hb, -⟩ := DataW.trod_bool Tryd.underlying4 t0
    obtain ⟨⟨⟨s1⟩⟩, hs1, hx1, -⟩ := DataW.trod_string Tryd.underlying9 t1
    obtain ⟨l, hl, hlb⟩ := conds_of_cells t2
    injection hb with hb; injection hs1 with hs1
    subst hb hs1
    refine ⟨⟨b, s1, l⟩, ⟨_, rfl, hl⟩, ?_⟩
    have hb1 : Rows.uptoBulk y1.1 = s1.length + 1 := by rw [hx1]; rfl
    simp only [Rows.uptoBulk, Rows.uptoBulkAll, List.map_cons, List.map_nil, hb1, groupM]
    omega) h
set_option maxRecDepth 100000 in
theorem facts_of_cells {W : World} {fuel : Nat} {v : Value} {x : DataW H × List MemPlace} (h : DataW.trod enc Tryd.prog W 0 (fun _ => true) true fuel 37 [v] = some x) : ∃ l, FactL W v l := by
  obtain ⟨l, hl, hb⟩ := tab_of_trod (fs := _) (α := FactT) FactR (fun _ => 0) Tryd.underlying37 Tryd.underlying43 (by kernel_rfl) (by kernel_rfl) (by decide) (fun cs ys k hc hy hf => by
    obtain ⟨c0, c1, c2, rfl⟩ := three hc
    obtain ⟨y0, y1, y2, rfl⟩ := three hy
    obtain ⟨v0, z0, h0, hz0, t0⟩ := hf 0 _ rfl
    obtain ⟨v1, z1, h1, hz1, t1⟩ := hf 1 _ rfl
    obtain ⟨v2, z2, h2, hz2, t2⟩ := hf 2 _ rfl
    injection h0 with h0; injection h1 with h1; injection h2 with h2
    subst h0 h1 h2
    obtain ⟨p, hp, -⟩ := strs_of_cells t0
    obtain ⟨⟨⟨s1⟩⟩, hs1, -, -⟩ := DataW.trod_string Tryd.underlying9 t1
    obtain ⟨q, hq, -⟩ := strs_of_cells t2
    injection hs1 with hs1
    subst hs1
    exact ⟨⟨p, s1, q⟩, ⟨_, _, rfl, hp, hq⟩, by simp only [Rows.uptoBulk]; omega⟩) h
  exact ⟨l, hl⟩
set_option maxRecDepth 100000 in
theorem trod_one {W : World} {t e : TypeId} {v : Value} {d : DataW H} {ps : List MemPlace} (hu : Tryd.prog.underlying t = some (.slice e)) (hv : Value.okWide Tryd.prog W .any 0 t v)
    (h : DataW.Trod enc Tryd.prog W 0 (fun _ => true) true t v d ps) : ∃ fuel, DataW.trod enc Tryd.prog W 0 (fun _ => true) true fuel t [v] = some (d, ps) := by
  obtain ⟨a0, len, cap, rfl⟩ := okWide_slice hu hv
  obtain ⟨fuel, hf⟩ := h
  exact ⟨fuel, by simpa [Value.cells] using hf⟩
set_option maxRecDepth 100000 in
theorem groups_of_trod {W : World} {v : Value} {d : DataW H} {ps : List MemPlace} (hv : Value.okWide Tryd.prog W .any 0 36 v)
    (h : DataW.Trod enc Tryd.prog W 0 (fun _ => true) true 36 v d ps) : ∃ l, Groups W v l ∧ (l.map groupM).sum + l.length ≤ Rows.uptoBulk d := by
  obtain ⟨fuel, hf⟩ := trod_one Tryd.underlying36 hv h
  exact groups_of_cells hf
set_option maxRecDepth 100000 in
theorem facts_of_trod {W : World} {v : Value} {d : DataW H} {ps : List MemPlace} (hv : Value.okWide Tryd.prog W .any 0 37 v)
    (h : DataW.Trod enc Tryd.prog W 0 (fun _ => true) true 37 v d ps) : ∃ l, FactL W v l := by
  obtain ⟨fuel, hf⟩ := trod_one Tryd.underlying37 hv h
  exact facts_of_cells hf
theorem read_group : Tryd.prog.readableRec 46 = true := by kernel_rfl
theorem row_group : 46 < Tryd.prog.types.size := of_decide_eq_true (by kernel_rfl)
theorem read_cond : Tryd.prog.readableRec 48 = true := by kernel_rfl
theorem row_cond : 48 < Tryd.prog.types.size := of_decide_eq_true (by kernel_rfl)
set_option maxRecDepth 100000 in
theorem group_of_trod {W : World} {v : Value} {d : DataW H} {ps : List MemPlace} (hv : Value.okWide Tryd.prog W .any 0 46 v)
    (h : DataW.Trod enc Tryd.prog W 0 (fun _ => true) true 46 v d ps) : ∃ (g : GroupT) (cv : Value), v = .agg #[.bool g.tagged, .string ⟨g.tag.toArray⟩, cv] ∧ Conds W cv g.conds ∧ g.tag.length ≤ Rows.uptoBulk d := by
  obtain ⟨v0, v1, v2, y0, y1, y2, n, rfl, rfl, -, t0, t1, t2⟩ := Joins.open_agg3 Tryd.underlying46 (by kernel_rfl) (by kernel_rfl) hv h
  obtain ⟨b, hb, -⟩ := DataW.trod_bool Tryd.underlying4 t0
  obtain ⟨⟨⟨s1⟩⟩, hs1, hx1, -⟩ := DataW.trod_string Tryd.underlying9 t1
  obtain ⟨l, hl, hlb⟩ := conds_of_cells t2
  injection hb with hb; injection hs1 with hs1
  subst hb hs1
  refine ⟨⟨b, s1, l⟩, v2, rfl, hl, ?_⟩
  have hb1 : Rows.uptoBulk y1.1 = s1.length + 1 := by rw [hx1]; rfl
  simp only [Rows.uptoBulk, Rows.uptoBulkAll, hb1]
  omega
set_option maxRecDepth 100000 in
theorem cond_of_trod {W : World} {v : Value} {d : DataW H} {ps : List MemPlace} (hv : Value.okWide Tryd.prog W .any 0 48 v)
    (h : DataW.Trod enc Tryd.prog W 0 (fun _ => true) true 48 v d ps) : ∃ c : CondT, v = .agg #[.bool c.neg, .string ⟨c.tok.toArray⟩, .string ⟨c.etag.toArray⟩] := by
  obtain ⟨v0, v1, v2, y0, y1, y2, n, rfl, rfl, -, t0, t1, t2⟩ := Joins.open_agg3 Tryd.underlying48 (by kernel_rfl) (by kernel_rfl) hv h
  obtain ⟨b, hb, -⟩ := DataW.trod_bool Tryd.underlying4 t0
  obtain ⟨⟨⟨s1⟩⟩, hs1, -, -⟩ := DataW.trod_string Tryd.underlying9 t1
  obtain ⟨⟨⟨s2⟩⟩, hs2, -, -⟩ := DataW.trod_string Tryd.underlying9 t2
  injection hb with hb; injection hs1 with hs1; injection hs2 with hs2
  subst hb hs1 hs2
  exact ⟨⟨b, s1, s2⟩, rfl⟩
theorem groupM_tags {l : List GroupT} {N : Nat} (h : (l.map groupM).sum + l.length ≤ N) (hN : N ≤ 1048576) : Tags l ∧ condsN l ≤ 1048576 := by
  induction l generalizing N with
  | nil => exact ⟨fun j g hj => by simp at hj, by simp [condsN]⟩
  | cons x l ih =>
    simp only [List.map_cons, List.sum_cons, List.length_cons] at h
    have hx : groupM x = x.tag.length + x.conds.length := rfl
    have := ih (N := N - groupM x) (by omega) (by omega)
    refine ⟨fun j g hj => ?_, ?_⟩
    · cases j with
      | zero => simp at hj; subst hj; omega
      | succ j => exact this.1 j g (by simpa using hj)
    · have hc : ∀ l : List GroupT, condsN l ≤ (l.map groupM).sum := by
        intro l
        induction l with
        | nil => simp [condsN]
        | cons y l ih =>
          rw [condsN_cons]
          have : groupM y = y.tag.length + y.conds.length := rfl
          simp only [List.map_cons, List.sum_cons]
          omega
      have := hc l
      rw [condsN_cons]
      omega
end
end Go.Proofs.YthfdhanhkanhhaaDoor
