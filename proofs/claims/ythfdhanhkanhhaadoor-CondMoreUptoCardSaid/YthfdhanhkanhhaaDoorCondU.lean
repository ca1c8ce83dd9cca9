/-
  append of records inside a region that draws its order. Over any program. Conditions stand at each.
-/
import Derived.Test.YthfdhanhkanhhaaDoorCondC
import Derived.Test.YthfdhanhkanhhaaDoorCondQ
import Derived.Test.YthfdhanhkanhhaaDoorCondG
namespace Go.Proofs.YthfdhanhkanhhaaDoor
open Go.RowKit

section
variable {P : Program} {t e : TypeId} {z : Value} {n bytes : Nat}
/-- append onto a row of the call's own, inside a region that draws its order. -/
theorem step_appT (E : ElemN P t e n z bytes) {ops : Array Oper} {o : Oper} {a : Act} {K : Act → World → Prop} {Q : Exit → Act → World → Prop} {X : Prop} {w : World} (hgd : o.guard = none) (s x : Operand)
    (ho : o.op = .call { callee := .builtin .append, args := #[s, x], argTypes := #[t, t] })
    (B : Nat) (rows news : List (List Value)) (v : Value) (hs : a.eval s = v) (hown : OwnT e n B rows v w) (A : Option Addr) (m cap : Nat) (hx : a.eval x = .slice A m cap) (hm : news.length = m) (hmc : m ≤ cap) (hnl : ∀ r ∈ news, r.length = n)
    (hcell : news ≠ [] → ∃ b o, A = some ⟨b, o, none⟩ ∧ ∀ (j : Nat) (r : List Value), news[j]? = some r → ∀ k u, r[k]? = some u → w.cell? ⟨b, o + (j * n + k), none⟩ = some u)
    (h1 : ∀ r ∈ news, ∀ u ∈ r, u.oneCell' = true) (hlen : (rows.length + m) * bytes ≤ 140737488355328) (hB : B ≤ w.heap.size)
    (h : ∀ v' w', OwnT e n B (rows ++ news) v' w' → Below B w w' → w.grownBy w' v.ownBlock → (v'.ownBlock = v.ownBlock ∨ v'.ownBlock = some w.heap.size) → K (a.put o.dst v') w') :
    if Region.wanted o (yielded ops a.tmps) = true then Oper.wp P o a w K Q else X := by
  have hw : Region.wanted o (yielded ops a.tmps) = true := by simp [Region.wanted, hgd]
  rw [if_pos hw]
  obtain ⟨v', w', hrun, h2, h3, h4, h5⟩ := run_appT E o.type hown A m cap hm hmc hnl hcell h1 hlen hB
  unfold Oper.wp execOp
  simp only [ho, resolve, invoke, builtin, Sem.run_bind, Sem.run_pure, Result.andThen_ok, List.map_toArray, List.map_cons, List.map_nil, hs, hx, hrun]
  exact h v' w' h2 h3 h4 h5
end
theorem OwnT.madeAt (e : TypeId) {n B : Nat} (w : World) (b : Nat) (hb : b = w.heap.size) (hB : B ≤ b) : OwnT e n B [] (.slice (some ⟨b, 0, none⟩) 0 0) (w.alloc (.cells #[] e)) := by
  subst hb
  exact OwnT.made e w #[] 0 hB (by unfold maxLen; omega) (by simp)
/-- one record in a block just made. -/
theorem news_new (w0 : World) (x y z : Value) (t : TypeId) (b : Nat) (hb : b = w0.heap.size) : [[x, y, z]] ≠ [] → ∃ b' o, some (⟨b, 0, none⟩ : Addr) = some ⟨b', o, none⟩ ∧ ∀ (j : Nat) (r : List Value), [[x, y, z]][j]? = some r → ∀ k u, r[k]? = some u → (w0.alloc (.cells #[x, y, z] t)).cell? ⟨b', o + (j * 3 + k), none⟩ = some u := by
  subst hb
  refine fun _ => ⟨_, _, rfl, fun j r hr k u hu => ?_⟩
  cases j with
  | succ j => simp at hr
  | zero =>
    simp at hr
    subst hr
    rw [show 0 + (0 * 3 + k) = k by omega, cell_new]
    simpa using hu
theorem news_grown {w0 w' : World} {x y z : Value} {t : TypeId} {b : Nat} (hb : b = w0.heap.size) (hg : (w0.alloc (.cells #[x, y, z] t)).grownBy w' none) : [[x, y, z]] ≠ [] → ∃ b' o, some (⟨b, 0, none⟩ : Addr) = some ⟨b', o, none⟩ ∧ ∀ (j : Nat) (r : List Value), [[x, y, z]][j]? = some r → ∀ k u, r[k]? = some u → w'.cell? ⟨b', o + (j * 3 + k), none⟩ = some u := by
  intro h
  obtain ⟨b', o, he, hc⟩ := news_new w0 x y z t b hb h
  exact ⟨b', o, he, fun j r hr k u hu => hg.cell (hc j r hr k u hu) (by simp)⟩
theorem groupR_one {w : World} {r : List Value} {g : GroupT} (h : GroupR w r g) : ∀ u ∈ r, u.oneCell' = true := by
  obtain ⟨v, rfl, A, cap, rfl, _⟩ := h
  intro u hu
  have : u = .bool g.tagged ∨ u = str g.tag ∨ u = .slice A g.conds.length cap := by simpa using hu
  rcases this with h | h | h <;> rw [h] <;> rfl
/-- what a world must say of the two boxes. -/
def MS (w2 : World) (b : Nat) (tg : Bool) (tag : List UInt8) (mv : Value) (w : World) : Prop :=
  w.cell? ⟨b, 0, none⟩ = some (.bool tg) ∧ w.cell? ⟨b, 1, none⟩ = some (.string ⟨tag.toArray⟩) ∧ w.cell? ⟨b, 2, none⟩ = some mv ∧ Below w2.heap.size w2 w
theorem MS.keep {w2 w w' : World} {b : Nat} {tg : Bool} {tag : List UInt8} {mv : Value} (h : MS w2 b tg tag mv w) (hb2 : b < w2.heap.size) (hb : Below w2.heap.size w w') : MS w2 b tg tag mv w' := by
  obtain ⟨h0, h1, h2, h3⟩ := h
  exact ⟨(hb.cell (p := ⟨b, 0, none⟩) hb2).trans h0, (hb.cell (p := ⟨b, 1, none⟩) hb2).trans h1, (hb.cell (p := ⟨b, 2, none⟩) hb2).trans h2, h3.trans hb⟩
theorem MS.alloc {w2 w : World} {b : Nat} {tg : Bool} {tag : List UInt8} {mv : Value} (h : MS w2 b tg tag mv w) (hb2 : b < w2.heap.size) (o : Obj) : MS w2 b tg tag mv (w.alloc o) :=
  h.keep hb2 ((Below.refl _ _).alloc h.2.2.2.size o)
theorem news_at {w' : World} {x y z : Value} {t : TypeId} {b : Nat} (h : w'.heap[b]? = some (.cells #[x, y, z] t (0, 0))) : [[x, y, z]] ≠ [] → ∃ b' o, some (⟨b, 0, none⟩ : Addr) = some ⟨b', o, none⟩ ∧ ∀ (j : Nat) (r : List Value), [[x, y, z]][j]? = some r → ∀ k u, r[k]? = some u → w'.cell? ⟨b', o + (j * 3 + k), none⟩ = some u := by
  refine fun _ => ⟨_, _, rfl, fun j r hr k u hu => ?_⟩
  cases j with
  | succ j => simp at hr
  | zero =>
    simp at hr
    subst hr
    rw [show 0 + (0 * 3 + k) = k by omega, cell_of_row _ _ _ _ _ _ h]
    simpa using hu
theorem hp1 (w : World) (o o' : Obj) : ((w.alloc o').alloc o).heap[w.heap.size + 1]? = some o := by
  have := heap_alloc_new (w.alloc o') o
  rwa [show (w.alloc o').heap.size = w.heap.size + 1 by simp] at this
theorem hp2 (w : World) (o o' : Obj) : ((w.alloc o).alloc o').heap[w.heap.size]? = some o :=
  (Below.heap_alloc _ o' _ (by simp)).trans (heap_alloc_new w o)
/-- what a world must say of the group in block xb and of the condition in block cb. -/
def TS (wa : World) (xb cb : Nat) (gt : Bool) (gtag : List UInt8) (c : CondT) (w : World) : Prop :=
  w.cell? ⟨cb, 0, none⟩ = some (.bool c.neg) ∧ w.cell? ⟨cb, 1, none⟩ = some (.string ⟨c.tok.toArray⟩) ∧ w.cell? ⟨cb, 2, none⟩ = some (.string ⟨c.etag.toArray⟩) ∧ Below xb wa w ∧
    ∃ u, w.heap[xb]? = some (.cells #[.bool gt, .string ⟨gtag.toArray⟩, u] 46 (0, 0))
section
variable {wa w w' : World} {xb cb : Nat} {gt : Bool} {gtag : List UInt8} {c : CondT}
theorem TS.keep (h : TS wa xb cb gt gtag c w) (hc : cb < xb) (hb : Below (xb + 1) w w') : TS wa xb cb gt gtag c w' := by
  obtain ⟨h0, h1, h2, h3, u, h4⟩ := h
  exact ⟨(hb.cell (p := ⟨cb, 0, none⟩) (Nat.lt_succ_of_lt hc)).trans h0, (hb.cell (p := ⟨cb, 1, none⟩) (Nat.lt_succ_of_lt hc)).trans h1, (hb.cell (p := ⟨cb, 2, none⟩) (Nat.lt_succ_of_lt hc)).trans h2, h3.trans (hb.mono (Nat.le_succ _)), u, (hb.block xb (Nat.lt_succ_self _)).trans h4⟩
theorem TS.size (h : TS wa xb cb gt gtag c w) : xb + 1 ≤ w.heap.size := by
  obtain ⟨_, _, _, _, u, h4⟩ := h
  exact (Array.getElem?_eq_some_iff.1 h4).1
theorem TS.alloc (h : TS wa xb cb gt gtag c w) (hc : cb < xb) (o : Obj) : TS wa xb cb gt gtag c (w.alloc o) :=
  h.keep hc ((Below.refl _ _).alloc h.size o)
theorem TS.set (h : TS wa xb cb gt gtag c w) (hc : cb < xb) (v : Value) : TS wa xb cb gt gtag c (w.setCell ⟨xb, 2, none⟩ v) := by
  obtain ⟨h0, h1, h2, h3, u, h4⟩ := h
  have hb : Below xb w (w.setCell ⟨xb, 2, none⟩ v) := (Below.refl xb w).setCell (p := ⟨xb, 2, none⟩) (Nat.le_refl _) v
  exact ⟨(hb.cell (p := ⟨cb, 0, none⟩) hc).trans h0, (hb.cell (p := ⟨cb, 1, none⟩) hc).trans h1, (hb.cell (p := ⟨cb, 2, none⟩) hc).trans h2, h3.trans hb, v, heap_setCell_same w xb 2 _ _ v h4⟩
end
theorem GRows.below {B : Nat} {blk : Option Nat} {w w' : World} {rows : List (List Value)} {out : List GroupT} (h : GRows B blk w rows out) (hb : Below w.heap.size w w') : GRows B blk w' rows out :=
  ⟨h.1, fun j row g h1 h2 => by
    obtain ⟨cv, e, ho, ha⟩ := h.2 j row g h1 h2
    exact ⟨cv, e, ho.below hb, ha⟩⟩
def tightG (c : CondT) (g : GroupT) : GroupT := ⟨g.tagged, g.tag, g.conds ++ [c]⟩
theorem conds_mem {gs : List GroupT} {g : GroupT} (h : g ∈ gs) : g.conds.length ≤ condsN gs := by
  induction gs with
  | nil => cases h
  | cons x r ih =>
    rw [condsN_cons]
    rcases List.mem_cons.1 h with rfl | h
    · omega
    · have := ih h; omega
theorem holdsS_app (self : List (List UInt8)) (fs : List FactT) : ∀ a b : List GroupT, holdsS (a ++ b) self fs = (holdsS a self fs || holdsS b self fs)
  | [], b => rfl
  | g :: a, b => by
    show (groupS g self fs || holdsS (a ++ b) self fs) = ((groupS g self fs || holdsS a self fs) || holdsS b self fs)
    rw [holdsS_app self fs a b, Bool.or_assoc]
theorem tight_holds (c : CondT) (self : List (List UInt8)) (fs : List FactT) : ∀ gs : List GroupT, holdsS gs self fs = false → holdsS (gs.map (tightG c)) self fs = false
  | [], _ => rfl
  | g :: r, h => by
    have h' : (groupS g self fs || holdsS r self fs) = false := h
    rw [Bool.or_eq_false_iff] at h'
    show (groupS (tightG c g) self fs || holdsS (r.map (tightG c)) self fs) = false
    rw [Bool.or_eq_false_iff]
    refine ⟨?_, tight_holds c self fs r h'.2⟩
    have h1 : holdsG g.conds (factsS g.tagged g.tag self fs) = false := h'.1
    show holdsG (g.conds ++ [c]) (factsS g.tagged g.tag self fs) = false
    unfold holdsG at h1 ⊢
    rw [List.all_append, h1, Bool.false_and]
theorem tight_tags {c : CondT} {gs : List GroupT} (h : Tags gs) : Tags (gs.map (tightG c)) := fun j g hj => by
  rw [List.getElem?_map] at hj
  obtain ⟨g', hg', rfl⟩ := Option.map_eq_some_iff.1 hj
  exact h j g' hg'
theorem app_tags {gs : List GroupT} {m : GroupT} (h : Tags gs) (hm : m.tag.length ≤ 1048576) : Tags (gs ++ [m]) := fun j g hj => by
  rcases List.mem_append.1 (List.mem_of_getElem? hj) with hg | hg
  · obtain ⟨i, hi⟩ := List.mem_iff_getElem?.1 hg
    exact h i g hi
  · rw [List.mem_singleton.1 hg]; exact hm
/-- a literal list of one group, just laid. -/
theorem group_lit (w : World) (cv : Value) (g : GroupT) (b : Nat) (hb : b = w.heap.size) (hc : Conds w cv g.conds) :
    Groups (w.alloc (.cells #[.bool g.tagged, .string ⟨g.tag.toArray⟩, cv] 46)) (.slice (some ⟨b, 0, none⟩) 1 1) [g] := by
  subst hb
  refine ⟨_, 1, rfl, Nat.le_refl _, by unfold maxLen; omega, fun j x hj => ?_⟩
  cases j with
  | succ j => simp at hj
  | zero =>
    simp at hj
    subst hj
    refine ⟨_, _, rfl, by simp, [.bool g.tagged, .string ⟨g.tag.toArray⟩, cv], rfl, fun k u hk => ?_, cv, rfl, hc.alloc _⟩
    rw [show 0 + (0 * 3 + k) = k by omega, cell_new]
    simpa using hk
def condV' (c : CondT) : Value := .agg #[.bool c.neg, .string ⟨c.tok.toArray⟩, .string ⟨c.etag.toArray⟩]
set_option maxHeartbeats 12000000 in
set_option maxRecDepth 100000 in
set_option linter.unusedSimpArgs false in
theorem law_more (gv mv sv fv : Value) (gs : List GroupT) (m : GroupT) (c : CondT) (self : List (List UInt8)) (fs : List FactT) (w : World) (hg : Groups w gv gs) (hm : Conds w mv m.conds) (hs : Strs w sv self) (hf : FactL w fv fs) (ht : Tags gs ∧ condsN gs ≤ 1048576) (hgs : gs.length ≤ 1048576) (htm : m.tag.length ≤ 1048576) (hE : Env w) :
    Calls Tryd.prog 10 #[gv, .agg #[.bool m.tagged, .string ⟨m.tag.toArray⟩, mv], condV' c, sv, fv] w (Ret (.bool true) w) := by
  have HG := Lib.hid hg
  have HM := Lib.hid hm
  have HS' := Lib.hid hs
  have HF := Lib.hid hf
  obtain ⟨gA, gc, rfl, hgl, hgm, -⟩ := hg
  obtain ⟨mA, mc, rfl, -, -, -⟩ := hm
  unfold maxLen at hgm
  obtain ⟨tg, tag, mcs⟩ := m
  simp only at htm HM ⊢
  clear hs hf
  have hA : Below w.heap.size w ((w.alloc (.cells #[.bool tg, .string ⟨tag.toArray⟩, .slice mA mcs.length mc] 46)).alloc (.cells #[.bool c.neg, .string ⟨c.tok.toArray⟩, .string ⟨c.etag.toArray⟩] 48)) := ((Below.refl _ w).alloc (Nat.le_refl _) _).alloc (by simp) _
  have k0 := fun k => cell_new w #[.bool tg, .string ⟨tag.toArray⟩, .slice mA mcs.length mc] 46 k
  have k1 := fun k => cell_new1 w (.cells #[.bool tg, .string ⟨tag.toArray⟩, .slice mA mcs.length mc] 46) #[.bool c.neg, .string ⟨c.tok.toArray⟩, .string ⟨c.etag.toArray⟩] 48 k
  have a0 := cell_alloc ((k0 0).trans (show (#[.bool tg, .string ⟨tag.toArray⟩, .slice mA mcs.length mc] : Array Value)[0]? = some (.bool tg) from rfl)) (.cells #[.bool c.neg, .string ⟨c.tok.toArray⟩, .string ⟨c.etag.toArray⟩] 48)
  have a1 := cell_alloc ((k0 1).trans (show (#[.bool tg, .string ⟨tag.toArray⟩, .slice mA mcs.length mc] : Array Value)[1]? = some (.string ⟨tag.toArray⟩) from rfl)) (.cells #[.bool c.neg, .string ⟨c.tok.toArray⟩, .string ⟨c.etag.toArray⟩] 48)
  have a2 := cell_alloc ((k0 2).trans (show (#[.bool tg, .string ⟨tag.toArray⟩, .slice mA mcs.length mc] : Array Value)[2]? = some (.slice mA mcs.length mc) from rfl)) (.cells #[.bool c.neg, .string ⟨c.tok.toArray⟩, .string ⟨c.etag.toArray⟩] 48)
  have b0 := (k1 0).trans (show (#[.bool c.neg, .string ⟨c.tok.toArray⟩, .string ⟨c.etag.toArray⟩] : Array Value)[0]? = some (.bool c.neg) from rfl)
  have b1 := (k1 1).trans (show (#[.bool c.neg, .string ⟨c.tok.toArray⟩, .string ⟨c.etag.toArray⟩] : Array Value)[1]? = some (.string ⟨c.tok.toArray⟩) from rfl)
  have b2 := (k1 2).trans (show (#[.bool c.neg, .string ⟨c.tok.toArray⟩, .string ⟨c.etag.toArray⟩] : Array Value)[2]? = some (.string ⟨c.etag.toArray⟩) from rfl)
  clear k0 k1
  unfold condV'
  go_enter Tryd.func10, Tryd.ntmps10
  go_wp2_with fail
  refine (fixed16_any _ (hE.below hA)).mono ?_
  rintro e w1 ⟨rfl, hb1⟩
  have hbw1 := hA.trans (hb1.mono hA.size)
  have hz0 : w.heap.size < ((w.alloc (.cells #[.bool tg, .string ⟨tag.toArray⟩, .slice mA mcs.length mc] 46)).alloc (.cells #[.bool c.neg, .string ⟨c.tok.toArray⟩, .string ⟨c.etag.toArray⟩] 48)).heap.size := by simp; omega
  have hz1 : w.heap.size + 1 < ((w.alloc (.cells #[.bool tg, .string ⟨tag.toArray⟩, .slice mA mcs.length mc] 46)).alloc (.cells #[.bool c.neg, .string ⟨c.tok.toArray⟩, .string ⟨c.etag.toArray⟩] 48)).heap.size := by simp
  have H1 := Lib.hid (holds_any (.slice gA gs.length gc) sv fv gs self fs w1 (HG.out.below hbw1 (Nat.le_refl _)) (HS'.out.below hbw1 (Nat.le_refl _)) (HF.out.below hbw1 (Nat.le_refl _)) ht.1 (hE.below hbw1))
  replace a0 := (hb1.cell (p := ⟨w.heap.size, 0, none⟩) hz0).trans a0
  replace a1 := (hb1.cell (p := ⟨w.heap.size, 1, none⟩) hz0).trans a1
  replace a2 := (hb1.cell (p := ⟨w.heap.size, 2, none⟩) hz0).trans a2
  replace b0 := (hb1.cell (p := ⟨w.heap.size + 1, 0, none⟩) hz1).trans b0
  replace b1 := (hb1.cell (p := ⟨w.heap.size + 1, 1, none⟩) hz1).trans b1
  replace b2 := (hb1.cell (p := ⟨w.heap.size + 1, 2, none⟩) hz1).trans b2
  have hy0 := World.block_lt_of_cell? _ _ a0
  have hy1 := World.block_lt_of_cell? _ _ b0
  clear hz0 hz1 hb1 hA
  generalize hxe : holdsS gs self fs = x at H1
  go_wp2_with fail
  refine H1.out.mono ?_
  rintro e w2 ⟨rfl, hb2'⟩
  have hbw2 := hbw1.trans (hb2'.mono hbw1.size)
  replace a0 := (hb2'.cell (p := ⟨w.heap.size, 0, none⟩) hy0).trans a0
  replace a1 := (hb2'.cell (p := ⟨w.heap.size, 1, none⟩) hy0).trans a1
  replace a2 := (hb2'.cell (p := ⟨w.heap.size, 2, none⟩) hy0).trans a2
  replace b0 := (hb2'.cell (p := ⟨w.heap.size + 1, 0, none⟩) hy1).trans b0
  replace b1 := (hb2'.cell (p := ⟨w.heap.size + 1, 1, none⟩) hy1).trans b1
  replace b2 := (hb2'.cell (p := ⟨w.heap.size + 1, 2, none⟩) hy1).trans b2
  have hx0 : w.heap.size < w2.heap.size := World.block_lt_of_cell? _ _ a0
  have hx1 : w.heap.size + 1 < w2.heap.size := World.block_lt_of_cell? _ _ b0
  clear hy0 hy1 hb2' hbw1 H1
  obtain ⟨gA', gc', rows, hv, -, -, hrl, hrn, hR, hcell⟩ := (HG.out.below hbw2 (Nat.le_refl _)).flat
  injection hv with e1 e2 e3
  subst e1 e3
  clear e2
  have Hone := Lib.hid (show ∀ r ∈ rows, ∀ u ∈ r, u.oneCell' = true from fun r hr => by
    obtain ⟨j, hj⟩ := List.mem_iff_getElem?.1 hr
    have hjl : j < gs.length := by rw [← hrl]; exact (List.getElem?_eq_some_iff.1 hj).1
    exact groupR_one (hR j _ r (List.getElem?_eq_getElem hjl) hj))
  have Hone1 := Lib.hid (show ∀ r ∈ [[Value.bool tg, .string ⟨tag.toArray⟩, .slice mA mcs.length mc]], ∀ u ∈ r, u.oneCell' = true from fun r hr u hu => by
    rw [List.mem_singleton.1 hr] at hu
    have : u = .bool tg ∨ u = .string ⟨tag.toArray⟩ ∨ u = .slice mA mcs.length mc := by simpa using hu
    rcases this with h | h | h <;> rw [h] <;> rfl)
  have HCe := Lib.hid (fun (w' : World) (h : MS w2 w.heap.size tg tag (.slice mA mcs.length mc) w') (hne : rows ≠ []) => show ∃ b o, gA = some ⟨b, o, none⟩ ∧ ∀ (j : Nat) (r : List Value), rows[j]? = some r → ∀ k u, r[k]? = some u → w'.cell? ⟨b, o + (j * 3 + k), none⟩ = some u by
    have hgne : gs ≠ [] := by intro h0; subst h0; exact hne (List.eq_nil_of_length_eq_zero hrl)
    obtain ⟨b, o, ha, hb, hc⟩ := hcell hgne
    exact ⟨b, o, ha, fun j r hr k u hu => (h.2.2.2.cell (p := ⟨b, o + (j * 3 + k), none⟩) hb).trans (hc j r hr k u hu)⟩)
  have HN : gs.length ≤ 2000000 := by omega
  have HL1 := Lib.hid (show (([] : List (List Value)).length + gs.length) * 48 ≤ 140737488355328 by simp; omega)
  have HL2 := Lib.hid (show (([] ++ rows).length + 1) * 48 ≤ 140737488355328 by simp; omega)
  have hBw := Lib.hid (fun (w' : World) (h : MS w2 w.heap.size tg tag (.slice mA mcs.length mc) w') => h.2.2.2.size)
  have hS0 : MS w2 w.heap.size tg tag (.slice mA mcs.length mc) w2.drew := ⟨a0, a1, a2, below_draws (Below.refl _ _) 1⟩
  have Hk := Lib.hid (fun (wa wb : World) (h : MS w2 w.heap.size tg tag (.slice mA mcs.length mc) wa) (hb : Below w2.heap.size wa wb) => h.keep hx0 hb)
  have Hka := Lib.hid (fun (wa : World) (o : Obj) (h : MS w2 w.heap.size tg tag (.slice mA mcs.length mc) wa) => h.alloc hx0 o)
  clear hcell
  go_wp2_with fail
  go_region_held3 (fun w' => w'.cell? ⟨w.heap.size, 0, none⟩ = some (.bool tg) ∧ w'.cell? ⟨w.heap.size, 1, none⟩ = some (.string ⟨tag.toArray⟩) ∧ w'.cell? ⟨w.heap.size, 2, none⟩ = some (.slice mA mcs.length mc) ∧ Below w2.heap.size w2 w')
    (first | exact hS0 | exact Hk.out _ _ (by assumption) (by assumption) | exact Hka.out _ _ (by assumption))
    (first
      | (refine step_appT elemG rfl (.tmp 22) (.tmp 23) rfl w2.heap.size [] rows (.slice none 0 0) (by rfl) (OwnT.nil _ _ _ _) gA gs.length gc (by rfl) hrl hgl hrn (HCe.out _ (by assumption)) Hone.out HL1.out (hBw.out _ (by assumption)) ?_; intro v' w' o1 bl1 gr1 nb1)
      | (refine step_appT elemG rfl (.tmp 24) (.tmp 26) rfl w2.heap.size ([] ++ rows) [[.bool tg, .string ⟨tag.toArray⟩, .slice mA mcs.length mc]] v' (by rfl) (by first | exact o1 | exact o1.alloc _) _ 1 1 (by rfl) rfl (Nat.le_refl _) (fun r hr => by rw [List.mem_singleton.1 hr]; rfl) (by first | exact news_new _ _ _ _ _ _ (by simp) | exact news_grown (w0 := w2.drew) rfl gr1 | exact news_grown rfl gr1) Hone1.out HL2.out (hBw.out _ (by assumption)) ?_; intro v2 w3 o2 bl2 gr2 nb2))
  all_goals
    have hfin : MS w2 w.heap.size tg tag (.slice mA mcs.length mc) w3 := by assumption
    have hb3 := hfin.2.2.2
    have hbw3 := hbw2.trans (hb3.mono hbw2.size)
    have HBo := Lib.hid (show Groups w3 v2 (gs ++ [⟨tg, tag, mcs⟩]) from o2.tab (by simp [hrl]) (fun j x r hx hr => by
      by_cases hj : j < rows.length
      · rw [List.nil_append, List.getElem?_append_left hj] at hr
        rw [List.getElem?_append_left (by omega)] at hx
        exact (hR j x r hx hr).below hb3 (Nat.le_refl _)
      · rw [List.nil_append, List.getElem?_append_right (by omega)] at hr
        rw [List.getElem?_append_right (by omega)] at hx
        rw [hrl] at hr
        obtain ⟨q, hq⟩ : ∃ q, j - gs.length = q := ⟨_, rfl⟩
        rw [hq] at hr hx
        cases q with
        | succ q => simp at hr
        | zero =>
          simp at hr hx
          subst hr hx
          exact ⟨_, rfl, HM.out.below hbw3 (Nat.le_refl _)⟩))
    replace b0 := (hb3.cell (p := ⟨w.heap.size + 1, 0, none⟩) hx1).trans b0
    replace b1 := (hb3.cell (p := ⟨w.heap.size + 1, 1, none⟩) hx1).trans b1
    replace b2 := (hb3.cell (p := ⟨w.heap.size + 1, 2, none⟩) hx1).trans b2
    have hx1' : w.heap.size + 1 < w3.heap.size := Nat.lt_of_lt_of_le hx1 hb3.size
    clear hS0 Hk Hka HCe hBw Hone Hone1 HL1 HL2 o1 o2 bl1 bl2 gr1 gr2 nb1 nb2 hR hrn hb3
    go_wp2_with fail
    go_loopw [13, 14] (fun v i wr => ∃ (k : Nat) (rows2 : List (List Value)), k ≤ gs.length ∧ i = .int .i64 k ∧ OwnT 46 3 w3.heap.size rows2 v wr ∧ GRows w3.heap.size v.ownBlock wr rows2 ((gs.take k).map (tightG c)) ∧ Below w3.heap.size w3 wr) (fun _ i _ => gs.length - (intOf i).toNat)
    case atStart => exact ⟨0, [], Nat.zero_le _, rfl, OwnT.nil _ _ _ _, ⟨rfl, fun j row g h => by simp at h⟩, Below.refl _ _⟩
    case round =>
      obtain ⟨k, rows2, hk, rfl, ho, hgr, hbw⟩ := hrel
      have hbww := hbw3.trans (hbw.mono hbw3.size)
      obtain ⟨oA, oc, hv, -, -⟩ := ho.shape
      have hrl2 := hgr.1
      rw [List.length_map, List.length_take, Nat.min_eq_left hk] at hrl2
      rw [hrl2] at hv
      subst hv
      have HO := Lib.hid ho
      have HGr := Lib.hid hgr
      clear ho hgr
      rcases Nat.lt_or_ge k gs.length with hlt | hge
      · obtain ⟨gA', gc', hvg, _, _, hac⟩ := HG.out.at
        injection hvg with e1 e2 e3
        subst e1 e3
        clear e2
        obtain ⟨g, hgk⟩ : ∃ g, gs[k]? = some g := ⟨_, List.getElem?_eq_getElem hlt⟩
        obtain ⟨gb, go, cv, rfl, hgb, e0, e1, e2, hcv⟩ := hac k g hgk
        replace e0 := (hbww.cell (p := ⟨gb, go + k * 3, none⟩) hgb).trans e0
        replace e1 := (hbww.cell (p := ⟨gb, go + k * 3 + 1, none⟩) hgb).trans e1
        replace e2 := (hbww.cell (p := ⟨gb, go + k * 3 + 2, none⟩) hgb).trans e2
        have hcN : g.conds.length ≤ 1048576 := Nat.le_trans (conds_mem (List.mem_of_getElem? hgk)) ht.2
        have Hgk := Lib.hid hgk
        unfold str at e1
        obtain ⟨gt, gtag, cs⟩ := g
        simp only at e0 e1 e2 hcv hcN
        obtain ⟨cA, cc, crows, rfl, hcl, -, hcrl, hcrn, hcR, hccell⟩ := hcv.flat
        have hcr : crows = cs.map condCells := by
          apply List.ext_getElem?
          intro j
          rcases Nat.lt_or_ge j cs.length with hj | hj
          · have h1 := List.getElem?_eq_getElem (l := crows) (show j < crows.length by omega)
            have h2 := List.getElem?_eq_getElem hj
            rw [h1, List.getElem?_map, h2]
            have := hcR j _ _ h2 h1
            rw [this]
            rfl
          · rw [List.getElem?_eq_none (by omega), List.getElem?_eq_none (by rw [List.length_map]; omega)]
        have k0 : (0 : Int) ≤ (k : Int) := by omega
        have k1 : (k : Int) < (gs.length : Int) := by omega
        have c0 := (hbw.cell (p := ⟨w.heap.size + 1, 0, none⟩) hx1').trans b0
        have c1 := (hbw.cell (p := ⟨w.heap.size + 1, 1, none⟩) hx1').trans b1
        have c2 := (hbw.cell (p := ⟨w.heap.size + 1, 2, none⟩) hx1').trans b2
        clear hac hgk
        go_wp2_with fail
        have hxb := heap_alloc_new wr (.cells #[.bool gt, .string ⟨gtag.toArray⟩, .slice cA cs.length cc] 46)
        have hwa : Below wr.heap.size wr (wr.alloc (.cells #[.bool gt, .string ⟨gtag.toArray⟩, .slice cA cs.length cc] 46)) := (Below.refl _ _).alloc (Nat.le_refl _) _
        have hcx : w.heap.size + 1 < wr.heap.size := Nat.lt_of_lt_of_le hx1' hbw.size
        replace c0 := (hwa.cell (p := ⟨w.heap.size + 1, 0, none⟩) hcx).trans c0
        replace c1 := (hwa.cell (p := ⟨w.heap.size + 1, 1, none⟩) hcx).trans c1
        replace c2 := (hwa.cell (p := ⟨w.heap.size + 1, 2, none⟩) hcx).trans c2
        have hzw : (wr.alloc (.cells #[.bool gt, .string ⟨gtag.toArray⟩, .slice cA cs.length cc] 46)).heap.size = wr.heap.size + 1 := by simp
        generalize (wr.alloc (.cells #[.bool gt, .string ⟨gtag.toArray⟩, .slice cA cs.length cc] 46)) = wa at *
        have hwww : w.heap.size ≤ wr.heap.size := by omega
        generalize hxbn : wr.heap.size = xb at *
        have q2 : wa.cell? ⟨xb, 2, none⟩ = some (.slice cA cs.length cc) := by rw [cell_of_row _ _ _ _ _ _ hxb]; rfl
        have q2a : ∀ o, (wa.alloc o).cell? ⟨xb, 2, none⟩ = some (.slice cA cs.length cc) := fun o => cell_alloc q2 o
        have q2b : ∀ o o', ((wa.alloc o).alloc o').cell? ⟨xb, 2, none⟩ = some (.slice cA cs.length cc) := fun o o' => cell_alloc (q2a o) o'
        have hT0 : TS wa xb (w.heap.size + 1) gt gtag c wa.drew := ⟨c0, c1, c2, below_draws (Below.refl _ _) 1, _, hxb⟩
        have Hk := Lib.hid (fun (wy wz : World) (h : TS wa xb (w.heap.size + 1) gt gtag c wy) (hb : Below (xb + 1) wy wz) => h.keep hcx hb)
        have Hka := Lib.hid (fun (wy : World) (o : Obj) (h : TS wa xb (w.heap.size + 1) gt gtag c wy) => h.alloc hcx o)
        have Hks := Lib.hid (fun (wy : World) (v : Value) (h : TS wa xb (w.heap.size + 1) gt gtag c wy) => h.set hcx v)
        have hbwa : Below w.heap.size w wa := hbww.trans (hwa.mono hwww)
        have HCe := Lib.hid (fun (w' : World) (h : TS wa xb (w.heap.size + 1) gt gtag c w') (hne : cs.map condCells ≠ []) => show ∃ b o, cA = some ⟨b, o, none⟩ ∧ ∀ (j : Nat) (r : List Value), (cs.map condCells)[j]? = some r → ∀ k u, r[k]? = some u → w'.cell? ⟨b, o + (j * 3 + k), none⟩ = some u by
          have hgne : cs ≠ [] := by intro h0; subst h0; exact hne rfl
          rw [← hcr]
          obtain ⟨b, o, ha, hb, hc⟩ := hccell hgne
          have hbx : Below w.heap.size w w' := hbwa.trans (h.2.2.2.1.mono hwww)
          exact ⟨b, o, ha, fun j r hr k u hu => (hbx.cell (p := ⟨b, o + (j * 3 + k), none⟩) hb).trans (hc j r hr k u hu)⟩)
        have Hcone := Lib.hid (show ∀ r ∈ cs.map condCells, ∀ u ∈ r, u.oneCell' = true from fun r hr u hu => by
          obtain ⟨c', _, rfl⟩ := List.mem_map.1 hr
          exact condCells_one c' u hu)
        have Hclen := Lib.hid (show ∀ r ∈ cs.map condCells, r.length = 3 from fun r hr => by
          obtain ⟨c', _, rfl⟩ := List.mem_map.1 hr
          rfl)
        have Hc1 := Lib.hid (show ∀ r ∈ [[Value.bool c.neg, .string ⟨c.tok.toArray⟩, .string ⟨c.etag.toArray⟩]], ∀ u ∈ r, u.oneCell' = true from fun r hr u hu => by
          rw [List.mem_singleton.1 hr] at hu
          exact condCells_one c u hu)
        have HL1 := Lib.hid (show (([] : List (List Value)).length + cs.length) * 40 ≤ 140737488355328 by simp; omega)
        have HL2 := Lib.hid (show (([] ++ cs.map condCells).length + 1) * 40 ≤ 140737488355328 by simp; omega)
        have hml : (cs.map condCells).length = cs.length := by simp
        have Hml := Lib.hid hml
        have hBw := Lib.hid (fun (w' : World) (h : TS wa xb (w.heap.size + 1) gt gtag c w') => h.size)
        have Hz1 := Lib.hid (show xb + 1 = wa.drew.heap.size from hzw.symm)
        have Hz2 := Lib.hid (fun (o : Obj) => show xb + 1 + 1 = (wa.drew.alloc o).heap.size from by rw [← hzw]; simp)
        have Hq1 := Lib.hid (fun (o o' : Obj) => show ((wa.drew.alloc o').alloc o).heap[xb + 1 + 1]? = some o from by have := hp1 wa.drew o o'; rwa [← Hz1.out] at this)
        have Hq2 := Lib.hid (fun (o o' : Obj) => show ((wa.drew.alloc o).alloc o').heap[xb + 1]? = some o from by have := hp2 wa.drew o o'; rwa [← Hz1.out] at this)
        have Hq3 := Lib.hid (fun (o o' : Obj) => show xb + 1 + 1 < ((wa.drew.alloc o).alloc o').heap.size from by have := Hz2.out o; simp; simp at this; omega)
        clear hccell hxb hcr hcR hml
        have c0a : ∀ o, (wa.alloc o).cell? ⟨w.heap.size + 1, 0, none⟩ = some (.bool c.neg) := fun o => cell_alloc c0 o
        have c1a : ∀ o, (wa.alloc o).cell? ⟨w.heap.size + 1, 1, none⟩ = some (.string ⟨c.tok.toArray⟩) := fun o => cell_alloc c1 o
        have c2a : ∀ o, (wa.alloc o).cell? ⟨w.heap.size + 1, 2, none⟩ = some (.string ⟨c.etag.toArray⟩) := fun o => cell_alloc c2 o
        go_region_law (first
            | (refine step_appT elemC rfl (.tmp 38) (.tmp 40) rfl (xb + 1) [] (cs.map condCells) (.slice (some ⟨xb + 1, 0, none⟩) 0 0) (by rfl) (by first | exact OwnT.madeAt _ wa.drew (xb + 1) Hz1.out (Nat.le_refl _) | exact (OwnT.madeAt _ wa.drew (xb + 1) Hz1.out (Nat.le_refl _)).alloc _) cA cs.length cc (by rfl) Hml.out hcl Hclen.out (HCe.out _ (by first | exact hT0 | exact Hka.out wa.drew _ hT0 | exact Hka.out _ _ (Hka.out wa.drew _ hT0))) Hcone.out HL1.out (hBw.out _ (by first | exact hT0 | exact Hka.out wa.drew _ hT0 | exact Hka.out _ _ (Hka.out wa.drew _ hT0))) ?_; intro v7 w7 o7 bl7 gr7 nb7; have T7 : TS wa xb (w.heap.size + 1) gt gtag c w7 := Hk.out _ _ (by first | exact hT0 | exact Hka.out wa.drew _ hT0 | exact Hka.out _ _ (Hka.out wa.drew _ hT0)) bl7; have s0 := T7.1; have s1 := T7.2.1; have s2 := T7.2.2.1)
            | (refine step_appT elemC rfl (.tmp 38) (.tmp 40) rfl (xb + 1) [] (cs.map condCells) (.slice (some ⟨xb + 1 + 1, 0, none⟩) 0 0) (by rfl) (OwnT.madeAt _ (wa.drew.alloc _) (xb + 1 + 1) (Hz2.out _) (Nat.le_succ _)) cA cs.length cc (by rfl) Hml.out hcl Hclen.out (HCe.out _ (by first | exact hT0 | exact Hka.out wa.drew _ hT0 | exact Hka.out _ _ (Hka.out wa.drew _ hT0))) Hcone.out HL1.out (hBw.out _ (by first | exact hT0 | exact Hka.out wa.drew _ hT0 | exact Hka.out _ _ (Hka.out wa.drew _ hT0))) ?_; intro v7 w7 o7 bl7 gr7 nb7; have T7 : TS wa xb (w.heap.size + 1) gt gtag c w7 := Hk.out _ _ (by first | exact hT0 | exact Hka.out wa.drew _ hT0 | exact Hka.out _ _ (Hka.out wa.drew _ hT0)) bl7; have s0 := T7.1; have s1 := T7.2.1; have s2 := T7.2.2.1)
            | (refine step_appT elemC rfl (.tmp 41) (.tmp 43) rfl (xb + 1) ([] ++ cs.map condCells) [[.bool c.neg, .string ⟨c.tok.toArray⟩, .string ⟨c.etag.toArray⟩]] v7 (by rfl) (by first | exact o7 | exact o7.alloc _) _ 1 1 (by rfl) rfl (Nat.le_refl _) (fun r hr => by rw [List.mem_singleton.1 hr]; rfl) (by first | exact news_at (heap_alloc_new _ _) | exact news_at ((gr7.block (xb + 1 + 1) (Hq3.out _ _) (by simp [Value.ownBlock])).trans (Hq1.out _ _)) | exact news_at ((gr7.block (xb + 1) (Nat.lt_of_succ_lt (Hq3.out _ _)) (by simp [Value.ownBlock])).trans (Hq2.out _ _))) Hc1.out HL2.out (hBw.out _ (by first | exact T7 | exact Hka.out _ _ T7)) ?_; intro v8 w8 o8 bl8 gr8 nb8; have T8 : TS wa xb (w.heap.size + 1) gt gtag c w8 := Hk.out _ _ (by first | exact T7 | exact Hka.out _ _ T7) bl8; obtain ⟨u8, hu8⟩ := T8.2.2.2.2; have q8 : w8.cell? ⟨xb, 2, none⟩ = some u8 := (by rw [cell_of_row _ _ _ _ _ _ hu8]; rfl); have f8 : w8.frozen? ⟨xb, 2, none⟩ = false := (by unfold World.frozen?; simp [hu8]); obtain ⟨A8, c8, rfl, -, -⟩ := o8.shape))
        all_goals
          have hTS : TS wa xb (w.heap.size + 1) gt gtag c (w8.setCell ⟨xb, 2, none⟩ (.slice A8 (cs.length + 1) c8)) := Hks.out w8 _ T8
          have hbx8 := heap_setCell_same w8 xb 2 _ _ (.slice A8 (cs.length + 1) c8) hu8
          have eo : [] ++ cs.map condCells ++ [[Value.bool c.neg, .string ⟨c.tok.toArray⟩, .string ⟨c.etag.toArray⟩]] = (cs ++ [c]).map condCells := by simp [condCells]
          rw [eo, show ((cs ++ [c]).map condCells).length = cs.length + 1 by simp] at o8
          have lt8 := o8.lt
          have o9 := (o8.grown (grown_set' w8 ⟨xb, 2, none⟩ (.slice A8 (cs.length + 1) c8)) (fun b hb => by have := (lt8 b hb).1; intro e; injection e with e; simp at e; omega)).mono (show w3.heap.size ≤ xb + 1 by have := hbw.size; omega)
          have hbs : Below wr.heap.size wr (w8.setCell ⟨xb, 2, none⟩ (.slice A8 (cs.length + 1) c8)) := by
            rw [hxbn]
            exact hwa.trans hTS.2.2.2.1
          have O9 := Lib.hid (HO.out.below hbs)
          have G9 := Lib.hid (HGr.out.below hbs)
          have lt9 := HO.out.lt
          have hb39 : Below w3.heap.size w3 (w8.setCell ⟨xb, 2, none⟩ (.slice A8 (cs.length + 1) c8)) := hbw.trans (hbs.mono hbw.size)
          have kk0 : (w8.setCell ⟨xb, 2, none⟩ (.slice A8 (cs.length + 1) c8)).cell? ⟨xb, 0, none⟩ = some (.bool gt) := by rw [cell_of_row _ _ 0 _ _ _ hbx8]; rfl
          have kk1 : (w8.setCell ⟨xb, 2, none⟩ (.slice A8 (cs.length + 1) c8)).cell? ⟨xb, 1, none⟩ = some (.string ⟨gtag.toArray⟩) := by rw [cell_of_row _ _ 1 _ _ _ hbx8]; rfl
          have kk2 : (w8.setCell ⟨xb, 2, none⟩ (.slice A8 (cs.length + 1) c8)).cell? ⟨xb, 2, none⟩ = some (.slice A8 (cs.length + 1) c8) := by rw [cell_of_row _ _ 2 _ _ _ hbx8]; rfl
          have ha9 : ∀ b, (Value.slice A8 (cs.length + 1) c8).ownBlock = some b → some b ≠ (Value.slice oA k oc).ownBlock := fun b hb e => by
            have h1 := (lt8 b hb).1
            have h2 := (lt9 b e.symm).2
            omega
          have Ho9 := Lib.hid o9
          have Ha9 := Lib.hid ha9
          have hWB := hb39.size
          have HBD := Lib.hid (show (rows2.length + 1) * 48 ≤ 140737488355328 by rw [hrl2]; omega)
          have Hon := Lib.hid (show ∀ u ∈ (#[.bool gt, .string ⟨gtag.toArray⟩, .slice A8 (cs.length + 1) c8] : Array Value).toList, u.oneCell' = true from fun u hu => by
            have : u = .bool gt ∨ u = .string ⟨gtag.toArray⟩ ∨ u = .slice A8 (cs.length + 1) c8 := by simpa using hu
            rcases this with h | h | h <;> rw [h] <;> rfl)
          clear hbx8 hu8 q8 f8 o8 o9 ha9 lt8 lt9 hTS hT0 hbs o7 bl7 gr7 nb7 bl8 gr8 nb8 q2 q2a q2b c0 c1 c2 c0a c1a c2a s0 s1 s2 T7 T8 e0 e1 e2 Hk Hka Hks HCe Hcone Hclen Hc1 HL1 HL2 Hml hBw Hz1 Hz2 Hq1 Hq2 Hq3 hzw hwa
          generalize (w8.setCell ⟨xb, 2, none⟩ (.slice A8 (cs.length + 1) c8)) = ws at *
          go_wp2_with (at_builtin; go_must (refine wpList_appRec elemG rfl (.tmp 46) (.tmp 48) rfl w3.heap.size rows2 #[.bool gt, .string ⟨gtag.toArray⟩, .slice A8 (cs.length + 1) c8] _ rfl O9.out ws.heap.size rfl rfl rfl Hon.out HBD.out hWB ?_); intro v5 w5 ho5 hb5 hg5 hn5)
          have G5 := G9.out.app (g := tightG c ⟨gt, gtag, cs⟩) hg5 hn5 Ho9.out Ha9.out
          have et : (gs.take k).map (tightG c) ++ [tightG c ⟨gt, gtag, cs⟩] = (gs.take (k + 1)).map (tightG c) := by
            rw [List.take_add_one, List.map_append, Hgk.out]
            rfl
          rw [et] at G5
          refine ⟨⟨k + 1, rows2 ++ [[.bool gt, .string ⟨gtag.toArray⟩, .slice A8 (cs.length + 1) c8]], by omega, by go_num, ho5, G5, hb39.trans hb5⟩, ?_⟩
          simp [intOf]; omega
      · have hk2 : k = gs.length := by omega
        subst hk2
        rw [List.take_length] at HGr
        have HTi := Lib.hid (HGr.out.groups HO.out)
        have HBw := Lib.hid (HBo.out.below hbw (Nat.le_refl _))
        have HHo := Lib.hid (fun (gv : Value) (gl : List GroupT) (wx wy : World) (hg : Groups wx gv gl) (htg : Tags gl) (hx : Below w.heap.size w wx) => holds_any gv sv fv gl self fs wx hg (HS'.out.below hx (Nat.le_refl _)) (HF.out.below hx (Nat.le_refl _)) htg (hE.below hx))
        have hm1 : holdsS (gs ++ [⟨tg, tag, mcs⟩]) self fs = (x || holdsS [⟨tg, tag, mcs⟩] self fs) := by rw [holdsS_app, hxe]
        have hti : x = false → holdsS (gs.map (tightG c)) self fs = false := fun h => tight_holds c self fs gs (by rw [hxe, h])
        have TB := Lib.hid (app_tags (m := ⟨tg, tag, mcs⟩) ht.1 htm)
        have TT := Lib.hid (tight_tags (c := c) ht.1)
        generalize hyy : holdsS [⟨tg, tag, mcs⟩] self fs = y at *
        have m0 := (hbw.cell (p := ⟨w.heap.size, 0, none⟩) (Nat.lt_of_succ_lt hx1')).trans hfin.1
        have m1 := (hbw.cell (p := ⟨w.heap.size, 1, none⟩) (Nat.lt_of_succ_lt hx1')).trans hfin.2.1
        have m2 := (hbw.cell (p := ⟨w.heap.size, 2, none⟩) (Nat.lt_of_succ_lt hx1')).trans hfin.2.2.1
        have hmz := World.block_lt_of_cell? _ _ m0
        clear a0 a1 a2 b0 b1 b2
        cases x
        · have hti' := Lib.hid (hti rfl)
          have hm1' := Lib.hid (show holdsS (gs ++ [⟨tg, tag, mcs⟩]) self fs = y by rw [hm1]; rfl)
          clear hti hm1
          have Ht := Lib.hid (HHo.out _ _ wr wr HTi.out TT.out hbww)
          rw [hti'.out] at Ht
          go_wp2_with fail
          refine Ht.out.mono ?_
          rintro e w6 ⟨rfl, hb6⟩
          have hw6 := hbww.trans (hb6.mono hbww.size)
          have Hb := Lib.hid (HHo.out _ _ w6 w6 (HBw.out.below hb6 (Nat.le_refl _)) TB.out hw6)
          rw [hm1'.out] at Hb
          clear Ht
          go_wp2_with fail
          refine Hb.out.mono ?_
          rintro e w7 ⟨rfl, hb7⟩
          have hw7 := hw6.trans (hb7.mono hw6.size)
          have hb67 := hb6.trans (hb7.mono hb6.size)
          have n0 := (hb67.cell (p := ⟨w.heap.size, 0, none⟩) hmz).trans m0
          have n1 := (hb67.cell (p := ⟨w.heap.size, 1, none⟩) hmz).trans m1
          have n2 := (hb67.cell (p := ⟨w.heap.size, 2, none⟩) hmz).trans m2
          have hA7 : Below w.heap.size w (w7.alloc (.cells #[.bool tg, .string ⟨tag.toArray⟩, .slice mA mcs.length mc] 46)) := hw7.alloc hw7.size _
          have Hm := Lib.hid (HHo.out _ [⟨tg, tag, mcs⟩] (w7.alloc (.cells #[.bool tg, .string ⟨tag.toArray⟩, .slice mA mcs.length mc] 46)) w7 (group_lit w7 (.slice mA mcs.length mc) ⟨tg, tag, mcs⟩ _ rfl (HM.out.below hw7 (Nat.le_refl _))) (app_tags (gs := []) (fun j g hj => by simp at hj) htm) hA7)
          rw [hyy] at Hm
          have hy2 : (y == y) = true := by cases y <;> rfl
          clear Hb m0 m1 m2 hb67
          go_wp2_with fail
          refine Hm.out.mono ?_
          rintro e w8 ⟨rfl, hb8⟩
          go_wp2
          go_ret
          exact ⟨rfl, hA7.trans (hb8.mono hA7.size)⟩
        · have hm1' := Lib.hid (show holdsS (gs ++ [⟨tg, tag, mcs⟩]) self fs = true by rw [hm1]; rfl)
          clear hti hm1
          have Hb := Lib.hid (HHo.out _ _ wr wr HBw.out TB.out hbww)
          rw [hm1'.out] at Hb
          go_wp2_with fail
          refine Hb.out.mono ?_
          rintro e w6 ⟨rfl, hb6⟩
          have hw6 := hbww.trans (hb6.mono hbww.size)
          have Hb2 := Lib.hid (HHo.out _ _ w6 w6 (HBw.out.below hb6 (Nat.le_refl _)) TB.out hw6)
          rw [hm1'.out] at Hb2
          clear Hb
          go_wp2_with fail
          refine Hb2.out.mono ?_
          rintro e w7 ⟨rfl, hb7⟩
          go_wp2
          go_ret
          exact ⟨rfl, hw6.trans (hb7.mono hw6.size)⟩
end Go.Proofs.YthfdhanhkanhhaaDoor
