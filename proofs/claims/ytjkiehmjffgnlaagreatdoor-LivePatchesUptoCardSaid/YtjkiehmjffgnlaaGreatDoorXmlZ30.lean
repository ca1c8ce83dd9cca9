import Derived.Test.YtjkiehmjffgnlaaGreatDoorXmlZ20
import Derived.Test.YtjkiehmjffgnlaaGreatDoorTrod
import Derived.Test.YtjkiehmjffgnlaaGreatDoorXmlZ1
namespace Go.Proofs.YtjkiehmjffgnlaaGreatDoor
set_option linter.unusedVariables false
set_option linter.unusedSimpArgs false

def attrM (a : AttrT) : Nat := a.name.length + a.value.length + 2
mutual
def bulkT : NodeT → Nat
  | .mk t s n ats ks => t.length + s.length + n.length + 3 + ((ats.map attrM).sum + ats.length) + bulkTL ks
def bulkTL : List NodeT → Nat
  | [] => 0
  | k :: r => bulkT k + 1 + bulkTL r
end
theorem bulkTL_app : ∀ a b : List NodeT, bulkTL (a ++ b) = bulkTL a + bulkTL b
  | [], b => by rw [List.nil_append, bulkTL, Nat.zero_add]
  | x :: a, b => by rw [List.cons_append, bulkTL, bulkTL, bulkTL_app a b]; omega
theorem bulkTL_len : ∀ l : List NodeT, l.length ≤ bulkTL l
  | [] => Nat.zero_le _
  | x :: l => by rw [bulkTL]; have := bulkTL_len l; simp only [List.length_cons]; omega
theorem bulkTL_sum : ∀ l : List NodeT, bulkTL l = (l.map bulkT).sum + l.length
  | [] => rfl
  | x :: l => by rw [bulkTL, bulkTL_sum l]; simp only [List.map_cons, List.sum_cons, List.length_cons]; omega
theorem attrs_form : ∀ l : List AttrT, (l.flatMap attrF).length ≤ 6 * ((l.map attrM).sum + l.length)
  | [] => Nat.zero_le _
  | a :: l => by
    have h1 := attrs_form l
    have h2 := esc_len6 escV_le a.value
    have h3 : (attrF a).length = a.name.length + (a.value.flatMap escV).length + 4 := by
      unfold attrF
      simp only [List.length_cons, List.length_append, List.length_nil]
      omega
    have h4 : attrM a = a.name.length + a.value.length + 2 := rfl
    rw [List.flatMap_cons, List.length_append, List.map_cons, List.sum_cons, List.length_cons, h3, h4]
    omega
mutual
theorem form_bulk : ∀ (n : NodeT) (up : List UInt8), (formN up n).length ≤ 6 * bulkT n
  | .mk t s n ats ks, up => by
    by_cases hn : n = []
    · subst hn
      rw [form_text, bulkT]
      have := esc_len6 escT_le t
      omega
    · rw [form_elem hn, headF_eq, bulkT]
      have h1 := esc_len6 escV_le s
      have h2 := attrs_form ats
      have h3 := forms_bulk ks s
      simp only [List.length_append, List.length_cons]
      split <;> split <;> simp only [List.length_append, List.length_cons, List.length_nil] <;> omega
theorem forms_bulk : ∀ (l : List NodeT) (up : List UInt8), (formL up l).length ≤ 6 * bulkTL l
  | [], up => by rw [formL]; exact Nat.zero_le _
  | x :: l, up => by
    rw [formL, bulkTL, List.length_append]
    have h1 := form_bulk x up
    have h2 := forms_bulk l up
    omega
end
end Go.Proofs.YtjkiehmjffgnlaaGreatDoor
namespace Go.Proofs.YtjkiehmjffgnlaaGreatDoor
set_option linter.unusedVariables false
set_option linter.unusedSimpArgs false
open Go.ChangeShapes Go.WideShapes Go.ChangeAt Go.RowKit Go.Deep

section
variable {H : Type} {enc : TypeId × Value → H}
theorem bulkAll_mem : ∀ (l : List (DataW H)) (d : DataW H), d ∈ l → Rows.uptoBulk d ≤ Rows.uptoBulkAll l
  | x :: l, d, h => by
    simp only [Rows.uptoBulkAll]
    rcases List.mem_cons.1 h with rfl | h
    · omega
    · have := bulkAll_mem l d h; omega
theorem tab_of_trod_el {α : Type} {W : World} {t e : TypeId} {n fuel : Nat} {v : Value} {x : DataW H × List MemPlace} (R : World → List Value → α → Prop) (m : α → Nat) (ht : Tryz.prog.underlying t = some (.slice e)) (hC : Tryz.prog.cellsOf e = n) (hpos : 0 < n)
    (hel : ∀ (cs : List Value) (y : DataW H × List MemPlace) (k : Nat), cs.length = n → Rows.uptoBulk y.1 < Rows.uptoBulk x.1 → DataW.trod enc Tryz.prog W 0 (fun _ => true) true k e cs = some y → ∃ a, R W cs a ∧ m a + 1 ≤ Rows.uptoBulk y.1)
    (h : DataW.trod enc Tryz.prog W 0 (fun _ => true) true fuel t [v] = some x) : ∃ xs : List α, Tab n R W v xs ∧ (xs.map m).sum + xs.length ≤ Rows.uptoBulk x.1 := by
  rcases open_slice ht h with ⟨hv, rfl⟩ | ⟨a, len, cap, M, k, D, Pl, hv, _, hl, hm, hM, rfl, hi⟩
  · injection hv with hv
    subst hv
    exact ⟨[], Tab.nil _ _ _, by simp⟩
  · injection hv with hv
    subst hv
    simp only [if_true] at hM
    subst hM
    rw [hC] at hi
    have hD : ∀ i, i < len → Rows.uptoBulk (D i) < Rows.uptoBulk (.slice ((List.range len).map D) ((List.range (M - len)).map fun j => D (len + j))) := fun i hil => by
      have := bulkAll_mem ((List.range len).map D) (D i) (List.mem_map.2 ⟨i, List.mem_range.2 hil, rfl⟩)
      simp only [Rows.uptoBulk]
      omega
    obtain ⟨xs, hxl, hxs⟩ := exists_list (fun i x => (∃ cs, W.cells? 0 (a.add (i * n)) n = some cs ∧ R W cs x) ∧ m x + 1 ≤ Rows.uptoBulk (D i)) len (fun i hil => by
      obtain ⟨cs, hc, htr⟩ := hi i (by omega)
      obtain ⟨_, hcl, hat⟩ := World.cells?_some hc
      obtain ⟨x, hx, hmx⟩ := hel cs (D i, Pl i) k hcl (hD i hil) htr
      exact ⟨x, ⟨cs, hc, hx⟩, hmx⟩)
    refine ⟨xs, ⟨some a, M, by rw [hxl], by omega, hm, fun j x hj => ?_⟩, ?_⟩
    · have hjl : j < len := by rw [← hxl]; exact (List.getElem?_eq_some_iff.1 hj).1
      obtain ⟨⟨cs, hc, hr⟩, -⟩ := hxs j x hj
      obtain ⟨_, hcl, hat⟩ := World.cells?_some hc
      obtain ⟨cs0, hc0, _⟩ := hi 0 (by omega)
      obtain ⟨_, hcl0, hat0⟩ := World.cells?_some hc0
      have h00 := hat0 0 hpos
      rw [List.getElem?_eq_getElem (by omega), Nat.zero_mul, Go.Deep.add_add] at h00
      have hsp : a.spot = none := addr_plain (v := cs0[0]) h00
      obtain ⟨b, o, sp⟩ := a
      simp only at hsp
      subst hsp
      have hlt := World.block_lt_of_cell? W _ h00
      rw [add_eq] at hlt
      refine ⟨b, o, rfl, hlt, cs, hcl, fun k u hk => ?_, hr⟩
      have hkl : k < n := by rw [← hcl]; exact (List.getElem?_eq_some_iff.1 hk).1
      have h1 := hat k hkl
      rw [Go.Deep.add_add, add_eq] at h1
      rw [h1, hk]
    · have := bulk_range D m len xs hxl (fun i x hx => (hxs i x hx).2)
      simp only [Rows.uptoBulk]
      omega
theorem two' {α : Type} {l : List α} (h : l.length = 2) : ∃ a b, l = [a, b] := by
  match l, h with
  | [a, b], _ => exact ⟨a, b, rfl⟩
theorem five' {α : Type} {l : List α} (h : l.length = 5) : ∃ a b c d e, l = [a, b, c, d, e] := by
  match l, h with
  | [a, b, c, d, e], _ => exact ⟨a, b, c, d, e, rfl⟩
theorem six' {α : Type} {l : List α} (h : l.length = 6) : ∃ a b c d e f, l = [a, b, c, d, e, f] := by
  match l, h with
  | [a, b, c, d, e, f], _ => exact ⟨a, b, c, d, e, f, rfl⟩
theorem str_open {W : World} {k : Nat} {u : Value} {z : DataW H × List MemPlace} (h : DataW.trod enc Tryz.prog W 0 (fun _ => true) true k 9 [u] = some z) : ∃ s : List UInt8, u = .string ⟨s.toArray⟩ ∧ Rows.uptoBulk z.1 = s.length + 1 := by
  obtain ⟨⟨⟨s⟩⟩, hs, hx, -⟩ := DataW.trod_string Tryz.underlying9 h
  injection hs with hs
  exact ⟨s, hs, by rw [hx]; rfl⟩
set_option maxRecDepth 100000 in
theorem attrs_of_cells {W : World} {fuel : Nat} {v : Value} {x : DataW H × List MemPlace} (h : DataW.trod enc Tryz.prog W 0 (fun _ => true) true fuel 44 [v] = some x) : ∃ l, Tab 2 AttrR W v l ∧ (l.map attrM).sum + l.length ≤ Rows.uptoBulk x.1 := by
  exact tab_of_trod (fs := _) (α := AttrT) AttrR attrM Tryz.underlying44 Tryz.underlying87 (by kernel_rfl) (by kernel_rfl) (by decide) (fun cs ys k hc hy hf => by
    obtain ⟨c0, c1, rfl⟩ := two' hc
    obtain ⟨y0, y1, rfl⟩ := two' hy
    obtain ⟨v0, z0, h0, hz0, t0⟩ := hf 0 _ rfl
    obtain ⟨v1, z1, h1, hz1, t1⟩ := hf 1 _ rfl
    injection h0 with h0; injection h1 with h1
    injection hz0 with hz0; injection hz1 with hz1
    subst h0 h1 hz0 hz1
    obtain ⟨s0, rfl, hb0⟩ := str_open t0
    obtain ⟨s1, rfl, hb1⟩ := str_open t1
    refine ⟨⟨s0, s1⟩, rfl, ?_⟩
    simp only [Rows.uptoBulk, Rows.uptoBulkAll, List.map_cons, List.map_nil, hb0, hb1, attrM]
    omega) h
set_option maxRecDepth 100000 in
theorem node_open {W : World} {fuel : Nat} {cs : List Value} {y : DataW H × List MemPlace} (h : DataW.trod enc Tryz.prog W 0 (fun _ => true) true fuel 46 cs = some y) :
    ∃ (t s n : List UInt8) (av kv : Value) (za zk : DataW H × List MemPlace) (k : Nat), cs = [.string ⟨t.toArray⟩, .string ⟨s.toArray⟩, .string ⟨n.toArray⟩, av, kv] ∧ Rows.uptoBulk y.1 = t.length + s.length + n.length + 4 + Rows.uptoBulk za.1 + Rows.uptoBulk zk.1 ∧
      DataW.trod enc Tryz.prog W 0 (fun _ => true) true k 44 [av] = some za ∧ DataW.trod enc Tryz.prog W 0 (fun _ => true) true k 22 [kv] = some zk := by
  obtain ⟨xs, k, _, hx, hcl, hlen, hg⟩ := DataW.trod_struct Tryz.underlying46 h
  have hC : Tryz.prog.cellsOf 46 = 5 := by kernel_rfl
  rw [hC] at hcl
  obtain ⟨c0, c1, c2, c3, c4, rfl⟩ := five' hcl
  obtain ⟨z0, z1, z2, z3, z4, rfl⟩ := five' (l := xs) hlen
  have s1 : Tryz.prog.cellsOf 9 = 1 := by kernel_rfl
  have s2 : Tryz.prog.cellsOf 44 = 1 := by kernel_rfl
  have s3 : Tryz.prog.cellsOf 22 = 1 := by kernel_rfl
  have g0 : DataW.trod enc Tryz.prog W 0 (fun _ => true) true k 9 (([c0, c1, c2, c3, c4].drop 0).take (Tryz.prog.cellsOf 9)) = [z0, z1, z2, z3, z4][0]? := hg 0 _ rfl
  rw [s1] at g0
  have g1 : DataW.trod enc Tryz.prog W 0 (fun _ => true) true k 9 (([c0, c1, c2, c3, c4].drop 1).take (Tryz.prog.cellsOf 9)) = [z0, z1, z2, z3, z4][1]? := hg 1 _ rfl
  rw [s1] at g1
  have g2 : DataW.trod enc Tryz.prog W 0 (fun _ => true) true k 9 (([c0, c1, c2, c3, c4].drop 2).take (Tryz.prog.cellsOf 9)) = [z0, z1, z2, z3, z4][2]? := hg 2 _ rfl
  rw [s1] at g2
  have g3 : DataW.trod enc Tryz.prog W 0 (fun _ => true) true k 44 (([c0, c1, c2, c3, c4].drop 3).take (Tryz.prog.cellsOf 44)) = [z0, z1, z2, z3, z4][3]? := hg 3 _ rfl
  rw [s2] at g3
  have g4 : DataW.trod enc Tryz.prog W 0 (fun _ => true) true k 22 (([c0, c1, c2, c3, c4].drop 4).take (Tryz.prog.cellsOf 22)) = [z0, z1, z2, z3, z4][4]? := hg 4 _ rfl
  rw [s3] at g4
  obtain ⟨t, rfl, hb0⟩ := str_open (u := c0) (z := z0) g0
  obtain ⟨s, rfl, hb1⟩ := str_open (u := c1) (z := z1) g1
  obtain ⟨n, rfl, hb2⟩ := str_open (u := c2) (z := z2) g2
  refine ⟨t, s, n, c3, c4, z3, z4, k, rfl, ?_, g3, g4⟩
  rw [hx]
  simp only [Rows.uptoBulk, Rows.uptoBulkAll, List.map_cons, List.map_nil, hb0, hb1, hb2]
  omega
theorem nodes_of_cells {W : World} : ∀ (B : Nat) {fuel : Nat} {v : Value} {x : DataW H × List MemPlace}, Rows.uptoBulk x.1 < B → DataW.trod enc Tryz.prog W 0 (fun _ => true) true fuel 22 [v] = some x → ∃ l, NodesP anyB W v l ∧ bulkTL l ≤ Rows.uptoBulk x.1
  | 0, _, _, _, hB, _ => absurd hB (Nat.not_lt_zero _)
  | B + 1, fuel, v, x, hB, h => by
    obtain ⟨l, hl, hm⟩ := tab_of_trod_el (W := W) (α := NodeT) (NodeP anyB) bulkT Tryz.underlying22 (n := 5) (by kernel_rfl) (by decide) (fun cs y k hc hlt htr => by
      obtain ⟨t, s, n, av, kv, za, zk, k', rfl, hb, ha, hk⟩ := node_open htr
      obtain ⟨ats, ht, hta⟩ := attrs_of_cells ha
      obtain ⟨ks, hks, hkb⟩ := nodes_of_cells B (by omega) hk
      refine ⟨.mk t s n ats ks, NodeP.of (TabP.any ht) hks, ?_⟩
      rw [bulkT]
      omega) h
    exact ⟨l, TabP.any hl, by rw [bulkTL_sum]; exact hm⟩
theorem node_of_cells {W : World} {fuel : Nat} {cs : List Value} {y : DataW H × List MemPlace} (h : DataW.trod enc Tryz.prog W 0 (fun _ => true) true fuel 46 cs = some y) : ∃ n, NodeP anyB W cs n ∧ bulkT n + 1 ≤ Rows.uptoBulk y.1 := by
  obtain ⟨t, s, n, av, kv, za, zk, k', rfl, hb, ha, hk⟩ := node_open h
  obtain ⟨ats, ht, hta⟩ := attrs_of_cells ha
  obtain ⟨ks, hks, hkb⟩ := nodes_of_cells _ (Nat.lt_succ_self _) hk
  refine ⟨.mk t s n ats ks, NodeP.of (TabP.any ht) hks, ?_⟩
  rw [bulkT]
  omega
end
end Go.Proofs.YtjkiehmjffgnlaaGreatDoor
namespace Go.Proofs.YtjkiehmjffgnlaaGreatDoor
set_option linter.unusedVariables false
set_option linter.unusedSimpArgs false
open Go.RowKit

/-- what cells say, asz long asz the blocks of P's are kept. -/
def Mov {α : Type} (R : (Nat → Prop) → World → List Value → α → Prop) : Prop := ∀ (P Q : Nat → Prop) (w w' : World) (cs : List Value) (x : α), R P w cs x → Moves P Q w w' → R Q w' cs x
def RowG {α : Type} (e : TypeId) (n : Nat) (R : (Nat → Prop) → World → List Value → α → Prop) (Q : Nat → Prop) (B : Nat) (w : World) (v : Value) (xs : List α) : Prop :=
  ∃ rows : List (List Value), OwnT e n B rows v w ∧ rows.length = xs.length ∧ ∀ (j : Nat) (r : List Value) (x : α), rows[j]? = some r → xs[j]? = some x → R (fun k => Q k ∧ some k ≠ v.ownBlock) w r x
section
variable {α : Type} {e : TypeId} {n : Nat} {R : (Nat → Prop) → World → List Value → α → Prop} {Q : Nat → Prop} {B : Nat} {w w' : World} {v v' : Value} {xs : List α}
theorem RowG.nil (e : TypeId) (n : Nat) (R : (Nat → Prop) → World → List Value → α → Prop) (Q : Nat → Prop) (B : Nat) (w : World) : RowG e n R Q B w (.slice none 0 0) [] := ⟨[], OwnT.nil _ _ _ _, rfl, fun j r x h => by simp at h⟩
theorem RowG.lt (h : RowG e n R Q B w v xs) : ∀ k, v.ownBlock = some k → B ≤ k ∧ k < w.heap.size := by
  obtain ⟨rows, h1, -, -⟩ := h
  exact h1.lt
theorem RowG.form (h : RowG e n R Q B w v xs) : ∃ A cap, v = .slice A xs.length cap ∧ xs.length ≤ cap ∧ cap ≤ maxLen := by
  obtain ⟨rows, h1, h2, -⟩ := h
  rcases h1.1.2 with ⟨hv, h0⟩ | ⟨g, cap, cur, hv, hb, hg, hn, hm, hs, ht⟩
  · exact ⟨none, 0, by rw [hv, ← h2, h0], by omega, Nat.zero_le _⟩
  · exact ⟨_, cap, by rw [hv, h2], by omega, hm⟩
theorem RowG.tab (hM : Mov R) (h : RowG e n R Q B w v xs) : Tab n (R anyB) w v xs := by
  obtain ⟨rows, h1, h2, h3⟩ := h
  exact h1.tab h2 fun j x r hx hr => hM _ _ _ _ _ _ (h3 j r x hr hx) (Moves.same w fun _ _ _ => trivial)
theorem RowG.under (hM : Mov R) (h : RowG e n R Q B w v xs) (hb : Below w.heap.size w w') : RowG e n R Q B w' v xs := by
  obtain ⟨rows, h1, h2, h3⟩ := h
  exact ⟨rows, h1.below hb, h2, fun j r x hr hx => hM _ _ _ _ _ _ (h3 j r x hr hx) (Moves.below hb fun k hk _ => hk)⟩
theorem RowG.draws (hM : Mov R) (h : RowG e n R Q B w v xs) (k : Nat) : RowG e n R Q B (w.drewN k) v xs := h.under hM (below_draws (Below.refl _ _) k)
theorem RowG.step {q : Nat} (hM : Mov R) (h : RowG e n R Q B w v xs) (hg : w.grownBy w' (some q)) (hq : ¬ Q q) (hv : v.ownBlock ≠ some q) : RowG e n R Q B w' v xs := by
  obtain ⟨rows, h1, h2, h3⟩ := h
  refine ⟨rows, h1.grown hg (fun k hk e => ?_), h2, fun j r x hr hx => hM _ _ _ _ _ _ (h3 j r x hr hx) (Moves.grown hg fun k hk _ => ⟨hk, fun e => ?_⟩)⟩
  · injection e with e; subst e; exact hv hk
  · injection e with e; subst e; exact hq hk.1
theorem RowG.moves (hM : Mov R) (h : RowG e n R Q B w v xs) (hm : Moves (fun k => Q k ∧ some k ≠ v.ownBlock) (fun k => Q k ∧ some k ≠ v.ownBlock) w w') (hv : ∀ k, v.ownBlock = some k → w'.heap[k]? = w.heap[k]?) : RowG e n R Q B w' v xs := by
  obtain ⟨rows, h1, h2, h3⟩ := h
  refine ⟨rows, ⟨⟨h1.1.1, ?_⟩, h1.2⟩, h2, fun j r x hr hx => hM _ _ _ _ _ _ (h3 j r x hr hx) hm⟩
  rcases h1.1.2 with h0 | ⟨g, cap, cur, hv', hbg, hg, rest⟩
  · exact .inl h0
  · exact .inr ⟨g, cap, cur, hv', hbg, (hv g (by rw [hv']; rfl)).trans hg, rest⟩
theorem RowG.app (hM : Mov R) {rows : List (List Value)} {arr : List Value} {x : α} (h1 : OwnT e n B rows v w) (h2 : rows.length = xs.length) (h3 : ∀ (j : Nat) (r : List Value) (x : α), rows[j]? = some r → xs[j]? = some x → R (fun k => Q k ∧ some k ≠ v.ownBlock) w r x) (hx : R (fun k => Q k ∧ some k ≠ v.ownBlock) w arr x)
    (ho : OwnT e n B (rows ++ [arr]) v' w') (hg : w.grownBy w' v.ownBlock) (hn : v'.ownBlock = v.ownBlock ∨ ∃ k, v'.ownBlock = some k ∧ w.heap.size ≤ k) : RowG e n R Q B w' v' (xs ++ [x]) := by
  have hm : Moves (fun k => Q k ∧ some k ≠ v.ownBlock) (fun k => Q k ∧ some k ≠ v'.ownBlock) w w' := ⟨hg.size, fun k hk hlt => by
    refine ⟨⟨hk.1, ?_⟩, hg.block k hlt hk.2⟩
    rcases hn with hn | ⟨j, hj, hjk⟩
    · rw [hn]; exact hk.2
    · rw [hj]; intro e; injection e with e; omega⟩
  refine ⟨rows ++ [arr], ho, by simp [h2], fun j r y hr hy => ?_⟩
  rcases Nat.lt_or_ge j rows.length with hj | hj
  · rw [List.getElem?_append_left hj] at hr
    rw [List.getElem?_append_left (by rw [← h2]; exact hj)] at hy
    exact hM _ _ _ _ _ _ (h3 j r y hr hy) hm
  · rw [List.getElem?_append_right hj] at hr
    rw [List.getElem?_append_right (by rw [← h2]; exact hj), ← h2] at hy
    have hj0 : j - rows.length = 0 := by have := (List.getElem?_eq_some_iff.1 hr).1; simp at this; omega
    rw [hj0] at hr hy
    injection hr with hr
    injection hy with hy
    subst hr hy
    exact hM _ _ _ _ _ _ hx hm
theorem RowG.lit {b : Nat} {rows : List (List Value)} (h : w.heap[b]? = some (.cells rows.flatten.toArray e (0, 0))) (hl : ∀ r ∈ rows, r.length = n) (hx : rows.length = xs.length) (hm : xs.length ≤ maxLen) (hB : B ≤ b)
    (hr : ∀ (j : Nat) (r : List Value) (x : α), rows[j]? = some r → xs[j]? = some x → R (fun k => Q k ∧ some k ≠ some b) w r x) : RowG e n R Q B w (.slice (some ⟨b, 0, none⟩) xs.length xs.length) xs := by
  have hfl := flatten_len hl
  refine ⟨rows, ⟨⟨by rw [hfl], .inr ⟨b, xs.length, rows.flatten.toArray, by rw [hx], hB, h, by omega, hm, by simp only [List.size_toArray]; rw [hfl, hx], ?_⟩⟩, hl⟩, hx, hr⟩
  exact List.take_of_length_le (by simp only [hfl]; omega)
theorem RowG.beside {v1 : Value} (hM : Mov R) (h : RowG e n R (fun _ => False) B w v xs) (hg : w.grownBy w' v1.ownBlock) (hne : ∀ k, v1.ownBlock = some k → v.ownBlock ≠ some k) : RowG e n R (fun _ => False) B w' v xs := by
  obtain ⟨rows, r1, r2, r3⟩ := h
  exact ⟨rows, r1.grown hg (fun k hk e => hne k e.symm hk), r2, fun j r x hr hx => hM _ _ _ _ _ _ (r3 j r x hr hx) ⟨hg.size, fun k hk => hk.1.elim⟩⟩
end
end Go.Proofs.YtjkiehmjffgnlaaGreatDoor
