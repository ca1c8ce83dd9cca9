/-
  For the walk of ReplyMany: rows of responses that the call itself made, one cell of them written; responses that came in. No condition.
-/
import Derived.Test.YtlkbfehdiopkbaaGreatDoorRepQ
import Derived.Test.YtlkbfehdiopkbaaGreatDoorTab
namespace Go.Proofs.YtlkbfehdiopkbaaGreatDoor
open Go.RowKit

theorem flatten_set {n : Nat} : ∀ {rows : List (List Value)}, (∀ r ∈ rows, r.length = n) → ∀ (j : Nat) (r : List Value), rows[j]? = some r → ∀ c, c < n → ∀ u, rows.flatten.set (j * n + c) u = (rows.set j (r.set c u)).flatten
  | [], _, j, r, h, _, _, _ => by simp at h
  | x :: rows, hl, 0, r, h, c, hc, u => by
    simp at h
    subst h
    have hx := hl x (by simp)
    rw [List.flatten_cons, Nat.zero_mul, Nat.zero_add, List.set_append_left _ _ (by omega)]
    rfl
  | x :: rows, hl, j + 1, r, h, c, hc, u => by
    have hx := hl x (by simp)
    have ih := flatten_set (rows := rows) (fun r hr => hl r (List.mem_cons_of_mem _ hr)) j r (by simpa using h) c hc u
    rw [List.flatten_cons, List.set_append_right _ _ (by rw [hx, Nat.succ_mul]; omega), List.set_cons_succ, List.flatten_cons, ← ih]
    congr 2
    rw [hx, Nat.succ_mul]; omega
theorem OwnT.stored {e : TypeId} {n B g cap : Nat} {rows : List (List Value)} {w : World} (h : OwnT e n B rows (.slice (some ⟨g, 0, none⟩) rows.length cap) w) (j c : Nat) (r : List Value) (hr : rows[j]? = some r) (hc : c < n) (u : Value) :
    OwnT e n B (rows.set j (r.set c u)) (.slice (some ⟨g, 0, none⟩) rows.length cap) (w.setCell ⟨g, j * n + c, none⟩ u) := by
  have h1 := (World.ownsRow.stored h.1 (j * n + c) u).1
  rw [flatten_set h.2 j r hr c hc u] at h1
  refine ⟨by rw [List.length_set]; exact h1, fun x hx => ?_⟩
  rcases List.mem_or_eq_of_mem_set hx with hx | rfl
  · exact h.2 x hx
  · rw [List.length_set]; exact h.2 r (List.mem_of_getElem? hr)
theorem OwnT.cell {e : TypeId} {n B g m cap : Nat} {rows : List (List Value)} {w : World} (h : OwnT e n B rows (.slice (some ⟨g, 0, none⟩) m cap) w) (j : Nat) (r : List Value) (hr : rows[j]? = some r) (c : Nat) (u : Value) (hu : r[c]? = some u) :
    w.cell? ⟨g, j * n + c, none⟩ = some u := by
  have hc : c < n := by rw [← h.2 r (List.mem_of_getElem? hr)]; exact (List.getElem?_eq_some_iff.1 hu).1
  have := World.ownsRow.cells h.1 (g := g) rfl (j * n + c) u (by rw [flatten_at h.2 j r hr c hc]; exact hu)
  rw [add_eq, Nat.zero_add] at this
  exact this
theorem OwnT.form {e : TypeId} {n B : Nat} {rows : List (List Value)} {v : Value} {w : World} (h : OwnT e n B rows v w) (hn : 0 < rows.length) : ∃ g cap, v = .slice (some ⟨g, 0, none⟩) rows.length cap ∧ B ≤ g ∧ g < w.heap.size := by
  have hlt := h.lt
  rcases h.1.2 with ⟨_, h0⟩ | ⟨g, cap, cur, hv, hb, hg, _⟩
  · omega
  · exact ⟨g, cap, hv, hb, (hlt g (by rw [hv]; rfl)).2⟩
theorem OwnT.free {e : TypeId} {n B g cap : Nat} {rows : List (List Value)} {w : World} (h : OwnT e n B rows (.slice (some ⟨g, 0, none⟩) rows.length cap) w) (j : Nat) : w.frozen? ⟨g, j, none⟩ = false := World.ownsRow.frozenAt h.1 j
/-- a response's cells. -/
def rcells (r : RespT) (hv : Value) : List Value := [.int .i64 r.status, hv, .string ⟨r.body.toArray⟩, .bool r.head, .bool r.close]
/-- the rows from place i on are these responses; their headers lie in world w. -/
def GR (w : World) (goods : List RespT) (i : Nat) (rows : List (List Value)) : Prop :=
  rows.length = goods.length ∧ ∀ (j : Nat) g, goods[j]? = some g → i ≤ j → ∃ hv, rows[j]? = some (rcells g hv) ∧ Hdrs w hv g.hdrs
theorem GR.nil (w : World) : GR w [] 0 [] := ⟨rfl, fun j g h => by simp at h⟩
theorem GR.app {w : World} {goods : List RespT} {rows : List (List Value)} (h : GR w goods 0 rows) (g : RespT) (hv : Value) (hh : Hdrs w hv g.hdrs) : GR w (goods ++ [g]) 0 (rows ++ [rcells g hv]) := by
  refine ⟨by simp [h.1], fun j x hx _ => ?_⟩
  by_cases hj : j < goods.length
  · rw [List.getElem?_append_left hj] at hx
    obtain ⟨hv', h1, h2⟩ := h.2 j x hx (Nat.zero_le _)
    exact ⟨hv', by rw [List.getElem?_append_left (by rw [h.1]; exact hj)]; exact h1, h2⟩
  · rw [List.getElem?_append_right (by omega)] at hx
    obtain ⟨m, hm⟩ : ∃ m, j - goods.length = m := ⟨_, rfl⟩
    rw [hm] at hx
    cases m with
    | succ m => simp at hx
    | zero =>
      simp at hx
      subst hx
      refine ⟨hv, ?_, hh⟩
      rw [List.getElem?_append_right (by rw [h.1]; omega), h.1, hm]
      rfl
theorem GR.next {w : World} {goods : List RespT} {i : Nat} {rows : List (List Value)} (h : GR w goods i rows) : GR w goods (i + 1) rows := ⟨h.1, fun j g hg hj => h.2 j g hg (by omega)⟩
theorem GR.stored {w : World} {goods : List RespT} {i : Nat} {rows : List (List Value)} (h : GR w goods i rows) (r : List Value) : GR w goods (i + 1) (rows.set i r) :=
  ⟨by rw [List.length_set]; exact h.1, fun j g hg hj => by
    obtain ⟨hv, h1, h2⟩ := h.2 j g hg (by omega)
    exact ⟨hv, by rw [List.getElem?_set_ne (by omega)]; exact h1, h2⟩⟩
/-- how long the forms of these are, at the most. -/
def fsum (l : List RespT) : Nat := (l.map fun r => (r.hdrs.flatMap hdrF).length + 70000).sum
theorem fsum_cons (r : RespT) (l : List RespT) : fsum (r :: l) = (r.hdrs.flatMap hdrF).length + 70000 + fsum l := by simp [fsum]
theorem elemR : ElemN Tryz.prog 62 49 5 (.agg #[.int .i64 0, .slice none 0 0, .string ⟨#[]⟩, .bool false, .bool false]) 56 := ⟨Tryz.underlying62, by kernel_rfl, rfl, by omega, by omega⟩
/-- one cell of a response's row that came in. -/
def RespR' (w : World) (cs : List Value) (r : RespT) : Prop := ∃ hv, cs = rcells r hv ∧ Hdrs w hv r.hdrs
theorem resp_at {w wr : World} {A : Option Addr} {n cap : Nat} {l : List RespT} (h : Tab 5 RespR' w (.slice A n cap) l) (hb : Below w.heap.size w wr) (j : Nat) (r : RespT) (hj : l[j]? = some r) :
    ∃ b o hv, A = some ⟨b, o, none⟩ ∧ Hdrs w hv r.hdrs ∧ wr.cell? ⟨b, o + j * 5, none⟩ = some (.int .i64 r.status) ∧ wr.cell? ⟨b, o + j * 5 + 1, none⟩ = some hv ∧ wr.cell? ⟨b, o + j * 5 + 2, none⟩ = some (.string ⟨r.body.toArray⟩) ∧
      wr.cell? ⟨b, o + j * 5 + 3, none⟩ = some (.bool r.head) ∧ wr.cell? ⟨b, o + j * 5 + 4, none⟩ = some (.bool r.close) := by
  obtain ⟨A', cap', hv, _, _, hc⟩ := h
  injection hv with e1 e2 e3
  subst e1
  obtain ⟨b, o, ha, hbl, cs, hl, hcell, hv, rfl, hh⟩ := hc j r hj
  have key : ∀ k u, (rcells r hv)[k]? = some u → wr.cell? ⟨b, o + j * 5 + k, none⟩ = some u := fun k u hk => by
    have := hcell k u hk
    rw [Nat.add_assoc]
    exact (hb.cell (p := ⟨b, o + (j * 5 + k), none⟩) hbl).trans this
  exact ⟨b, o, hv, ha, hh, key 0 _ rfl, key 1 _ rfl, key 2 _ rfl, key 3 _ rfl, key 4 _ rfl⟩
theorem rcells_one (r : RespT) (A : Option Addr) (n cap : Nat) : ∀ u ∈ (#[.int .i64 r.status, .slice A n cap, .string ⟨r.body.toArray⟩, .bool r.head, .bool r.close] : Array Value).toList, u.oneCell' = true := by
  intro u hu
  have : u = .int .i64 r.status ∨ u = .slice A n cap ∨ u = .string ⟨r.body.toArray⟩ ∨ u = .bool r.head ∨ u = .bool r.close := by simpa using hu
  rcases this with h | h | h | h | h <;> rw [h] <;> rfl
theorem keep10 {wa wx wy : World} {b g j : Nat} {e0 e1 e2 e3 e4 d0 d1 d2 d3 d4 : Value} (h : wx.cell? ⟨b, 0, none⟩ = some e0 ∧ wx.cell? ⟨b, 1, none⟩ = some e1 ∧ wx.cell? ⟨b, 2, none⟩ = some e2 ∧ wx.cell? ⟨b, 3, none⟩ = some e3 ∧ wx.cell? ⟨b, 4, none⟩ = some e4 ∧ wx.cell? ⟨g, j * 5, none⟩ = some d0 ∧ wx.cell? ⟨g, j * 5 + 1, none⟩ = some d1 ∧ wx.cell? ⟨g, j * 5 + 2, none⟩ = some d2 ∧ wx.cell? ⟨g, j * 5 + 3, none⟩ = some d3 ∧ wx.cell? ⟨g, j * 5 + 4, none⟩ = some d4 ∧ Below wa.heap.size wa wx) (hb : Below wx.heap.size wx wy) :
    wy.cell? ⟨b, 0, none⟩ = some e0 ∧ wy.cell? ⟨b, 1, none⟩ = some e1 ∧ wy.cell? ⟨b, 2, none⟩ = some e2 ∧ wy.cell? ⟨b, 3, none⟩ = some e3 ∧ wy.cell? ⟨b, 4, none⟩ = some e4 ∧ wy.cell? ⟨g, j * 5, none⟩ = some d0 ∧ wy.cell? ⟨g, j * 5 + 1, none⟩ = some d1 ∧ wy.cell? ⟨g, j * 5 + 2, none⟩ = some d2 ∧ wy.cell? ⟨g, j * 5 + 3, none⟩ = some d3 ∧ wy.cell? ⟨g, j * 5 + 4, none⟩ = some d4 ∧ Below wa.heap.size wa wy := by
  obtain ⟨h0, h1, h2, h3, h4, g0, g1, g2, g3, g4, hw⟩ := h
  have ck : ∀ {a : Addr} {v : Value}, wx.cell? a = some v → wy.cell? a = some v := fun {a v} h => (hb.cell (World.block_lt_of_cell? wx a h)).trans h
  exact ⟨ck h0, ck h1, ck h2, ck h3, ck h4, ck g0, ck g1, ck g2, ck g3, ck g4, hw.trans (hb.mono hw.size)⟩
end Go.Proofs.YtlkbfehdiopkbaaGreatDoor
