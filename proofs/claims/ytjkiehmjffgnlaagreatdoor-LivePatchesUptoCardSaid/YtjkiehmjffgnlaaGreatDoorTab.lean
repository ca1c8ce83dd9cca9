import Derived.Test.YtjkiehmjffgnlaaGreatDoorMem
import Derived.Maps.AppendAt
namespace Go.Proofs.YtjkiehmjffgnlaaGreatDoor
open Go.RowKit

theorem Below.toGrown {w w' : World} (h : Below w.heap.size w w') (row : Option Nat) : w.grownBy w' row :=
  ⟨h.os, h.tape, h.output, h.size, fun k hk _ => h.block k hk⟩
theorem grown_trans {w w1 w2 : World} {row : Option Nat} (h1 : w.grownBy w1 row) (h2 : w1.grownBy w2 row) : w.grownBy w2 row :=
  ⟨h2.os.trans h1.os, h2.tape.trans h1.tape, h2.output.trans h1.output, Nat.le_trans h1.size h2.size,
    fun k hk hn => (h2.block k (Nat.lt_of_lt_of_le hk h1.size) hn).trans (h1.block k hk hn)⟩
/-- blocks below B and other than the row: kept. -/
theorem grown_below {w0 w w' : World} {row : Option Nat} {B : Nat} (h : Below B w0 w) (hg : w.grownBy w' row) (hB : B ≤ w.heap.size) (hr : ∀ k, row = some k → B ≤ k) : Below B w0 w' :=
  h.grown hg hB hr
theorem cell_alloc {w : World} {p : Addr} {v : Value} (h : w.cell? p = some v) (o : Obj) : (w.alloc o).cell? p = some v := by
  rw [((Below.refl w.heap.size w).alloc (Nat.le_refl _) o).cell (World.block_lt_of_cell? w p h)]
  exact h
theorem cell_new (w : World) (arr : Array Value) (t : TypeId) (k : Nat) : (w.alloc (.cells arr t)).cell? ⟨w.heap.size, k, none⟩ = arr[k]? :=
  cell_of_row _ _ _ _ _ _ (heap_alloc_new w _)
section
variable {α : Type}
def Tab (n : Nat) (R : World → List Value → α → Prop) (w : World) (v : Value) (xs : List α) : Prop :=
  ∃ A cap, v = .slice A xs.length cap ∧ xs.length ≤ cap ∧ cap ≤ maxLen ∧
    ∀ j x, xs[j]? = some x → ∃ b o, A = some ⟨b, o, none⟩ ∧ b < w.heap.size ∧ ∃ cs, cs.length = n ∧ (∀ k u, cs[k]? = some u → w.cell? ⟨b, o + (j * n + k), none⟩ = some u) ∧ R w cs x
variable {n : Nat} {R : World → List Value → α → Prop}
theorem Tab.below {w w' : World} {v : Value} {xs : List α} {B : Nat} (h : Tab n R w v xs) (hb : Below B w w') (hB : w.heap.size ≤ B) (hR : ∀ cs x, R w cs x → R w' cs x) : Tab n R w' v xs := by
  obtain ⟨A, cap, hv, h1, h2, hc⟩ := h
  refine ⟨A, cap, hv, h1, h2, fun j x hj => ?_⟩
  obtain ⟨b, o, ha, hb', cs, hl, hcell, hr⟩ := hc j x hj
  refine ⟨b, o, ha, Nat.lt_of_lt_of_le hb' hb.size, cs, hl, fun k u hk => ?_, hR _ _ hr⟩
  rw [hb.cell (p := ⟨b, o + (j * n + k), none⟩) (by show b < B; omega)]
  exact hcell k u hk
theorem Tab.grown {w w' : World} {v : Value} {xs : List α} {row : Option Nat} (h : Tab n R w v xs) (hg : w.grownBy w' row) (hne : ∀ b, v.ownBlock = some b → some b ≠ row) (hR : ∀ cs x, x ∈ xs → R w cs x → R w' cs x) : Tab n R w' v xs := by
  obtain ⟨A, cap, hv, h1, h2, hc⟩ := h
  refine ⟨A, cap, hv, h1, h2, fun j x hj => ?_⟩
  obtain ⟨b, o, ha, hb', cs, hl, hcell, hr⟩ := hc j x hj
  refine ⟨b, o, ha, Nat.lt_of_lt_of_le hb' hg.size, cs, hl, fun k u hk => ?_, hR _ _ (List.mem_of_getElem? hj) hr⟩
  exact hg.cell (hcell k u hk) (hne b (by rw [hv, ha]; rfl))
theorem Tab.nil (n : Nat) (R : World → List Value → α → Prop) (w : World) : Tab n R w (.slice none 0 0) [] :=
  ⟨none, 0, rfl, Nat.le_refl _, Nat.zero_le _, fun j l hj => by simp at hj⟩
theorem Tab.flat {w : World} {v : Value} {xs : List α} (h : Tab n R w v xs) : ∃ A cap, ∃ rows : List (List Value), v = .slice A xs.length cap ∧ xs.length ≤ cap ∧ cap ≤ maxLen ∧ rows.length = xs.length ∧ (∀ r ∈ rows, r.length = n) ∧
    (∀ (j : Nat) (x : α) (r : List Value), xs[j]? = some x → rows[j]? = some r → R w r x) ∧ (xs ≠ [] → ∃ b o, A = some ⟨b, o, none⟩ ∧ b < w.heap.size ∧ ∀ (j : Nat) (r : List Value), rows[j]? = some r → ∀ k u, r[k]? = some u → w.cell? ⟨b, o + (j * n + k), none⟩ = some u) := by
  obtain ⟨A, cap, rfl, h1, h2, hc⟩ := h
  have key : ∀ ys : List α, ∀ i, (∀ j x, ys[j]? = some x → ∃ b o, A = some ⟨b, o, none⟩ ∧ b < w.heap.size ∧ ∃ cs, cs.length = n ∧ (∀ k u, cs[k]? = some u → w.cell? ⟨b, o + ((i + j) * n + k), none⟩ = some u) ∧ R w cs x) →
      ∃ rows : List (List Value), rows.length = ys.length ∧ (∀ r ∈ rows, r.length = n) ∧ (∀ (j : Nat) (x : α) (r : List Value), ys[j]? = some x → rows[j]? = some r → R w r x) ∧
        (∀ b o, A = some ⟨b, o, none⟩ → ∀ (j : Nat) (r : List Value), rows[j]? = some r → ∀ k u, r[k]? = some u → w.cell? ⟨b, o + ((i + j) * n + k), none⟩ = some u) := by
    intro ys
    induction ys with
    | nil => intro i _; exact ⟨[], rfl, (fun r hr => by cases hr), (fun j x r hx => by simp at hx), (fun b o _ j r hr => by simp at hr)⟩
    | cons y ys ih =>
      intro i hy
      obtain ⟨rows, hl, hr, hR, hcell⟩ := ih (i + 1) (fun j x hj => by
        have := hy (j + 1) x (by simpa using hj)
        rw [show i + (j + 1) = i + 1 + j by omega] at this
        exact this)
      obtain ⟨b, o, hA, _, cs, hcl, hcc, hcr⟩ := hy 0 y rfl
      refine ⟨cs :: rows, by simp [hl], (fun r hr' => ?_), (fun j x r hx hr' => ?_), (fun b' o' hA' j r hr' => ?_)⟩
      · rcases List.mem_cons.1 hr' with rfl | hr'
        · exact hcl
        · exact hr r hr'
      · cases j with
        | zero => simp at hx hr'; subst hx hr'; exact hcr
        | succ j => exact hR j x r (by simpa using hx) (by simpa using hr')
      · cases j with
        | zero =>
          rw [hA] at hA'
          injection hA' with e
          injection e with e1 e2 e3
          subst e1 e2
          simp at hr'
          subst hr'
          exact hcc
        | succ j =>
          rw [show i + (j + 1) = i + 1 + j by omega]
          exact hcell b' o' hA' j r (by simpa using hr')
  obtain ⟨rows, hl, hr, hR, hcell⟩ := key xs 0 (fun j x hj => by rw [Nat.zero_add]; exact hc j x hj)
  refine ⟨A, cap, rows, rfl, h1, h2, hl, hr, hR, fun hx => ?_⟩
  cases xs with
  | nil => exact absurd rfl hx
  | cons x xs =>
    obtain ⟨b, o, hA, hb, _⟩ := hc 0 x rfl
    refine ⟨b, o, hA, hb, fun j r hj => ?_⟩
    have := hcell b o hA j r hj
    rw [Nat.zero_add] at this
    exact this
end

theorem flatten_at {n : Nat} : ∀ {rows : List (List Value)}, (∀ r ∈ rows, r.length = n) → ∀ (j : Nat) (r : List Value), rows[j]? = some r → ∀ k, k < n → rows.flatten[j * n + k]? = r[k]?
  | [], _, j, r, h, _, _ => by simp at h
  | r0 :: rows, hr, j, r, h, k, hk => by
    have h0 := hr r0 (List.mem_cons_self ..)
    cases j with
    | zero =>
      simp at h; subst h
      rw [List.flatten_cons, Nat.zero_mul, Nat.zero_add, List.getElem?_append_left (by omega)]
    | succ j =>
      rw [List.flatten_cons, List.getElem?_append_right (by rw [h0, Nat.succ_mul]; omega), show (j + 1) * n + k - r0.length = j * n + k by rw [h0, Nat.succ_mul]; omega]
      exact flatten_at (fun r' h' => hr r' (List.mem_cons_of_mem _ h')) j r (by simpa using h) k hk
theorem flatten_len {n : Nat} : ∀ {rows : List (List Value)}, (∀ r ∈ rows, r.length = n) → rows.flatten.length = rows.length * n
  | [], _ => by simp
  | r0 :: rows, hr => by
    rw [List.flatten_cons, List.length_append, hr r0 (List.mem_cons_self ..), flatten_len (fun r' h' => hr r' (List.mem_cons_of_mem _ h')), List.length_cons, Nat.succ_mul]; omega
theorem flatten_split {n : Nat} {rows : List (List Value)} (hn : 0 < n) (hr : ∀ r ∈ rows, r.length = n) (i : Nat) (u : Value) (h : rows.flatten[i]? = some u) : ∃ r, rows[i / n]? = some r ∧ r[i % n]? = some u := by
  have hlt : i < rows.flatten.length := (List.getElem?_eq_some_iff.1 h).1
  rw [flatten_len hr] at hlt
  have hj : i / n < rows.length := Nat.div_lt_of_lt_mul (by rw [Nat.mul_comm]; exact hlt)
  have hk : i % n < n := Nat.mod_lt _ hn
  refine ⟨rows[i / n], List.getElem?_eq_getElem hj, ?_⟩
  rw [← flatten_at hr (i / n) _ (List.getElem?_eq_getElem hj) (i % n) hk, Nat.div_add_mod' i n]
  exact h

def OwnT (e : TypeId) (n B : Nat) (rows : List (List Value)) (v : Value) (w : World) : Prop := w.ownsRow B e n v rows.length rows.flatten ∧ ∀ r ∈ rows, r.length = n
section
variable {e : TypeId} {n B : Nat} {rows : List (List Value)} {v : Value} {w w' : World}
theorem OwnT.nil (e : TypeId) (n B : Nat) (w : World) : OwnT e n B [] (.slice none 0 0) w := ⟨World.ownsRow_nil w B e n, fun r hr => by cases hr⟩
theorem OwnT.made (e : TypeId) {n B : Nat} (w : World) (cur : Array Value) (cap : Nat) (hB : B ≤ w.heap.size) (hm : cap ≤ maxLen) (hs : cur.size = cap * n) : OwnT e n B [] (.slice (some ⟨w.heap.size, 0, none⟩) 0 cap) (w.alloc (.cells cur e)) :=
  ⟨World.ownsRow_made w cur cap hB hm hs, fun r hr => by cases hr⟩
theorem OwnT.below (h : OwnT e n B rows v w) (hb : Below w.heap.size w w') : OwnT e n B rows v w' :=
  ⟨World.ownsRow.kept (row := none) h.1 ⟨hb.os, hb.tape, hb.output, hb.size, fun k hk _ => hb.block k hk⟩ (by cases v.ownBlock <;> simp), h.2⟩
theorem OwnT.grown {row : Option Nat} (h : OwnT e n B rows v w) (hg : w.grownBy w' row) (hne : ∀ b, v.ownBlock = some b → some b ≠ row) : OwnT e n B rows v w' :=
  ⟨World.ownsRow.kept h.1 hg (by cases hv : v.ownBlock with | none => exact .inl rfl | some b => exact .inr (hne b hv)), h.2⟩
theorem OwnT.alloc (h : OwnT e n B rows v w) (o : Obj) : OwnT e n B rows v (w.alloc o) := ⟨World.ownsRow.alloc h.1 o, h.2⟩
theorem OwnT.drewN (h : OwnT e n B rows v w) (k : Nat) : OwnT e n B rows v (w.drewN k) := h
theorem OwnT.lt (h : OwnT e n B rows v w) : ∀ k, v.ownBlock = some k → B ≤ k ∧ k < w.heap.size := World.ownsRow.lt h.1
theorem OwnT.tab {α : Type} {R : World → List Value → α → Prop} (h : OwnT e n B rows v w) {xs : List α} (hl : rows.length = xs.length) (hR : ∀ (j : Nat) (x : α) (r : List Value), xs[j]? = some x → rows[j]? = some r → R w r x) : Tab n R w v xs := by
  have hlt := h.lt
  rcases h.1.2 with ⟨hv, h0⟩ | ⟨g, cap, cur, hv, hb, hg, hn, hm, hs, ht⟩
  · have hx : xs = [] := List.eq_nil_of_length_eq_zero (hl.symm.trans h0)
    subst hx
    exact ⟨none, 0, hv, Nat.le_refl _, Nat.zero_le _, fun j l hj => by simp at hj⟩
  · refine ⟨some ⟨g, 0, none⟩, cap, by rw [hv, hl], by omega, hm, fun j x hj => ?_⟩
    have hjl : j < rows.length := by rw [hl]; exact (List.getElem?_eq_some_iff.1 hj).1
    have hr := List.getElem?_eq_getElem hjl
    refine ⟨g, 0, rfl, (hlt g (by rw [hv]; rfl)).2, rows[j], h.2 _ (List.getElem_mem _), fun k u hk => ?_, hR j x _ hj hr⟩
    have hkn : k < n := by rw [← h.2 rows[j] (List.getElem_mem _)]; exact (List.getElem?_eq_some_iff.1 hk).1
    have := World.ownsRow.cells h.1 (g := g) (by rw [hv]; rfl) (j * n + k) u (by rw [flatten_at h.2 j _ hr k hkn]; exact hk)
    rw [add_eq] at this
    exact this
end

structure ElemN (P : Program) (t e : TypeId) (n : Nat) (z : Value) (bytes : Nat) : Prop where
  sl : P.underlying t = some (.slice e)
  info : (P.info? e).map (fun i => (i.zero, i.size, i.bytes)) = some (some z, n, bytes)
  many : z.cells.size = n
  npos : 0 < n
  pos : 1 ≤ bytes

section
variable {P : Program} {t e : TypeId} {z : Value} {n bytes : Nat}
theorem run_appT (E : ElemN P t e n z bytes) {B : Nat} {rows news : List (List Value)} {v : Value} {w : World} (ty : TypeId) (hown : OwnT e n B rows v w) (A : Option Addr) (m cap : Nat) (hm : news.length = m) (hmc : m ≤ cap) (hnl : ∀ r ∈ news, r.length = n)
    (hcell : news ≠ [] → ∃ b o, A = some ⟨b, o, none⟩ ∧ ∀ (j : Nat) (r : List Value), news[j]? = some r → ∀ k u, r[k]? = some u → w.cell? ⟨b, o + (j * n + k), none⟩ = some u)
    (h1 : ∀ r ∈ news, ∀ u ∈ r, u.oneCell' = true) (hlen : (rows.length + m) * bytes ≤ 140737488355328) (hB : B ≤ w.heap.size) :
    ∃ v' w', (Builtin.append_ #[t, t] ty #[v, .slice A m cap]).run P w = .ok v' w' ∧ OwnT e n B (rows ++ news) v' w' ∧ Below B w w' ∧ w.grownBy w' v.ownBlock ∧ (v'.ownBlock = v.ownBlock ∨ v'.ownBlock = some w.heap.size) := by
  obtain ⟨i, hi, hz, hsz, hby⟩ := info_parts E.info
  have h63 : rows.length + m ≤ maxLen := by
    have : (rows.length + m) * 1 ≤ (rows.length + m) * bytes := Nat.mul_le_mul_left _ E.pos
    unfold maxLen; omega
  cases A with
  | none =>
    have hn : news = [] := by
      cases news with
      | nil => rfl
      | cons u l => obtain ⟨b, o, h, _⟩ := hcell (by simp); cases h
    subst hn
    obtain rfl : m = 0 := by simpa using hm.symm
    refine ⟨v, w, ?_, by simpa using hown, Below.refl _ _, World.grownBy.refl _ _, .inl rfl⟩
    rcases hown.1.2 with ⟨rfl, _⟩ | ⟨g, c, cur, rfl, _, _, hnc, _⟩
    · simp [Builtin.append_, run_underlying E.sl, sizeOf, typeInfo, hi, Builtin.lenOf, Builtin.firstCells]
    · simp [Builtin.append_, run_underlying E.sl, sizeOf, typeInfo, hi, Builtin.lenOf, Builtin.firstCells, hnc, storeCells]
  | some ad =>
    have hcells : ∀ j u, news.flatten[j]? = some u → w.cell? (ad.add j) = some u := by
      intro j u hu
      have hne : news ≠ [] := by intro h; subst h; simp at hu
      obtain ⟨b, o, h, hc⟩ := hcell hne
      injection h with h
      subst h
      obtain ⟨r, hr, hu'⟩ := flatten_split E.npos hnl j u hu
      have := hc _ r hr _ u hu'
      rw [Nat.div_add_mod' j n] at this
      rw [add_eq]; exact this
    have hone : ∀ u ∈ news.flatten, u.oneCell' = true := fun u hu => by
      obtain ⟨r, hr, hur⟩ := List.mem_flatten.1 hu
      exact h1 r hr u hur
    obtain ⟨v', w', hrun, h2, h3, _, h5⟩ := run_append_own_at (P := P) (w := w) B t ty e i z n bytes E.sl hi hz hsz hby E.many E.npos v rows.length rows.flatten hown.1 ad m cap news.flatten (by rw [flatten_len hnl, hm]) hcells hone h63 hlen hB
    refine ⟨v', w', hrun, ⟨?_, fun r hr => ?_⟩, (Below.refl _ _).grown h3 hB (fun k hk => (World.ownsRow.lt hown.1 k hk).1), h3, h5⟩
    · rw [List.length_append, hm, List.flatten_append]; exact h2
    · rcases List.mem_append.1 hr with hr | hr
      · exact hown.2 r hr
      · exact hnl r hr

theorem wpList_appT (E : ElemN P t e n z bytes) {ops : Array Oper} {rest : List Oper} {o : Oper} {a : Act} {Q : Exit → Act → World → Prop} {w : World} (hgd : o.guard = none) (s x : Operand)
    (ho : o.op = .call { callee := .builtin .append, args := #[s, x], argTypes := #[t, t] })
    (B : Nat) (rows news : List (List Value)) (v : Value) (hs : a.eval s = v) (hown : OwnT e n B rows v w) (A : Option Addr) (m cap : Nat) (hx : a.eval x = .slice A m cap) (hm : news.length = m) (hmc : m ≤ cap) (hnl : ∀ r ∈ news, r.length = n)
    (hcell : news ≠ [] → ∃ b o, A = some ⟨b, o, none⟩ ∧ ∀ (j : Nat) (r : List Value), news[j]? = some r → ∀ k u, r[k]? = some u → w.cell? ⟨b, o + (j * n + k), none⟩ = some u)
    (h1 : ∀ r ∈ news, ∀ u ∈ r, u.oneCell' = true) (hlen : (rows.length + m) * bytes ≤ 140737488355328) (hB : B ≤ w.heap.size)
    (h : ∀ v' w', OwnT e n B (rows ++ news) v' w' → Below B w w' → w.grownBy w' v.ownBlock → (v'.ownBlock = v.ownBlock ∨ v'.ownBlock = some w.heap.size) → wpList P ops Q rest (a.put o.dst v') w') : wpList P ops Q (o :: rest) a w := by
  refine wpList_plain hgd fun K hK => ?_
  obtain ⟨v', w', hrun, h2, h3, h4, h5⟩ := run_appT E o.type hown A m cap hm hmc hnl hcell h1 hlen hB
  unfold Oper.wp execOp
  simp only [ho, resolve, invoke, builtin, Sem.run_bind, Sem.run_pure, Result.andThen_ok, List.map_toArray, List.map_cons, List.map_nil, hs, hx, hrun]
  exact hK _ _ (h v' w' h2 h3 h4 h5)

theorem wpList_appRec (E : ElemN P t e n z bytes) {ops : Array Oper} {rest : List Oper} {o : Oper} {a : Act} {Q : Exit → Act → World → Prop} {w : World} (hgd : o.guard = none) (s x : Operand)
    (ho : o.op = .call { callee := .builtin .append, args := #[s, x], argTypes := #[t, t] })
    (B : Nat) (rows : List (List Value)) (arr : Array Value) (v : Value) (hs : a.eval s = v) (hown : OwnT e n B rows v w) (b : Nat) (hbk : b = w.heap.size) (hx : a.eval x = .slice (some ⟨b, 0, none⟩) 1 1) (hm : arr.size = n) (h1 : ∀ u ∈ arr.toList, u.oneCell' = true)
    (hlen : (rows.length + 1) * bytes ≤ 140737488355328) (hB : B ≤ w.heap.size)
    (h : ∀ v' w', OwnT e n B (rows ++ [arr.toList]) v' w' → Below B w w' → w.grownBy w' v.ownBlock → (v'.ownBlock = v.ownBlock ∨ ∃ k, v'.ownBlock = some k ∧ w.heap.size ≤ k) → wpList P ops Q rest (a.put o.dst v') w') : wpList P ops Q (o :: rest) a (w.alloc (.cells arr e)) := by
  subst hm hbk
  refine wpList_appT E hgd s x ho B rows [arr.toList] v hs (hown.alloc _) _ 1 1 hx rfl (Nat.le_refl _) (fun r hr => by rw [List.mem_singleton.1 hr]; simp) (fun _ => ⟨_, _, rfl, fun j r hr k u hu => ?_⟩) (fun r hr => by rw [List.mem_singleton.1 hr]; exact h1) hlen (by simp; omega) (fun v' w' h2 h3 h4 h5 => ?_)
  · cases j with
    | succ j => simp at hr
    | zero =>
      simp at hr
      subst hr
      rw [cell_of_row _ w.heap.size _ arr e (0, 0) (heap_alloc_new w _)]
      simpa using hu
  · refine h v' w' h2 (((Below.refl B w).alloc hB _).trans h3) ⟨h4.os, h4.tape, h4.output, Nat.le_trans (by simp) h4.size, fun k hk hne => ?_⟩ ?_
    · exact (h4.block k (by simp; omega) hne).trans (Below.heap_alloc w _ k hk)
    · rcases h5 with h5 | h5
      · exact .inl h5
      · exact .inr ⟨_, h5, by simp⟩
end
end Go.Proofs.YtjkiehmjffgnlaaGreatDoor
