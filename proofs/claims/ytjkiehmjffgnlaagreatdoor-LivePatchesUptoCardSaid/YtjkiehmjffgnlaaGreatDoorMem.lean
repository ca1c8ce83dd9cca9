import Derived.Test.YtjkiehmjffgnlaaGreatDoorBase
namespace Go.Proofs.YtjkiehmjffgnlaaGreatDoor
open Go.RowKit

/-- v is a slice that reads as xs. -/
def RdL (w : World) (v : Value) (xs : List Value) : Prop :=
  ∃ A cap, v = .slice A xs.length cap ∧ xs.length ≤ cap ∧ cap ≤ maxLen ∧ ∀ j u, xs[j]? = some u → ∃ b o, A = some ⟨b, o, none⟩ ∧ b < w.heap.size ∧ w.cell? ⟨b, o + j, none⟩ = some u
def Own (e : TypeId) (B : Nat) (xs : List Value) (v : Value) (w : World) : Prop := w.ownsRow B e 1 v xs.length xs

theorem add_eq (b o j : Nat) : (⟨b, o, none⟩ : Addr).add j = ⟨b, o + j, none⟩ := by
  unfold Addr.add
  split
  · rename_i h; subst h; rfl
  · rfl
theorem RdL.below {w w' : World} {v : Value} {xs : List Value} {B : Nat} (h : RdL w v xs) (hb : Below B w w') (hB : w.heap.size ≤ B) : RdL w' v xs := by
  obtain ⟨A, cap, hv, h1, h2, hc⟩ := h
  refine ⟨A, cap, hv, h1, h2, fun j u hj => ?_⟩
  obtain ⟨b, o, ha, hb', hcell⟩ := hc j u hj
  refine ⟨b, o, ha, Nat.lt_of_lt_of_le hb' hb.size, ?_⟩
  rw [hb.cell (p := ⟨b, o + j, none⟩) (by show b < B; omega)]
  exact hcell
theorem Own.rd {e : TypeId} {B : Nat} {xs : List Value} {v : Value} {w : World} (h : Own e B xs v w) : RdL w v xs := by
  have hlt := World.ownsRow.lt h
  rcases h.2 with ⟨hv, h0⟩ | ⟨g, cap, cur, hv, hb, hg, hn, hm, hs, ht⟩
  · have hx : xs = [] := List.eq_nil_of_length_eq_zero h0
    subst hx
    exact ⟨none, 0, hv, Nat.le_refl _, by unfold maxLen; omega, fun j u hj => by simp at hj⟩
  · refine ⟨some ⟨g, 0, none⟩, cap, hv, hn, hm, fun j u hj => ⟨g, 0, rfl, (hlt g (by rw [hv]; rfl)).2, ?_⟩⟩
    have := World.ownsRow.cells h (g := g) (by rw [hv]; rfl) j u hj
    rw [add_eq] at this
    exact this
theorem Own.nil (e : TypeId) (B : Nat) (w : World) : Own e B [] (.slice none 0 0) w := World.ownsRow_nil w B e 1
theorem Own.below {e : TypeId} {B : Nat} {xs : List Value} {v : Value} {w w' : World} (h : Own e B xs v w) (hb : Below w.heap.size w w') : Own e B xs v w' :=
  World.ownsRow.kept (row := none) h ⟨hb.os, hb.tape, hb.output, hb.size, fun k hk _ => hb.block k hk⟩ (by cases v.ownBlock <;> simp)
theorem Own.drewN {e : TypeId} {B : Nat} {xs : List Value} {v : Value} {w : World} (h : Own e B xs v w) (n : Nat) : Own e B xs v (w.drewN n) := h
theorem Own.alloc {e : TypeId} {B : Nat} {xs : List Value} {v : Value} {w : World} (h : Own e B xs v w) (o : Obj) : Own e B xs v (w.alloc o) := World.ownsRow.alloc h o
theorem Own.made (e : TypeId) {B : Nat} (w : World) (cur : Array Value) (hB : B ≤ w.heap.size) (hm : cur.size ≤ maxLen) : Own e B [] (.slice (some ⟨w.heap.size, 0, none⟩) 0 cur.size) (w.alloc (.cells cur e)) :=
  World.ownsRow_made w cur cur.size hB hm (by simp)
theorem Own.lit (e : TypeId) {B : Nat} (w : World) (cur : Array Value) (hB : B ≤ w.heap.size) (hm : cur.size ≤ maxLen) : Own e B cur.toList (.slice (some ⟨w.heap.size, 0, none⟩) cur.size cur.size) (w.alloc (.cells cur e)) :=
  ⟨by simp, .inr ⟨w.heap.size, cur.size, cur, by simp, hB, heap_alloc_new w _, by simp, hm, by simp, List.take_of_length_le (by simp)⟩⟩
structure Elem (P : Program) (t e : TypeId) (z : Value) (bytes : Nat) : Prop where
  sl : P.underlying t = some (.slice e)
  info : (P.info? e).map (fun i => (i.zero, i.size, i.bytes)) = some (some z, 1, bytes)
  one : z.cells.size = 1
  pos : 1 ≤ bytes

section
variable {P : Program} {t e : TypeId} {z : Value} {bytes : Nat}

theorem run_app (E : Elem P t e z bytes) {B : Nat} {xs news : List Value} {v sv : Value} {w : World} (ty : TypeId) (hown : Own e B xs v w) (hr : RdL w sv news) (h1 : ∀ u ∈ news, u.oneCell' = true)
    (hlen : (xs.length + news.length) * bytes ≤ 140737488355328) (hB : B ≤ w.heap.size) :
    ∃ v' w', (Builtin.append_ #[t, t] ty #[v, sv]).run P w = .ok v' w' ∧ Own e B (xs ++ news) v' w' ∧ Below B w w' ∧ w.grownBy w' v.ownBlock := by
  obtain ⟨i, hi, hz, hsz, hby⟩ := info_parts E.info
  have h63 : xs.length + news.length ≤ maxLen := by
    have : (xs.length + news.length) * 1 ≤ (xs.length + news.length) * bytes := Nat.mul_le_mul_left _ E.pos
    unfold maxLen; omega
  obtain ⟨A, cap, rfl, hcap, hcm, hc⟩ := hr
  cases A with
  | none =>
    have hn : news = [] := by
      cases news with
      | nil => rfl
      | cons u l => obtain ⟨b, o, h, _⟩ := hc 0 u rfl; cases h
    subst hn
    refine ⟨v, w, ?_, by simpa using hown, Below.refl _ _, World.grownBy.refl _ _⟩
    rcases hown.2 with ⟨rfl, _⟩ | ⟨g, c, cur, rfl, _, _, hnc, _⟩
    · simp [Builtin.append_, run_underlying E.sl, sizeOf, typeInfo, hi, Builtin.lenOf, Builtin.firstCells]
    · simp [Builtin.append_, run_underlying E.sl, sizeOf, typeInfo, hi, Builtin.lenOf, Builtin.firstCells, hnc, storeCells]
  | some ad =>
    have hcells : ∀ j u, news[j]? = some u → w.cell? (ad.add j) = some u := by
      intro j u hu
      obtain ⟨b, o, h, _, hcell⟩ := hc j u hu
      injection h with h
      subst h
      rw [add_eq]; exact hcell
    obtain ⟨v', w', hrun, h2, h3, _⟩ := run_append_own (P := P) w B t ty e i z 1 bytes E.sl hi hz hsz hby E.one (by omega) v xs.length xs hown ad news.length cap news (by simp) hcells h1 h63 hlen hB
    refine ⟨v', w', hrun, ?_, (Below.refl _ _).grown h3 hB (fun k hk => (World.ownsRow.lt hown k hk).1), h3⟩
    unfold Own
    rw [List.length_append]
    exact h2

theorem wpList_app (E : Elem P t e z bytes) {ops : Array Oper} {rest : List Oper} {o : Oper} {a : Act} {Q : Exit → Act → World → Prop} {w : World} (hgd : o.guard = none) (s x : Operand)
    (ho : o.op = .call { callee := .builtin .append, args := #[s, x], argTypes := #[t, t] })
    (B : Nat) (xs news : List Value) (v sv : Value) (hs : a.eval s = v) (hown : Own e B xs v w) (hx : a.eval x = sv) (hr : RdL w sv news) (h1 : ∀ u ∈ news, u.oneCell' = true)
    (hlen : (xs.length + news.length) * bytes ≤ 140737488355328) (hB : B ≤ w.heap.size)
    (h : ∀ v' w', Own e B (xs ++ news) v' w' → Below B w w' → w.grownBy w' v.ownBlock → wpList P ops Q rest (a.put o.dst v') w') : wpList P ops Q (o :: rest) a w := by
  refine wpList_plain hgd fun K hK => ?_
  obtain ⟨v', w', hrun, h2, h3, h4⟩ := run_app E o.type hown hr h1 hlen hB
  unfold Oper.wp execOp
  simp only [ho, resolve, invoke, builtin, Sem.run_bind, Sem.run_pure, Result.andThen_ok, List.map_toArray, List.map_cons, List.map_nil, hs, hx, hrun]
  exact hK _ _ (h v' w' h2 h3 h4)

theorem foldl_push (l : List UInt8) : ∀ s : ByteArray, (l.map fun b => (b.toNat : Int)).foldl (fun r n => r.push (UInt8.ofNat n.toNat)) s = ⟨(s.data.toList ++ l).toArray⟩ := by
  induction l with
  | nil => intro s; apply ByteArray.ext; simp
  | cons b l ih =>
    intro s
    simp only [List.map_cons, List.foldl_cons]
    rw [ih]
    apply ByteArray.ext
    simp [ByteArray.push]
theorem run_conv_bytes (w : World) (src dst by8 : TypeId) (v : Value) (l : List UInt8) (hs : P.underlying src = some (.slice by8)) (he : P.underlying by8 = some (.int .u8)) (hd : P.underlying dst = some .string)
    (hr : RdL w v (l.map fun b => Value.int .u8 b.toNat)) : (convert src dst v).run P w = .ok (.string ⟨l.toArray⟩) w := by
  obtain ⟨A, cap, rfl, _, _, hc⟩ := hr
  rw [run_convert_bytes_string w src dst by8 _ _ _ hs he hd]
  cases A with
  | none =>
    have hn : l = [] := by
      cases l with
      | nil => rfl
      | cons u l => obtain ⟨b, o, h, _⟩ := hc 0 (.int .u8 u.toNat) rfl; cases h
    subst hn
    rfl
  | some ad =>
    have hl := run_loadCells_list (P := P) (w := w) ad (l.map fun b => Value.int .u8 b.toNat) (by
      intro j u hu
      obtain ⟨b, o, h, _, hcell⟩ := hc j u hu
      injection h with h
      subst h
      rw [add_eq]; exact hcell)
    rw [run_bytesToString w ad _ cap (l.map fun b => (b.toNat : Int)) (by rw [hl, List.map_map]; rfl), foldl_push]
    rfl
end

def vbytes (l : List UInt8) : List Value := l.map fun b => .int .u8 b.toNat
theorem vbytes_len (l : List UInt8) : (vbytes l).length = l.length := by simp [vbytes]
end Go.Proofs.YtjkiehmjffgnlaaGreatDoor
