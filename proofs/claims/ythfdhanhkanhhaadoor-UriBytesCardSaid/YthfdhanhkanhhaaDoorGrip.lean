/-
  Append onto a slice that is the call's own, or one that is full and reads (as '[]byte("..")' leaves it). No condition.
-/
import Derived.Test.YthfdhanhkanhhaaDoorElem
import Derived.Lib.SmallJoins
namespace Go.Proofs.YthfdhanhkanhhaaDoor
open Go.RowKit

def Grip (e : TypeId) (B : Nat) (xs : List Value) (v : Value) (w : World) : Prop :=
  Own e B xs v w ∨ ∃ g, v = .slice (some ⟨g, 0, none⟩) xs.length xs.length ∧ B ≤ g ∧ g < w.heap.size ∧ xs.length ≤ maxLen ∧ ∀ j u, xs[j]? = some u → w.cell? ⟨g, j, none⟩ = some u
theorem Grip.rd {e : TypeId} {B : Nat} {xs : List Value} {v : Value} {w : World} (h : Grip e B xs v w) : RdL w v xs := by
  rcases h with h | ⟨g, rfl, _, hlt, hm, hc⟩
  · exact h.rd
  · exact ⟨some ⟨g, 0, none⟩, xs.length, rfl, Nat.le_refl _, hm, fun j u hu => ⟨g, 0, rfl, hlt, by rw [Nat.zero_add]; exact hc j u hu⟩⟩
theorem Grip.alloc {e : TypeId} {B : Nat} {xs : List Value} {v : Value} {w : World} (h : Grip e B xs v w) (o : Obj) : Grip e B xs v (w.alloc o) := by
  rcases h with h | ⟨g, rfl, hb, hlt, hm, hc⟩
  · exact .inl (h.alloc o)
  · exact .inr ⟨g, rfl, hb, by simp; omega, hm, fun j u hu => (((Below.refl w.heap.size w).alloc (Nat.le_refl _) o).cell hlt).trans (hc j u hu)⟩

section
variable {P : Program} {t e : TypeId} {z : Value} {bytes : Nat}
theorem run_grip (E : Elem P t e z bytes) {B : Nat} {xs news : List Value} {v sv : Value} {w : World} (ty : TypeId) (hown : Grip e B xs v w) (hr : RdL w sv news) (hne : news ≠ []) (h1 : ∀ u ∈ news, u.oneCell' = true)
    (hlen : (xs.length + news.length) * bytes ≤ 140737488355328) (hB : B ≤ w.heap.size) :
    ∃ v' w', (Builtin.append_ #[t, t] ty #[v, sv]).run P w = .ok v' w' ∧ Own e B (xs ++ news) v' w' ∧ Below B w w' ∧ w.grownBy w' v.ownBlock := by
  rcases hown with h | ⟨g, rfl, hb, hlt, hm, hcx⟩
  · exact run_app E ty h hr h1 hlen hB
  obtain ⟨i, hi, hz, hsz, hby⟩ := info_parts E.info
  have h63 : xs.length + news.length ≤ maxLen := by
    have : (xs.length + news.length) * 1 ≤ (xs.length + news.length) * bytes := Nat.mul_le_mul_left _ E.pos
    unfold maxLen; omega
  obtain ⟨A, cap, rfl, hcap, hcm, hc⟩ := hr
  have hpos := List.length_pos_iff.2 hne
  cases A with
  | none =>
    cases news with
    | nil => exact absurd rfl hne
    | cons u l => obtain ⟨b, o, h, _⟩ := hc 0 u rfl; cases h
  | some ad =>
    have hcells : ∀ j u, news[j]? = some u → w.cell? (ad.add j) = some u := by
      intro j u hu
      obtain ⟨b, o, h, _, hcell⟩ := hc j u hu
      injection h with h
      subst h
      rw [add_eq]; exact hcell
    have holds : ∀ j u, xs[j]? = some u → w.cell? ((⟨g, 0, none⟩ : Addr).add j) = some u := by
      intro j u hu
      rw [add_eq, Nat.zero_add]; exact hcx j u hu
    have hge := grownCap_ge w (xs.length + news.length) xs.length e
    have hcmx : grownCap w (xs.length + news.length) xs.length e ≤ maxLen := grownCap_le_maxLen w _ _ e h63
    have hrun := run_append_grow (P := P) w t ty e i z E.sl hi hz ⟨g, 0, none⟩ xs.length xs.length xs (by rw [hsz]; omega) holds ad news.length cap news (by rw [hsz]; omega) hcells (by omega) (by unfold maxLen at h63; omega) (growslice_fits (by omega) (by rw [hby]; exact hlen))
    have hgr : w.grownBy (w.drew.alloc (.cells (xs.toArray ++ news.toArray ++ Builtin.zeroCells z.cells (grownCap w (xs.length + news.length) xs.length e - (xs.length + news.length))) e)) (Value.ownBlock (.slice (some ⟨g, 0, none⟩) xs.length xs.length)) :=
      ⟨rfl, rfl, rfl, by simp, fun k hk _ => Below.heap_alloc w.drew _ k hk⟩
    refine ⟨_, _, hrun, ?_, (Below.refl _ _).grown hgr hB (fun k hk => by simp [Value.ownBlock] at hk; omega), hgr⟩
    unfold Own
    refine ⟨by simp, .inr ⟨w.heap.size, _, _, by rw [List.length_append], hB, heap_alloc_new w.drew _, by rw [List.length_append]; exact hge, hcmx, ?_, ?_⟩⟩
    · simp only [Array.size_append, List.size_toArray, size_zeroCells, E.one]
      omega
    · simp only [Array.toList_append, List.append_assoc]
      rw [← List.append_assoc, Nat.mul_one]
      exact List.take_left
theorem step_grip (E : Elem P t e z bytes) {ops : Array Oper} {o : Oper} {a : Act} {K : Act → World → Prop} {Q : Exit → Act → World → Prop} {X : Prop} {w : World} (hgd : o.guard = none) (s x : Operand)
    (ho : o.op = .call { callee := .builtin .append, args := #[s, x], argTypes := #[t, t] })
    (B : Nat) (xs news : List Value) (v sv : Value) (hs : a.eval s = v) (hown : Grip e B xs v w) (hx : a.eval x = sv) (hr : RdL w sv news) (hne : news ≠ []) (h1 : ∀ u ∈ news, u.oneCell' = true)
    (hlen : (xs.length + news.length) * bytes ≤ 140737488355328) (hB : B ≤ w.heap.size)
    (h : ∀ v' w', Own e B (xs ++ news) v' w' → Below B w w' → w.grownBy w' v.ownBlock → K (a.put o.dst v') w') :
    if Region.wanted o (yielded ops a.tmps) = true then Oper.wp P o a w K Q else X := by
  have hw : Region.wanted o (yielded ops a.tmps) = true := by simp [Region.wanted, hgd]
  rw [if_pos hw]
  obtain ⟨v', w', hrun, h2, h3, h4⟩ := run_grip E o.type hown hr hne h1 hlen hB
  unfold Oper.wp execOp
  simp only [ho, resolve, invoke, builtin, Sem.run_bind, Sem.run_pure, Result.andThen_ok, List.map_toArray, List.map_cons, List.map_nil, hs, hx, hrun]
  exact h v' w' h2 h3 h4
end
/-- '[]byte("..")' of a constant. -/
theorem conv_const (C : Array Value) (n : Nat) (w : World) : (convert 34 34 (.slice (some ⟨w.heap.size, 0, none⟩) n n)).run Tryd.prog (w.alloc (.cells C 5)) = .ok (.slice (some ⟨w.heap.size, 0, none⟩) n n) (w.alloc (.cells C 5 (C.size, C.size + 1))) :=
  Joins.run_convert_bytes_const_at w 34 5 C n n w.heap.size rfl Tryd.underlying34 Tryd.underlying5
theorem grip_const (xs : List Value) (w : World) (fr : Nat × Nat) (hm : xs.length ≤ maxLen) : Grip 5 w.heap.size xs (.slice (some ⟨w.heap.size, 0, none⟩) xs.length xs.length) (w.alloc (.cells xs.toArray 5 fr)) :=
  .inr ⟨w.heap.size, rfl, Nat.le_refl _, by simp, hm, fun j u hu => by rw [World.cell?_alloc_mark]; simpa using hu⟩
end Go.Proofs.YthfdhanhkanhhaaDoor
