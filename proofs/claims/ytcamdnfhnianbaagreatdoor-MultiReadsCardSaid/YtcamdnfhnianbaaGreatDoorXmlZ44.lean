/-
  Parts of the walks and plain laws of layer 10, joined: MulG MulH MulI MulJ. Conditions: as each theorem states them.
-/
import Derived.Test.YtcamdnfhnianbaaGreatDoorXmlZ49
import Derived.Test.YtcamdnfhnianbaaGreatDoorXmlZ48
import Derived.Test.YtcamdnfhnianbaaGreatDoorXmlZ42
import Derived.Test.YtcamdnfhnianbaaGreatDoorXmlZ26
import Derived.Deep.RegionHeld3
/-! MulG -/
namespace Go.Proofs.YtcamdnfhnianbaaGreatDoor
set_option linter.unusedVariables false
set_option linter.unusedSimpArgs false
open Go.RowKit

/-- what Read hands back: a row of its own. -/
def MReadP (x : Except Int (List ToldT)) (w : World) (e : Ending) (w' : World) : Prop := Below w.heap.size w w' ∧ match x with
  | .error k => e = .returned (.tuple #[.slice none 0 0, .int .i64 k])
  | .ok l => ∃ v, e = .returned (.tuple #[v, .int .i64 0]) ∧ RowG 42 2 ToldR (w.heap.size ≤ ·) w.heap.size w' v l
theorem results_vv {P : Program} {fn : Func} {p u : Tmp} {ty ti : TypeId} (h : fn.results = #[.cell p ty, .cell u ti]) (tmps : Array Value) (w : World) (g a : Nat) (x y : Value)
    (hp : tmps.getD p undef = .pointer (some ⟨g, 0, none⟩)) (hg : (loadVar ty ⟨g, 0, none⟩).run P w = .ok x w) (hpa : tmps.getD u undef = .pointer (some ⟨a, 0, none⟩)) (ha : (loadVar ti ⟨a, 0, none⟩).run P w = .ok y w) :
    (results fn tmps).run P w = .ok (.tuple #[x, y]) w := by
  have h1 : (results fn tmps).run P w = ((asAddr (tmps.getD p undef)).run P w).andThen fun c w₁ => ((loadVar ty c).run P w₁).andThen fun z w₂ => ((asAddr (tmps.getD u undef)).run P w₂).andThen fun c w₃ => ((loadVar ti c).run P w₃).andThen fun z1 w₄ => .ok (.tuple #[z, z1]) w₄ := by
    simp only [results, h]
    simp [Sem.run_bind, Result.andThen]
  rw [h1, hp]
  simp [asAddr, hg, hpa, ha]
theorem load_tl {w : World} {b : Nat} {A : Option Addr} {n c : Nat} (h : w.heap[b]? = some (.cells #[.slice A n c] 22 (0, 0))) : (loadVar 22 ⟨b, 0, none⟩).run Tryz.prog w = .ok (.slice A n c) w := by
  have h0 := xat h 0
  simp only [List.getElem?_toArray, List.getElem?_cons_zero] at h0
  simp [go_sem, h0]
theorem results_read (tmps : Array Value) (w : World) (q u : Nat) {A : Option Addr} {n c : Nat} (y : Int) (h2 : tmps.getD 2 undef = .pointer (some ⟨q, 0, none⟩)) (h3 : tmps.getD 3 undef = .pointer (some ⟨u, 0, none⟩))
    (hq : w.heap[q]? = some (.cells #[.slice A n c] 22 (0, 0))) (hu : w.heap[u]? = some (.cells #[.int .i64 y] 25 (0, 0))) :
    (results Tryz.f11 tmps).run Tryz.prog w = .ok (.tuple #[.slice A n c, .int .i64 y]) w :=
  results_vv rfl tmps w q u _ _ h2 (load_tl hq) h3 (load_err hu)
theorem two_set {w : World} {q u : Nat} {x y x' y' : Value} {t1 t2 : TypeId} (hq : w.heap[q]? = some (.cells #[x] t1 (0, 0))) (hu : w.heap[u]? = some (.cells #[y] t2 (0, 0))) (h : q ≠ u) : let w' := (w.setCell ⟨q, 0, none⟩ x').setCell ⟨u, 0, none⟩ y'
    w'.heap[q]? = some (.cells #[x'] t1 (0, 0)) ∧ w'.heap[u]? = some (.cells #[y'] t2 (0, 0)) ∧ w'.os = w.os ∧ w'.tape = w.tape ∧ w'.output = w.output ∧ w.heap.size ≤ w'.heap.size ∧ ∀ k, k ≠ q → k ≠ u → w'.heap[k]? = w.heap[k]? := by
  have h1 : (w.setCell ⟨q, 0, none⟩ x').heap[q]? = some (.cells #[x'] t1 (0, 0)) := heap_setCell_same w q 0 _ _ _ hq
  have h2 : (w.setCell ⟨q, 0, none⟩ x').heap[u]? = some (.cells #[y] t2 (0, 0)) := (heap_setCell_other w ⟨q, 0, none⟩ u x' (fun e => h e.symm)).trans hu
  refine ⟨(heap_setCell_other _ ⟨u, 0, none⟩ q y' h).trans h1, heap_setCell_same _ u 0 _ _ y' h2, rfl, rfl, rfl, by simp, fun k k1 k2 => ?_⟩
  exact (heap_setCell_other _ ⟨u, 0, none⟩ k y' k2).trans (heap_setCell_other w ⟨q, 0, none⟩ k x' k1)
set_option maxHeartbeats 1000000 in
set_option maxRecDepth 100000 in
theorem mcatch_pan (q u : Nat) (older : List PanicEntry) (w : World) (x y : Value)
    (hq : w.heap[q]? = some (.cells #[x] 22 (0, 0))) (hu : w.heap[u]? = some (.cells #[y] 25 (0, 0))) (h1 : q ≠ u) :
    CallsD Tryz.prog 23 #[.pointer (some ⟨q, 0, none⟩), .pointer (some ⟨u, 0, none⟩)] (.panicking ({ v := .iface 54 (.agg #[]), recovered := false } :: older)) w fun e m w' =>
      e = .returned (.tuple #[]) ∧ m = .panicking ({ v := .iface 54 (.agg #[]), recovered := true } :: older) ∧ w'.heap[q]? = some (.cells #[.slice none 0 0] 22 (0, 0)) ∧
        w'.heap[u]? = some (.cells #[.int .i64 50] 25 (0, 0)) ∧ w'.os = w.os ∧ w'.tape = w.tape ∧ w'.output = w.output ∧ w.heap.size ≤ w'.heap.size ∧ ∀ k, k < w.heap.size → k ≠ q → k ≠ u → w'.heap[k]? = w.heap[k]? := by
  refine callsD_of_wpS Tryz.func23 rfl fun c₀ cs0 hm => ?_
  have has : ∀ w : World, (Instr.typeAssert (.iface 54 (.agg #[])) 20 54 true).run Tryz.prog w = .ok (.tuple #[.agg #[], .bool true]) w := fun _ => by kernel_rfl
  apply wpS_seq
  apply wpS_region
  simp [wpOpsS, go_sem, recoverD, hm, has, Tryz.ntmps23, Exit.thenS]
  refine wpS_of_wp ?_
  simp only [Array.replicate, List.replicate]
  have HT := Lib.hid (two_set (x' := .slice none 0 0) (y' := .int .i64 50) hq hu h1)
  have cq := xat hq 0
  have fq := xfree hq 0
  have cu := xat hu 0
  have fu := xfree hu 0
  simp only [List.getElem?_toArray, List.getElem?_cons_zero] at cq cu
  have ql := xlt hq
  have ul := xlt hu
  clear hq hu
  go_wp2
  obtain ⟨t1, t2, t3, t4, t5, t6, t7⟩ := HT.out
  exact ⟨rfl, _, rfl, _, by simp [results, Tryz.results23], rfl, rfl, (heap_alloc_old _ _ (xlt t1)).trans t1, (heap_alloc_old _ _ (xlt t2)).trans t2, t3, t4, t5, Nat.le_trans t6 (by rw [World.size_alloc]; omega), fun k k1 k2 k3 => (heap_alloc_old _ _ (Nat.lt_of_lt_of_le k1 t6)).trans (t7 k k2 k3)⟩
/-- a frame that returns: nothing is recovered. -/
theorem mcatch_idle (q u : Nat) (w : World) :
    CallsD Tryz.prog 23 #[.pointer (some ⟨q, 0, none⟩), .pointer (some ⟨u, 0, none⟩)] .returning w fun e m w' => e = .returned (.tuple #[]) ∧ m = .returning ∧ w' = w.alloc (.cells #[] 54 (0, 0)) := by
  refine callsD_of_wpS Tryz.func23 rfl fun c₀ cs hm => ?_
  have has : ∀ w : World, (Instr.typeAssert .nilIface 20 54 true).run Tryz.prog w = .ok (.tuple #[.agg #[], .bool false]) w := fun _ => by kernel_rfl
  apply wpS_seq
  apply wpS_region
  simp [wpOpsS, go_sem, recoverD, hm, has, Tryz.ntmps23, Exit.thenS]
  refine wpS_of_wp ?_
  simp only [Array.replicate, List.replicate]
  go_wp2
  cases c₀
  simp_all [bodyPostS, results, Tryz.results23]
def dfrM (q u : Nat) : List Deferred := [{ target := .fn (.func 23) #[.pointer (some ⟨q, 0, none⟩), .pointer (some ⟨u, 0, none⟩)], args := #[] }]
/-- the reading gives up. -/
theorem read_stop {w wx : World} {q u : Nat} {x : Except Int (List ToldT)} (hx : x = .error 50) (tmps : Array Value) (h2 : tmps.getD 2 undef = .pointer (some ⟨q, 0, none⟩)) (h3 : tmps.getD 3 undef = .pointer (some ⟨u, 0, none⟩))
    {y z : Value} (hq : wx.heap[q]? = some (.cells #[y] 22 (0, 0))) (hu : wx.heap[u]? = some (.cells #[z] 25 (0, 0)))
    (q1 : w.heap.size ≤ q) (q2 : q < u) (hb : Below w.heap.size w wx) : Leaves Tryz.prog Tryz.f11 tmps (MReadP x w) (dfrM q u) (.panicking brokenM) wx := by
  subst hx
  refine leaves_cons (f := 23) (args := #[.pointer (some ⟨q, 0, none⟩), .pointer (some ⟨u, 0, none⟩)]) (by simp) (by simp [go_sem]) ?_
  refine (mcatch_pan q u [] wx y z hq hu (by omega)).mono ?_
  rintro e m wz ⟨rfl, rfl, f1, f2, f4, f5, f6, f7, f8⟩
  exact ⟨_, results_read tmps wz q u _ h2 h3 f1 f2, hb.trans ⟨f4, f5, f6, f7, fun k hk => f8 k (by have := hb.size; omega) (by omega) (by omega)⟩, rfl⟩
/-- a return comes to the door. -/
theorem read_done {w wx : World} {q u : Nat} {x : Except Int (List ToldT)} (tmps : Array Value) (h2 : tmps.getD 2 undef = .pointer (some ⟨q, 0, none⟩)) (h3 : tmps.getD 3 undef = .pointer (some ⟨u, 0, none⟩)) {A : Option Addr} {n c : Nat} {y : Int}
    (hq : wx.heap[q]? = some (.cells #[.slice A n c] 22 (0, 0))) (hu : wx.heap[u]? = some (.cells #[.int .i64 y] 25 (0, 0))) (hR : MReadP x w (.returned (.tuple #[.slice A n c, .int .i64 y])) (wx.alloc (.cells #[] 54 (0, 0)))) : Leaves Tryz.prog Tryz.f11 tmps (MReadP x w) (dfrM q u) .returning wx := by
  have ql := xlt hq
  have ul := xlt hu
  refine leaves_cons (f := 23) (args := #[.pointer (some ⟨q, 0, none⟩), .pointer (some ⟨u, 0, none⟩)]) (by simp) (by simp [go_sem]) ?_
  refine (mcatch_idle q u wx).mono ?_
  rintro e m wz ⟨rfl, rfl, rfl⟩
  exact ⟨_, results_read tmps _ q u _ h2 h3 ((heap_alloc_old _ _ ql).trans hq) ((heap_alloc_old _ _ ul).trans hu), hR⟩
/-- 's[1:]' of a list of nodes. -/
theorem mslice_one (b o n c : Nat) (h1 : 1 ≤ n) (h2 : n ≤ c) : ∃ A', (1 < n → A' = some ⟨b, o + 5, none⟩) ∧ ∀ w, (Instr.slice 34 (.slice (some ⟨b, o, none⟩) n c) (some (.int .i64 1)) none none).run Tryz.prog w = .ok (.slice A' (n - 1) (c - 1)) w := by
  have hu := Tryz.underlying34
  have hs := Tryz.sizeOf36
  have he : Tryz.prog.elem 34 = 36 := by kernel_rfl
  have key : ∀ w, (Instr.slice 34 (.slice (some ⟨b, o, none⟩) n c) (some (.int .i64 1)) none none).run Tryz.prog w = .ok (sliced (some ⟨b, o, none⟩) 1 n c 5) w := fun w => by
    rw [run_slice_l (P := Tryz.prog) (w := w) 34 (some ⟨b, o, none⟩) n c (by rw [he]; exact hu) .i64 1 (by omega) (by omega), he, hs]
    rfl
  by_cases hc : c = 1
  · refine ⟨some ⟨b, o, none⟩, fun h => by omega, fun w => ?_⟩
    rw [key]
    unfold sliced
    rw [if_pos hc]
  · refine ⟨some ⟨b, o + 5, none⟩, fun _ => rfl, fun w => ?_⟩
    rw [key]
    unfold sliced
    rw [if_neg hc]
    rfl
/-- what the outer loop keeps: the row of what is told; the two result cells; the tree. -/
structure RdM (w w2 : World) (B : Nat) (wr : World) (x : Value) (outs : List ToldT) : Prop where
  below : Below w.heap.size w wr
  q : wr.heap[w.heap.size]? = some (.cells #[x] 22 (0, 0))
  u : wr.heap[w.heap.size + 1]? = some (.cells #[.int .i64 0] 25 (0, 0))
  row : RowG 42 2 ToldR (B ≤ ·) w2.heap.size wr x outs
  fr : ∀ k, B ≤ k → k < w2.heap.size → wr.heap[k]? = w2.heap[k]?
  sz : w2.heap.size ≤ wr.heap.size
  le : w.heap.size + 2 ≤ B ∧ B ≤ w2.heap.size
section
variable {w w2 wr w' : World} {B : Nat} {x v9 : Value} {outs outs' : List ToldT}
theorem RdM.under (h : RdM w w2 B wr x outs) (hb : Below wr.heap.size wr w') : RdM w w2 B w' x outs :=
  ⟨h.below.trans (hb.mono h.below.size), (hb.block _ (xlt h.q)).trans h.q, (hb.block _ (xlt h.u)).trans h.u, h.row.under mov_told hb, fun k h1 h2 => (hb.block k (Nat.lt_of_lt_of_le h2 h.sz)).trans (h.fr k h1 h2), Nat.le_trans h.sz hb.size, h.le⟩
theorem RdM.own (h : RdM w w2 B wr x outs) {k : Nat} (hk : k < w2.heap.size) : x.ownBlock ≠ some k := fun e => by have := (h.row.lt _ e).1; omega
/-- the trees' blocks. -/
theorem RdM.tree (h : RdM w w2 B wr x outs) : Moves (fun k => B ≤ k ∧ k < w2.heap.size) (fun k => B ≤ k ∧ k < w2.heap.size) w2 wr := ⟨h.sz, fun k hk hlt => ⟨hk, h.fr k hk.1 hk.2⟩⟩
theorem RdM.app {w9 : World} (h : RdM w w2 B wr x outs) (hr : RowG 42 2 ToldR (B ≤ ·) w2.heap.size w9 v9 outs') (hb : Below w2.heap.size wr w9) (hg : wr.grownBy w9 x.ownBlock) : RdM w w2 B (w9.setCell ⟨w.heap.size, 0, none⟩ v9) v9 outs' := by
  obtain ⟨l1, l2⟩ := h.le
  have q9 := (hg.block _ (xlt h.q) (fun e => h.own (show w.heap.size < w2.heap.size by omega) e.symm)).trans h.q
  have u9 := (hg.block _ (xlt h.u) (fun e => h.own (show w.heap.size + 1 < w2.heap.size by omega) e.symm)).trans h.u
  have hB : Below w.heap.size w (w9.setCell ⟨w.heap.size, 0, none⟩ v9) := (h.below.trans (hb.mono (by omega))).setCell (p := ⟨w.heap.size, 0, none⟩) (Nat.le_refl _) _
  refine ⟨hB, heap_setCell_same w9 w.heap.size 0 _ _ _ q9, (heap_setCell_other w9 ⟨w.heap.size, 0, none⟩ _ _ (by show w.heap.size + 1 ≠ w.heap.size; omega)).trans u9, hr.step mov_told (xgrown_cell w9 _ 0 _) (by omega) (fun e => by have := (hr.lt _ e).1; omega), fun k h1 h2 => ?_, ?_, h.le⟩
  · exact (heap_setCell_other w9 ⟨w.heap.size, 0, none⟩ k _ (by show k ≠ w.heap.size; omega)).trans ((hb.block k h2).trans (h.fr k h1 h2))
  · have := h.sz; have := hb.size; rw [World.size_setCell]; omega
end
/-- what the inner loop keeps: the row of parts, the block of what is told. -/
structure PtM (href : List UInt8) (B q : Nat) (Q : Nat → Prop) (wS wr : World) (v : Value) (ps : List PartT) : Prop where
  at_ : wr.heap[q]? = some (.cells #[.string ⟨href.toArray⟩, v] 42 (0, 0))
  row : RowG 47 2 PartR Q B wr v ps
  fr : Below B wS wr
  ne : v.ownBlock ≠ some q
  nq : ¬ Q q
  le : B ≤ q
section
variable {href : List UInt8} {B q : Nat} {Q : Nat → Prop} {wS wr w' w9 : World} {ps ps' : List PartT} {v v9 : Value}
theorem PtM.hB (h : PtM href B q Q wS wr v ps) : B ≤ wr.heap.size := by have := xlt h.at_; have := h.le; omega
theorem PtM.under (h : PtM href B q Q wS wr v ps) (hb : Below wr.heap.size wr w') : PtM href B q Q wS w' v ps :=
  ⟨(hb.block _ (xlt h.at_)).trans h.at_, h.row.under mov_part hb, h.fr.trans (hb.mono h.hB), h.ne, h.nq, h.le⟩
theorem PtM.app (h : PtM href B q Q wS wr v ps) (hr : RowG 47 2 PartR Q B w9 v9 ps') (hb : Below B wr w9) (hg : wr.grownBy w9 v.ownBlock) (hn : v9.ownBlock = v.ownBlock ∨ ∃ k, v9.ownBlock = some k ∧ wr.heap.size ≤ k) : PtM href B q Q wS (w9.setCell ⟨q, 1, none⟩ v9) v9 ps' := by
  have hlt := xlt h.at_
  have hq : w9.heap[q]? = some (.cells #[.string ⟨href.toArray⟩, v] 42 (0, 0)) := (hg.block q hlt (fun e => h.ne e.symm)).trans h.at_
  have hne : v9.ownBlock ≠ some q := by
    rcases hn with hn | ⟨k, hk, hs⟩
    · rw [hn]; exact h.ne
    · rw [hk]; intro e; injection e with e; omega
  exact ⟨heap_setCell_same w9 q 1 _ _ _ hq, hr.step mov_part (xgrown_cell w9 q 1 _) h.nq hne, (h.fr.trans hb).setCell (p := ⟨q, 1, none⟩) h.le _, hne, h.nq, h.le⟩
theorem PtM.cells (h : PtM href B q Q wS wr v ps) (hg : wr.grownBy w9 v.ownBlock) : w9.heap[q]? = some (.cells #[.string ⟨href.toArray⟩, v] 42 (0, 0)) := (hg.block q (xlt h.at_) (fun e => h.ne e.symm)).trans h.at_
end
end Go.Proofs.YtcamdnfhnianbaaGreatDoor
/-! MulH -/
namespace Go.Proofs.YtcamdnfhnianbaaGreatDoor
set_option linter.unusedVariables false
set_option linter.unusedSimpArgs false
open Go.RowKit

theorem mset_id {w : World} {b i : Nat} {cs : Array Value} {t : TypeId} {v : Value} (h : w.heap[b]? = some (.cells cs t (0, 0))) (hv : cs[i]? = some v) : w.setCell ⟨b, i, none⟩ v = w := by
  have hlt : b < w.heap.size := (Array.getElem?_eq_some_iff.1 h).1
  have h2 := heap_setCell_same w b i cs t v h
  have he : cs.setIfInBounds i v = cs := by
    obtain ⟨hi, hi2⟩ := Array.getElem?_eq_some_iff.1 hv
    apply Array.ext_getElem?
    intro j
    rw [Array.getElem?_setIfInBounds]
    split
    · rename_i hj; subst hj; exact hv.symm
    · rfl
  have hheap : (w.setCell ⟨b, i, none⟩ v).heap = w.heap := by
    apply Array.ext_getElem?
    intro k
    by_cases hk : k = b
    · subst hk; rw [h2, h, he]
    · exact heap_setCell_other w _ k v hk
  have e1 : (w.setCell ⟨b, i, none⟩ v) = { w with heap := (w.setCell ⟨b, i, none⟩ v).heap } := rfl
  rw [e1, hheap]
theorem core_small {s : List UInt8} {n : NodeT} (hs : s.length ≤ 65536) (h : coreX s = some n) : SmallN 2000000 n := by
  obtain ⟨r1, r2, h1, h2, -⟩ := core_some h
  exact elemX_small (Nat.le_trans (misc_len _ _ _ _ h1) hs) rfl h2
theorem parse_small {s : List UInt8} {n : NodeT} (h : parseX s = .ok n) : SmallN 2000000 n := by
  rw [parseX_eq] at h
  split at h
  · cases h
  rename_i hl
  split at h
  · cases h
  have key : ∀ o, endsX o = .ok n → o = some n := by
    intro o ho
    unfold endsX at ho
    split at ho
    · cases ho
    · split at ho
      · injection ho with e; rw [e]
      · cases ho
  have hk := key _ h
  split at hk
  · split at hk
    · cases hk
    · rename_i a r hc
      refine core_small ?_ hk
      have := congrArg List.length (cut_some hc)
      simp only [List.length_append] at this
      omega
  · exact core_small (by omega) hk
theorem RowG.weak {α : Type} {e : TypeId} {n B B' : Nat} {R : (Nat → Prop) → World → List Value → α → Prop} {Q Q' : Nat → Prop} {w : World} {v : Value} {xs : List α} (hM : Mov R) (h : RowG e n R Q B w v xs) (hB : B' ≤ B) (hQ : ∀ k, Q k → Q' k) : RowG e n R Q' B' w v xs := by
  obtain ⟨rows, ⟨⟨h1, h2⟩, h3⟩, h4, h5⟩ := h
  refine ⟨rows, ⟨⟨h1, ?_⟩, h3⟩, h4, fun j r x hr hx => hM _ _ _ _ _ _ (h5 j r x hr hx) (Moves.same w fun k hk _ => ⟨hQ k hk.1, hk.2⟩)⟩
  rcases h2 with h2 | ⟨g, cap, cur, e1, e2, e3⟩
  · exact .inl h2
  · exact .inr ⟨g, cap, cur, e1, Nat.le_trans hB e2, e3⟩
theorem allM_cons {α β : Type} {f : α → Option β} {l rest : List α} {i : Nat} {x : α} {outs : List β} (hd : l.drop i = x :: rest) (hr : l.drop (i + 1) = rest) (h : allM f l = (allM f (l.drop i)).map (outs ++ ·)) : (f x = none → allM f l = none) ∧ ∀ b, f x = some b → allM f l = (allM f (l.drop (i + 1))).map ((outs ++ [b]) ++ ·) := by
  rw [hd, allM] at h
  constructor
  · intro hx
    rw [hx] at h
    exact h
  · intro b hx
    rw [hx] at h
    rw [h, hr]
    cases allM f rest with
    | none => rfl
    | some r => simp
theorem allM_end {α β : Type} {f : α → Option β} {l : List α} {i : Nat} {outs : List β} (hd : l.drop i = []) (h : allM f l = (allM f (l.drop i)).map (outs ++ ·)) : allM f l = some outs := by
  rw [h, hd]
  simp [allM]
theorem allM_start {α β : Type} (f : α → Option β) (l : List α) : allM f l = (allM f (l.drop 0)).map (([] : List β) ++ ·) := by
  rw [List.drop_zero]
  cases allM f l <;> simp
theorem respM_1 {x : NodeT} (h : isM x wResp = none) : respM x = none := by unfold respM; rw [h]
theorem respM_2 {x : NodeT} (h : isM x wResp = some []) : respM x = none := by unfold respM; rw [h]
theorem respM_q {x a : NodeT} {r : List NodeT} (h : isM x wResp = some (a :: r)) : respM x = match textM a wHref with | none => none | some t => match allM partM r with | none => none | some ps => some ⟨t, ps⟩ := by unfold respM; rw [h]; rfl
theorem respM_3 {x a : NodeT} {r : List NodeT} (h : isM x wResp = some (a :: r)) (h2 : textM a wHref = none) : respM x = none := by rw [respM_q h, h2]
theorem respM_4 {x a : NodeT} {r : List NodeT} {t : List UInt8} (h : isM x wResp = some (a :: r)) (h2 : textM a wHref = some t) (h3 : allM partM r = none) : respM x = none := by rw [respM_q h, h2]; simp only [h3]
theorem respM_5 {x a : NodeT} {r : List NodeT} {t : List UInt8} {ps : List PartT} (h : isM x wResp = some (a :: r)) (h2 : textM a wHref = some t) (h3 : allM partM r = some ps) : respM x = some ⟨t, ps⟩ := by rw [respM_q h, h2]; simp only [h3]
theorem mslice_succ (b o n c : Nat) (h2 : n + 1 ≤ c) : ∃ A', (0 < n → A' = some ⟨b, o + 5, none⟩) ∧ ∀ w, (Instr.slice 34 (.slice (some ⟨b, o, none⟩) (n + 1) c) (some (.int .i64 1)) none none).run Tryz.prog w = .ok (.slice A' n (c - 1)) w := by
  obtain ⟨A', h3, h4⟩ := mslice_one b o (n + 1) c (by omega) h2
  exact ⟨A', fun h => h3 (by omega), fun w => by rw [h4 w, Nat.add_sub_cancel]⟩
set_option maxHeartbeats 64000000 in
set_option maxRecDepth 100000 in
set_option linter.unusedSimpArgs false in
theorem mread_any (s : List UInt8) (w : World) (hs : s.length ≤ 9223372036854775807) (hE : MEnv w) : Calls Tryz.prog 11 #[.string ⟨s.toArray⟩] w (MReadP (readM s) w) := by
  have hmf : ∀ (fn : Fn) (first cap : Array Value) (w : World), (Instr.makeFunc fn first cap).run Tryz.prog w = .ok (.func fn first cap) w := fun _ _ _ _ => rfl
  obtain ⟨hb0, hq0, hu0⟩ := two_alloc w (.cells #[.slice none 0 0] 22 (0, 0)) (.cells #[.int .i64 0] 25 (0, 0))
  have hz0 : ((w.alloc (.cells #[.slice none 0 0] 22 (0, 0))).alloc (.cells #[.int .i64 0] 25 (0, 0))).heap.size = w.heap.size + 2 := (World.size_alloc ..).trans (by rw [World.size_alloc])
  have HPa := Lib.hid (xparse_any s _ hs (hE.below hb0).x)
  have HB0 := Lib.hid hb0
  have HQ0 := Lib.hid hq0
  have HU0 := Lib.hid hu0
  have HE := Lib.hid hE
  have HR := Lib.hid (show readM s = match parseX s with | .error e => .error e | .ok n => match multiM n with | none => .error 50 | some l => .ok l from rfl)
  generalize readM s = ANS at *
  obtain ⟨X, hX⟩ : ∃ X, X = parseX s := ⟨_, rfl⟩
  rw [← hX] at HPa HR
  have HX := Lib.hid hX
  clear hb0 hq0 hu0 hE hX
  go_enter_defers Tryz.func11, Tryz.ntmps11
  go_wp2_with fail
  generalize (w.alloc (.cells #[.slice none 0 0] 22 (0, 0))).alloc (.cells #[.int .i64 0] 25 (0, 0)) = w0 at *
  refine HPa.out.mono ?_
  rintro e w1 ⟨hb1, hx⟩
  have HB1 := Lib.hid (HB0.out.trans (hb1.mono HB0.out.size))
  have hq1 := (hb1.block _ (xlt HQ0.out)).trans HQ0.out
  have hu1 := (hb1.block _ (xlt HU0.out)).trans HU0.out
  have hs01 := hb1.size
  have HQ1 := Lib.hid hq1
  have HU1 := Lib.hid hu1
  clear hb1 HPa HB0 HQ0 HU0
  have c1 := xat hu1 0
  have f1 := xfree hu1 0
  have c0 := xat hq1 0
  have f0 := xfree hq1 0
  simp only [List.getElem?_toArray, List.getElem?_cons_zero] at c0 c1
  have l0 := xlt hq1
  have l1 := xlt hu1
  clear hq1 hu1
  rcases X with k | n
  · replace hx : e = .returned (.tuple #[zeroNV, .int .i64 k]) := hx
    subst hx
    unfold zeroNV
    have HA := Lib.hid (show ANS = .error k by rw [HR.out])
    have hk := parse_err HX.out.symm
    have hu2 := heap_setCell_same w1 (w.heap.size + 1) 0 _ _ (.int .i64 k) HU1.out
    have hq2 := (heap_setCell_other w1 ⟨w.heap.size + 1, 0, none⟩ w.heap.size (.int .i64 k) (by show w.heap.size ≠ w.heap.size + 1; omega)).trans HQ1.out
    have hb2 : Below w.heap.size w (w1.setCell ⟨w.heap.size + 1, 0, none⟩ (.int .i64 k)) := HB1.out.setCell (p := ⟨w.heap.size + 1, 0, none⟩) (by show w.heap.size ≤ w.heap.size + 1; omega) _
    have HU3 := Lib.hid ((heap_alloc_old _ (.cells #[.string ⟨#[]⟩, .string ⟨#[]⟩, .string ⟨#[]⟩, .slice none 0 0, .slice none 0 0] 36 (0, 0)) (xlt hu2)).trans hu2)
    have HQ3 := Lib.hid ((heap_alloc_old _ (.cells #[.string ⟨#[]⟩, .string ⟨#[]⟩, .string ⟨#[]⟩, .slice none 0 0, .slice none 0 0] 36 (0, 0)) (xlt hq2)).trans hq2)
    have HB3 := Lib.hid (hb2.alloc hb2.size (.cells #[.string ⟨#[]⟩, .string ⟨#[]⟩, .string ⟨#[]⟩, .slice none 0 0, .slice none 0 0] 36 (0, 0)))
    clear HR HX hu2 hq2 hb2
    have hk0 : ¬ k = 0 := by omega
    have b1 : (k != 0) = true := by rw [bne, beq_eq_false_iff_ne.2 hk0]; rfl
    have b2 : (k == 0) = false := beq_eq_false_iff_ne.2 hk0
    clear hk hk0
    go_wp2_with fail
    generalize (w1.setCell ⟨w.heap.size + 1, 0, none⟩ (.int .i64 k)).alloc (.cells #[.string ⟨#[]⟩, .string ⟨#[]⟩, .string ⟨#[]⟩, .slice none 0 0, .slice none 0 0] 36 (0, 0)) = w3 at *
    clear c0 c1 f0 f1 l0 l1
    have c0 := xat HQ3.out 0
    have f0 := xfree HQ3.out 0
    have c1 := xat HU3.out 0
    have f1 := xfree HU3.out 0
    simp only [List.getElem?_toArray, List.getElem?_cons_zero] at c0 c1
    have s0 : w3.setCell ⟨w.heap.size, 0, none⟩ (.slice none 0 0) = w3 := mset_id HQ3.out rfl
    have s1 : w3.setCell ⟨w.heap.size + 1, 0, none⟩ (.int .i64 k) = w3 := mset_id HU3.out rfl
    go_region
    all_goals
      go_wp2
      rw [HA.out]
      exact ⟨_, results_read _ _ w.heap.size (w.heap.size + 1) _ rfl rfl HQ3.out HU3.out, below_draws HB3.out 1, rfl⟩
  · obtain ⟨av, kv, hev, ha, hk⟩ := hx
    subst hev
    obtain ⟨aA, ac, rfl⟩ := tab_shape ha.1
    obtain ⟨kA, kc, rfl⟩ := tab_shape hk.1
    unfold nodeV
    have HA := Lib.hid (show ANS = match multiM n with | none => .error 50 | some l => .ok l by rw [HR.out])
    have hcn := good_count (parse_good HX.out.symm)
    have HSn := Lib.hid (parse_small HX.out.symm)
    have hu2 := heap_setCell_same w1 (w.heap.size + 1) 0 _ _ (.int .i64 0) HU1.out
    have hq2 := (heap_setCell_other w1 ⟨w.heap.size + 1, 0, none⟩ w.heap.size (.int .i64 0) (by show w.heap.size ≠ w.heap.size + 1; omega)).trans HQ1.out
    have hb2 : Below w.heap.size w (w1.setCell ⟨w.heap.size + 1, 0, none⟩ (.int .i64 0)) := HB1.out.setCell (p := ⟨w.heap.size + 1, 0, none⟩) (by show w.heap.size ≤ w.heap.size + 1; omega) _
    have hs2 : (w1.setCell ⟨w.heap.size + 1, 0, none⟩ (.int .i64 0)).heap.size = w1.heap.size := World.size_setCell ..
    have hsz2 : ((w1.setCell ⟨w.heap.size + 1, 0, none⟩ (.int .i64 0)).alloc (.cells #[.string ⟨n.text.toArray⟩, .string ⟨n.space.toArray⟩, .string ⟨n.name.toArray⟩, .slice aA n.attrs.length ac, .slice kA n.kids.length kc] 36 (0, 0))).heap.size = w1.heap.size + 1 := (World.size_alloc ..).trans (by rw [hs2])
    have hrd : RdM w ((w1.setCell ⟨w.heap.size + 1, 0, none⟩ (.int .i64 0)).alloc (.cells #[.string ⟨n.text.toArray⟩, .string ⟨n.space.toArray⟩, .string ⟨n.name.toArray⟩, .slice aA n.attrs.length ac, .slice kA n.kids.length kc] 36 (0, 0))) w0.heap.size ((w1.setCell ⟨w.heap.size + 1, 0, none⟩ (.int .i64 0)).alloc (.cells #[.string ⟨n.text.toArray⟩, .string ⟨n.space.toArray⟩, .string ⟨n.name.toArray⟩, .slice aA n.attrs.length ac, .slice kA n.kids.length kc] 36 (0, 0))) (.slice none 0 0) [] :=
      ⟨hb2.alloc hb2.size _, (heap_alloc_old _ _ (xlt hq2)).trans hq2, (heap_alloc_old _ _ (xlt hu2)).trans hu2, RowG.nil _ _ _ _ _ _, fun _ _ _ => rfl, Nat.le_refl _, ⟨by omega, by omega⟩⟩
    have hbx : ((w1.setCell ⟨w.heap.size + 1, 0, none⟩ (.int .i64 0)).alloc (.cells #[.string ⟨n.text.toArray⟩, .string ⟨n.space.toArray⟩, .string ⟨n.name.toArray⟩, .slice aA n.attrs.length ac, .slice kA n.kids.length kc] 36 (0, 0))).heap[w1.heap.size]? = some (.cells #[.string ⟨n.text.toArray⟩, .string ⟨n.space.toArray⟩, .string ⟨n.name.toArray⟩, .slice aA n.attrs.length ac, .slice kA n.kids.length kc] 36 (0, 0)) := by
      have := heap_alloc_new (w1.setCell ⟨w.heap.size + 1, 0, none⟩ (.int .i64 0)) (.cells #[.string ⟨n.text.toArray⟩, .string ⟨n.space.toArray⟩, .string ⟨n.name.toArray⟩, .slice aA n.attrs.length ac, .slice kA n.kids.length kc] 36 (0, 0))
      rwa [hs2] at this
    have hkT : NodesP (fun k => w0.heap.size ≤ k ∧ k < w1.heap.size + 1) ((w1.setCell ⟨w.heap.size + 1, 0, none⟩ (.int .i64 0)).alloc (.cells #[.string ⟨n.text.toArray⟩, .string ⟨n.space.toArray⟩, .string ⟨n.name.toArray⟩, .slice aA n.attrs.length ac, .slice kA n.kids.length kc] 36 (0, 0))) (.slice kA n.kids.length kc) n.kids :=
      hk.move ⟨by rw [hsz2]; omega, fun k hp hlt => ⟨⟨hp, by omega⟩, (heap_alloc_old _ _ (by rw [hs2]; exact hlt)).trans (heap_setCell_other w1 ⟨w.heap.size + 1, 0, none⟩ k _ (by show k ≠ w.heap.size + 1; omega))⟩⟩
    rw [← hsz2] at hkT
    have HRd := Lib.hid hrd
    have HBx := Lib.hid hbx
    have HKT := Lib.hid hkT
    have HIs := Lib.hid (fun w' => mis_any n wMulti aA kA ac kc w')
    clear ha hk hu2 hq2 hb2 hrd hkT HR HB1 HQ1 HU1 hs2
    go_upto_region 5 with (fail)
    generalize (w1.setCell ⟨w.heap.size + 1, 0, none⟩ (.int .i64 0)).alloc (.cells #[.string ⟨n.text.toArray⟩, .string ⟨n.space.toArray⟩, .string ⟨n.name.toArray⟩, .slice aA n.attrs.length ac, .slice kA n.kids.length kc] 36 (0, 0)) = w2 at *
    obtain ⟨q4, hq4⟩ : ∃ q, q = w1.heap.size := ⟨_, rfl⟩
    rw [← hq4] at HBx ⊢
    clear c0 c1 f0 f1 l0 l1 hbx hq4 hsz2 hz0 hs01
    have x0 := xat HBx.out 0
    have x1 := xat HBx.out 1
    have x2 := xat HBx.out 2
    have x3 := xat HBx.out 3
    have x4 := xat HBx.out 4
    simp only [List.getElem?_toArray, List.getElem?_cons_zero, List.getElem?_cons_succ] at x0 x1 x2 x3 x4
    go_wp2_with fail
    refine (HIs.out _).mono ?_
    rintro e w3 ⟨hb3, hx⟩
    have HR3 := Lib.hid (HRd.out.under hb3)
    clear hb3 HIs HBx x0 x1 x2 x3 x4
    rcases hi : isM n wMulti with _ | ks
    · rw [hi] at hx
      replace hx : e = .panicked brokenM := hx
      subst hx
      exact read_stop (by rw [HA.out]; unfold multiM; rw [hi]) _ rfl rfl HR3.out.q HR3.out.u (Nat.le_refl _) (Nat.lt_succ_self _) HR3.out.below
    rw [hi] at hx
    obtain ⟨v, rfl, hv⟩ := hx
    replace hv : v = .slice kA ks.length kc := hv
    subst hv
    obtain rfl : n.kids = ks := isM_kids hi
    have HA2 := Lib.hid (show ANS = match allM respM n.kids with | none => .error 50 | some l => .ok l by rw [HA.out]; unfold multiM; rw [hi])
    obtain ⟨-, hkc, hkm, -⟩ := kid_at HKT.out
    unfold maxLen at hkm
    obtain ⟨-, -, -, -, -, -, hsk⟩ := HSn.out.parts
    have HSk := Lib.hid hsk
    have HCk := Lib.hid (fun x (hx : x ∈ n.kids) => (show x.kids.length ≤ 4096 by
      have h1 := len_mem_count _ _ hx
      have h2 := countN_kids n
      have h3 := kids_le x
      omega))
    have hkl : n.kids.length ≤ 4096 := by have h3 := kids_le n; omega
    clear hi HA hsk HSn HX hcn HRd
    go_wp2_with fail
    go_loopg [23] n.kids.length (fun gk v23 wr => ∃ (i : Nat) (x : Value) (outs : List ToldT), i + gk = n.kids.length ∧ v23 = .int .i64 i ∧ outs.length ≤ i ∧ Hid (RdM w w2 w0.heap.size wr x outs) ∧ Hid (allM respM n.kids = (allM respM (n.kids.drop i)).map (outs ++ ·)))
    case atStart => exact ⟨0, .slice none 0 0, [], by omega, rfl, Nat.le_refl _, HR3, Lib.hid (allM_start _ _)⟩
    case round =>
      obtain ⟨i, xv, outs, hig, rfl, hol, HRd, HAll⟩ := hrel
      clear HR3
      obtain ⟨oA, oc, hxv, hoc1, hoc2⟩ := HRd.out.row.form
      unfold maxLen at hoc2
      subst hxv
      rcases hd : n.kids.drop i with _ | ⟨x, rest⟩
      · have hi2 : i = n.kids.length := by have := drop_nil hd; omega
        subst hi2
        have HF := Lib.hid (show ANS = .ok outs by rw [HA2.out, allM_end hd HAll.out])
        have c0 := xat HRd.out.q 0
        have f0 := xfree HRd.out.q 0
        have c1 := xat HRd.out.u 0
        have f1 := xfree HRd.out.u 0
        simp only [List.getElem?_toArray, List.getElem?_cons_zero] at c0 c1
        have s0 : wr.setCell ⟨w.heap.size, 0, none⟩ (.slice oA outs.length oc) = wr := mset_id HRd.out.q rfl
        have s1 : wr.setCell ⟨w.heap.size + 1, 0, none⟩ (.int .i64 0) = wr := mset_id HRd.out.u rfl
        clear hd HAll HA2 HSk HCk HKT
        go_wp2
        have hbz : Below w.heap.size w (wr.alloc (.cells #[] 54 (0, 0))) := HRd.out.below.alloc HRd.out.below.size _
        have hrz := HRd.out.row.under mov_told ((Below.refl wr.heap.size wr).alloc (Nat.le_refl _) (.cells #[] 54 (0, 0)))
        obtain ⟨l1, l2⟩ := HRd.out.le
        exact read_done _ rfl rfl HRd.out.q HRd.out.u ⟨hbz, by rw [HF.out]; exact ⟨_, rfl, hrz.weak mov_told (by omega) fun k hk => by omega⟩⟩
      · obtain ⟨hlt, hx, hr⟩ := drop_consA hd
        obtain ⟨al1, al2⟩ := allM_cons hd hr HAll.out
        have HA3 := Lib.hid (show respM x = none → ANS = .error 50 from fun h => by rw [HA2.out, al1 h])
        have HA4 := Lib.hid al2
        have hxm := List.mem_of_getElem? hx
        have hxk := HCk.out x hxm
        obtain ⟨-, -, -, -, -, -, hsx⟩ := (HSk.out x hxm).parts
        have HSx := Lib.hid hsx
        obtain ⟨-, -, -, hkk⟩ := kid_at (HKT.out.move HRd.out.tree)
        obtain ⟨b1, o1, aA1, ac1, kA1, kc1, rfl, hbl1, d0, d1, d2, d3, d4, -, hxn⟩ := hkk i x hx
        have k1 : (i : Int) < n.kids.length := by omega
        have k2 : (0 : Int) ≤ i := by omega
        have hb4 : Below wr.heap.size wr (wr.alloc (.cells #[.string ⟨x.text.toArray⟩, .string ⟨x.space.toArray⟩, .string ⟨x.name.toArray⟩, .slice aA1 x.attrs.length ac1, .slice kA1 x.kids.length kc1] 36 (0, 0))) := (Below.refl _ _).alloc (Nat.le_refl _) _
        have HRd4 := Lib.hid (HRd.out.under hb4)
        have HXn := Lib.hid (hxn.move (Moves.below hb4 fun _ hk _ => hk))
        have HIs := Lib.hid (fun w' => mis_any x wResp aA1 kA1 ac1 kc1 w')
        clear hd hr al1 al2 hxm hsx hkk hxn hb4 hx HAll HRd
        go_wp2_with fail
        generalize wr.alloc (.cells #[.string ⟨x.text.toArray⟩, .string ⟨x.space.toArray⟩, .string ⟨x.name.toArray⟩, .slice aA1 x.attrs.length ac1, .slice kA1 x.kids.length kc1] 36 (0, 0)) = w4 at *
        refine (HIs.out _).mono ?_
        rintro e w5 ⟨hb5, hx5⟩
        have HRd5 := Lib.hid (HRd4.out.under hb5)
        have HXn5 := Lib.hid (HXn.out.move (Moves.below hb5 fun _ hk _ => hk))
        clear hb5 HIs d0 d1 d2 d3 d4 HRd4 HXn
        rcases hi : isM x wResp with _ | ks
        · rw [hi] at hx5
          replace hx5 : e = .panicked brokenM := hx5
          subst hx5
          exact read_stop (HA3.out (respM_1 hi)) _ rfl rfl HRd5.out.q HRd5.out.u (Nat.le_refl _) (Nat.lt_succ_self _) HRd5.out.below
        rw [hi] at hx5
        obtain ⟨v, rfl, hv⟩ := hx5
        replace hv : v = .slice kA1 ks.length kc1 := hv
        subst hv
        have hkks : x.kids = ks := isM_kids hi
        rcases hks : ks with _ | ⟨a, r⟩
        · subst hks
          have HStop := Lib.hid (HA3.out (respM_2 hi))
          have HNf := Lib.hid mneed_f
          clear hi HA3 HA4 HXn5
          go_wp2_with fail
          refine (HNf.out _).mono ?_
          rintro e w6 ⟨rfl, rfl⟩
          exact read_stop HStop.out _ rfl rfl HRd5.out.q HRd5.out.u (Nat.le_refl _) (Nat.lt_succ_self _) HRd5.out.below
        subst hks
        have HI := Lib.hid hi
        rw [hkks] at HXn5 HSx hxk
        obtain ⟨-, hkc2, hkm2, hkk⟩ := kid_at HXn5.out
        unfold maxLen at hkm2
        obtain ⟨b2, o2, aA2, ac2, kA2, kc2, rfl, hbl2, d0, d1, d2, d3, d4, -, han⟩ := hkk 0 a rfl
        rw [Nat.zero_mul, Nat.add_zero] at d0 d1 d2 d3 d4
        have hlen : (a :: r).length = r.length + 1 := rfl
        rw [hlen] at hkc2 hxk ⊢
        have HTx := Lib.hid (fun w' (hb : Below w5.heap.size w5 w') => mtext_any (P := anyB) a wHref aA2 kA2 ac2 kc2 w' (han.move (Moves.below hb fun _ _ _ => trivial)))
        have HNt := Lib.hid mneed_t
        have hc1 : 1 ≤ kc1 := by omega
        clear hi hkks hkk han hlen
        go_wp2_with (go_at_call 25; refine (HNt.out _).mono ?_; rintro e w6 ⟨rfl, rfl⟩)
        refine (HTx.out _ (Below.refl _ _)).mono ?_
        rintro e w6 ⟨hb6, hx6⟩
        have HRd6 := Lib.hid (HRd5.out.under hb6)
        have HXn6 := Lib.hid (HXn5.out.move (Moves.below hb6 fun _ hk _ => hk))
        clear hb6 HTx d0 d1 d2 d3 d4 HRd5 HXn5 hbl2
        rcases hi : textM a wHref with _ | t
        · rw [hi] at hx6
          replace hx6 : e = .panicked brokenM := hx6
          subst hx6
          exact read_stop (HA3.out (respM_3 HI.out hi)) _ rfl rfl HRd6.out.q HRd6.out.u (Nat.le_refl _) (Nat.lt_succ_self _) HRd6.out.below
        rw [hi] at hx6
        obtain ⟨v, rfl, hv⟩ := hx6
        replace hv : v = .string ⟨t.toArray⟩ := hv
        subst hv
        have HT := Lib.hid hi
        obtain ⟨A', hA', hsl⟩ := mslice_succ b2 o2 r.length kc1 (by omega)
        have HSl := Lib.hid hA'
        have hw26 := HRd6.out.sz
        have hb8 : Below w6.heap.size w6 (w6.alloc (.cells #[.string ⟨t.toArray⟩, .slice none 0 0] 42 (0, 0))) := (Below.refl _ _).alloc (Nat.le_refl _) _
        have HB8 := Lib.hid hb8
        have HPt0 := Lib.hid (⟨heap_alloc_new w6 _, RowG.nil _ _ _ _ _ _, Below.refl _ _, (fun e => by cases e), (fun h => by have := h.2; omega), Nat.le_refl _⟩ : PtM t w6.heap.size w6.heap.size (fun k => w0.heap.size ≤ k ∧ k < w2.heap.size) (w6.alloc (.cells #[.string ⟨t.toArray⟩, .slice none 0 0] 42 (0, 0))) (w6.alloc (.cells #[.string ⟨t.toArray⟩, .slice none 0 0] 42 (0, 0))) (.slice none 0 0) [])
        clear hi hA' hb8
        go_upto_region 12 with (fail)
        clear hsl
        generalize w6.alloc (.cells #[.string ⟨t.toArray⟩, .slice none 0 0] 42 (0, 0)) = w8 at *
        obtain ⟨q8, hq8⟩ : ∃ q, q = w6.heap.size := ⟨_, rfl⟩
        rw [← hq8] at HPt0 HB8 hw26 ⊢
        have HQ8 := Lib.hid hq8
        clear hq8
        go_loopg [41] r.length (fun gk v41 wr => ∃ (j : Nat) (pv : Value) (ps : List PartT), j + gk = r.length ∧ v41 = .int .i64 j ∧ ps.length ≤ j ∧ Hid (PtM t q8 q8 (fun k => w0.heap.size ≤ k ∧ k < w2.heap.size) w8 wr pv ps) ∧ Hid (allM partM r = (allM partM (r.drop j)).map (ps ++ ·)))
        case atStart => exact ⟨0, .slice none 0 0, [], by omega, rfl, Nat.le_refl _, HPt0, Lib.hid (allM_start _ _)⟩
        case round =>
          obtain ⟨j, pv, ps, hjg, rfl, hpl, HPt, HAj⟩ := hrel
          clear HPt0
          obtain ⟨pA, pc, hpv, hpc1, hpc2⟩ := HPt.out.row.form
          unfold maxLen at hpc2
          subst hpv
          have HBq := Lib.hid (show Below w6.heap.size w6 wr by have := HB8.out; rw [HQ8.out] at this; exact this.trans (by rw [← HQ8.out]; exact HPt.out.fr))
          have HRdw := Lib.hid (HRd6.out.under HBq.out)
          have HXw := Lib.hid (HXn6.out.move (Moves.below HBq.out fun _ hk _ => hk))
          rcases hd : r.drop j with _ | ⟨p, rest2⟩
          · have hj2 : j = r.length := by have := drop_nil hd; omega
            subst hj2
            have HRs := Lib.hid (HA4.out _ (respM_5 HI.out HT.out (allM_end hd HAj.out)))
            have x0 := xat HPt.out.at_ 0
            have x1 := xat HPt.out.at_ 1
            have c0 := xat HRdw.out.q 0
            simp only [List.getElem?_toArray, List.getElem?_cons_zero, List.getElem?_cons_succ] at x0 x1 c0
            have hsz := HRdw.out.sz
            have hown := HRdw.out.row.lt
            have hpown := HPt.out.row.lt
            have hl0 := HRdw.out.le
            have HY := Lib.hid (show ToldR (fun k => w0.heap.size ≤ k ∧ some k ≠ (Value.slice oA outs.length oc).ownBlock) wr [.string ⟨t.toArray⟩, .slice pA ps.length pc] ⟨t, ps⟩ from ⟨_, rfl, HPt.out.row.tabQ mov_part fun k hk => ⟨hk.1, fun e => by have := (HRd6.out.row.lt k e.symm).1; omega⟩, fun _ k hk => ⟨by have := (hpown k hk).1; omega, fun e => by have h1 := (hpown k hk).1; have h2 := (HRd6.out.row.lt k e.symm).2; have := HQ8.out; omega⟩⟩)
            have hol2 : outs.length + 1 ≤ 5000 := by omega
            have HOut := Lib.hid (show ∀ k, (Value.slice oA outs.length oc).ownBlock = some k → w2.heap.size ≤ k ∧ k < wr.heap.size from hown)
            clear hd HAj HPt HA3 HXw HXn6 HI HT hown hpown
            go_wp2_with (at_builtin; refine wpList_appG elemTd mov_told rfl _ _ rfl rfl HRdw.out.row _ ⟨t, ps⟩ HY.out _ rfl rfl rfl (by simp [Value.oneCell']) (by omega) hsz ?_)
            intro v9 w9 hr9 hb9 hg9 hn9
            have HRd9 := Lib.hid (HRdw.out.app hr9 hb9 hg9)
            have hq9 : w9.heap[w.heap.size]? = some (.cells #[.slice oA outs.length oc] 22 (0, 0)) := (hg9.block _ (xlt HRdw.out.q) (fun e => by have := (HOut.out _ e.symm).1; omega)).trans HRdw.out.q
            obtain ⟨A9, c9, hv9, -, -⟩ := hr9.form
            rw [show (outs ++ [(⟨t, ps⟩ : ToldT)]).length = outs.length + 1 from List.length_append ..] at hv9
            subst hv9
            have f9 := xfree hq9 0
            have g9 := xat hq9 0
            simp only [List.getElem?_toArray, List.getElem?_cons_zero] at g9
            clear hr9 hb9 hg9 hn9 hq9 x0 x1 c0 HY HOut HRdw
            go_wp2
            go_roundg (n.kids.length - (i + 1))
            case measure => omega
            case rel => exact ⟨i + 1, _, outs ++ [⟨t, ps⟩], by omega, by go_num, by rw [List.length_append]; show outs.length + 1 ≤ _; omega, HRd9, HRs⟩
          · obtain ⟨hlt2, hx2, hr2⟩ := drop_consA hd
            obtain ⟨al3, al4⟩ := allM_cons hd hr2 HAj.out
            obtain ⟨-, -, -, hkk⟩ := kid_at HXw.out
            obtain ⟨b3, o3, aA3, ac3, kA3, kc3, hA3, hbl3, d0, d1, d2, d3, d4, -, hpn⟩ := hkk (j + 1) p (by simpa using hx2)
            injection hA3 with hA3
            injection hA3 with hA4 hA5 hA6
            subst hA4 hA5
            obtain rfl := HSl.out (by omega)
            have eo : o2 + (j + 1) * 5 = o2 + 5 + j * 5 := by omega
            rw [eo] at d0 d1 d2 d3 d4
            have HSp := Lib.hid (HSx.out p (List.mem_cons_of_mem _ (List.mem_of_getElem? hx2)))
            have j1 : (j : Int) < r.length := by omega
            have j2 : (0 : Int) ≤ j := by omega
            have hb10 : Below wr.heap.size wr (wr.alloc (.cells #[.string ⟨p.text.toArray⟩, .string ⟨p.space.toArray⟩, .string ⟨p.name.toArray⟩, .slice aA3 p.attrs.length ac3, .slice kA3 p.kids.length kc3] 36 (0, 0))) := (Below.refl _ _).alloc (Nat.le_refl _) _
            have HPt10 := Lib.hid (HPt.out.under hb10)
            have HRd10 := Lib.hid (HRdw.out.under hb10)
            have HPn10 := Lib.hid (hpn.move (Moves.below hb10 fun _ hk _ => hk))
            have HBx10 := Lib.hid (heap_alloc_new wr (.cells #[.string ⟨p.text.toArray⟩, .string ⟨p.space.toArray⟩, .string ⟨p.name.toArray⟩, .slice aA3 p.attrs.length ac3, .slice kA3 p.kids.length kc3] 36 (0, 0)))
            have HA4j := Lib.hid al4
            have HA3j := Lib.hid al3
            clear hd hx2 hr2 al3 al4 hkk hpn hb10 eo hA6 HAj HXw HRdw HPt
            go_upto_region 14 with (fail)
            generalize wr.alloc (.cells #[.string ⟨p.text.toArray⟩, .string ⟨p.space.toArray⟩, .string ⟨p.name.toArray⟩, .slice aA3 p.attrs.length ac3, .slice kA3 p.kids.length kc3] 36 (0, 0)) = w10 at *
            obtain ⟨q10, hq10⟩ : ∃ q, q = wr.heap.size := ⟨_, rfl⟩
            rw [← hq10] at HBx10 ⊢
            clear hq10 d0 d1 d2 d3 d4
            have HPc := Lib.hid (mpart_any (P := (fun k => w0.heap.size ≤ k ∧ k < w2.heap.size)) p aA3 kA3 ac3 kc3 (w10.drewN 1) (HPn10.out.move (Moves.below (below_draws (Below.refl _ _) 1) fun _ hk _ => hk)) HSp.out (HE.out.below (below_draws HRd10.out.below 1)))
            have y1 : w10.cell? ⟨q8, 1, none⟩ = some (.slice pA ps.length pc) := xat HPt10.out.at_ 1
            have z0 : w10.cell? ⟨q10, 0, none⟩ = some (.string ⟨p.text.toArray⟩) := xat HBx10.out 0
            have z1 : w10.cell? ⟨q10, 1, none⟩ = some (.string ⟨p.space.toArray⟩) := xat HBx10.out 1
            have z2 : w10.cell? ⟨q10, 2, none⟩ = some (.string ⟨p.name.toArray⟩) := xat HBx10.out 2
            have z3 : w10.cell? ⟨q10, 3, none⟩ = some (.slice aA3 p.attrs.length ac3) := xat HBx10.out 3
            have z4 : w10.cell? ⟨q10, 4, none⟩ = some (.slice kA3 p.kids.length kc3) := xat HBx10.out 4
            have hql : q8 < w10.heap.size := xlt HPt10.out.at_
            have hql1 : q8 < w10.heap.size + 1 := by omega
            have HD0 := Lib.hid (below_draws (Below.refl w10.heap.size w10) 1)
            rcases hpm : partM p with _ | pt
            · have HStop := Lib.hid (HA3.out (respM_4 HI.out HT.out (HA3j.out hpm)))
              have HPc2 := Lib.hid (HPc.out.mono (R' := fun e w' => Below (w10.drewN 1).heap.size (w10.drewN 1) w' ∧ e = .panicked brokenM) (fun e w'' ⟨h1, h2⟩ => ⟨h1, by rw [hpm] at h2; exact h2⟩))
              clear hpm HPc HA3j HA4j HA3 HA4 HI HT HSl HSp HKT HSk HCk HSx
              first
                | go_region_with (go_at_call 27; refine HPc2.out.mono ?_; rintro e w11 ⟨hb11, rfl⟩; refine (fun (_ : wpAny Tryz.prog .any #[] (fun _ _ _ => True) 0 #[] { tmps := #[], defers := [] } w10) => read_stop HStop.out _ rfl rfl ((hb11.block _ (xlt HRd10.out.q)).trans HRd10.out.q) ((hb11.block _ (xlt HRd10.out.u)).trans HRd10.out.u) (Nat.le_refl _) (Nat.lt_succ_self _) ((below_draws HRd10.out.below 1).trans (hb11.mono (below_draws HRd10.out.below 1).size))) ?_)
                | fail
              all_goals trivial
            · have HPc2 := Lib.hid (HPc.out.mono (R' := fun e w' => Below (w10.drewN 1).heap.size (w10.drewN 1) w' ∧ ∃ kA kc, e = .returned (.agg #[.int .i64 pt.status, .slice kA pt.props.length kc]) ∧ NodesP (fun k => w0.heap.size ≤ k ∧ k < w2.heap.size) w' (.slice kA pt.props.length kc) pt.props) (fun e w'' ⟨h1, h2⟩ => ⟨h1, by rw [hpm] at h2; obtain ⟨v, rfl, kA, kc, rfl, h3⟩ := h2; exact ⟨kA, kc, rfl, h3⟩⟩))
              have HAj2 := Lib.hid (HA4j.out pt hpm)
              have HL := Lib.hid (show (ps.length + 1) * 32 ≤ 140737488355328 by omega)
              have HGA := Lib.hid (fun (w11 : World) (hb : Below w10.heap.size w10 w11) => HPt10.out.under hb)
              have HRd11 := Lib.hid (fun (w11 : World) (hb : Below w10.heap.size w10 w11) => HRd10.out.under hb)
              clear hpm HPc HA3j HA4j HPt10 HRd10 HPn10 HBx10 HSp
              refine wp_region_noPanic ?_
              go_region_law
                (first
                  | (go_simp; go_at_call 27; refine HPc2.out.mono ?_; rintro e w11 ⟨hb11', pA5, pc5, rfl, hn11'⟩; have hb11 := HD0.out.trans (hb11'.mono HD0.out.size); have hn11 := Lib.hid hn11'; clear hb11' hn11'; have y5 : w11.cell? ⟨q8, 1, none⟩ = some (.slice pA ps.length pc) := (hb11.cell (p := ⟨q8, 1, none⟩) hql).trans y1; have hq5 : q8 < w11.heap.size := Nat.lt_of_lt_of_le hql hb11.size; have hq51 : q8 < w11.heap.size + 1 := (by omega))
                  | (have hga := HGA.out w11 hb11; refine step_appG elemPt mov_part rfl (.tmp 46) (.tmp 49) rfl (by rfl) hga.row #[.int .i64 pt.status, .slice pA5 pt.props.length pc5] pt ⟨_, rfl, hn11.out.move (Moves.same w11 fun k hk _ => ⟨hk, fun e => by have h1 := (hga.row.lt k e.symm).1; have h2 := hk.2; omega⟩)⟩ w11.heap.size rfl (by rfl) rfl (by simp [Value.oneCell']) HL.out hga.hB ?_; intro v9 w9 hr9 hb9 hg9 hn9; have hq9 := hga.cells hg9; have HC9 := Lib.hid (hga.app hr9 hb9 hg9 hn9); obtain ⟨A9, c9, hv9, -, -⟩ := hr9.form; rw [show (ps ++ [pt]).length = ps.length + 1 from List.length_append ..] at hv9; subst hv9; have g4 : w9.cell? ⟨q8, 1, none⟩ = some (.slice pA ps.length pc) := xat hq9 1; have h4 := xfree hq9 1; clear hga y5 hq5 hq51 hr9 hb9 hg9 hn9 hq9))
              all_goals
                refine NoPanic.normal ?_
                clear g4 h4
                go_wp2
                go_roundg (r.length - (j + 1))
                case measure => omega
                case rel => exact ⟨j + 1, _, ps ++ [pt], by omega, by go_num, by rw [List.length_append]; show ps.length + 1 ≤ _; omega, HC9, HAj2⟩
end Go.Proofs.YtcamdnfhnianbaaGreatDoor
/-! MulI -/
namespace Go.Proofs.YtcamdnfhnianbaaGreatDoor
set_option linter.unusedVariables false
set_option linter.unusedSimpArgs false
open Go.RowKit

def SomeInt (w : World) (e : Ending) (w' : World) : Prop := Below w.heap.size w w' ∧ ∃ z : Int, e = .returned (.int .i64 z)
def SomeBool (w : World) (e : Ending) (w' : World) : Prop := Below w.heap.size w w' ∧ ∃ b : Bool, e = .returned (.bool b)
set_option maxHeartbeats 16000000 in
set_option maxRecDepth 100000 in
set_option linter.unusedSimpArgs false in
theorem weight_any {w : World} {cs : List Value} {n : NodeT} (h : NodeP anyB w cs n) : ∀ (m : Int) w', Below w.heap.size w w' → Calls Tryz.prog 17 #[.agg cs.toArray, .int .i64 m] w' (SomeInt w') := by
  induction h with
  | mk t s n ats ks av A cap rows ha hl hm hA hc hk ih =>
  intro m w' hbw
  obtain ⟨avA, avc, rfl⟩ := tab_shape ha.1
  unfold maxLen at hm
  have HIH := Lib.hid ih
  have HRow := Lib.hid (fun j x (hx : ks[j]? = some x) => row_at (b := 0) (o := 0) (v := .pointer none) hc (List.getElem?_eq_some_iff.1 hx).1 (hk j x hx))
  show Calls Tryz.prog 17 #[.agg #[.string ⟨t.toArray⟩, .string ⟨s.toArray⟩, .string ⟨n.toArray⟩, .slice avA ats.length avc, .slice A ks.length cap], .int .i64 m] w' (SomeInt w')
  obtain ⟨E, hEE⟩ : ∃ E, E = SomeInt w' := ⟨_, rfl⟩
  rw [← hEE]
  have HEE := Lib.hid hEE
  have HBw := Lib.hid hbw
  have hb1 : Below w'.heap.size w' (w'.alloc (.cells #[.string ⟨t.toArray⟩, .string ⟨s.toArray⟩, .string ⟨n.toArray⟩, .slice avA ats.length avc, .slice A ks.length cap] 36 (0, 0))) := (Below.refl _ _).alloc (Nat.le_refl _) _
  have HQ := Lib.hid (heap_alloc_new w' (.cells #[.string ⟨t.toArray⟩, .string ⟨s.toArray⟩, .string ⟨n.toArray⟩, .slice avA ats.length avc, .slice A ks.length cap] 36 (0, 0)))
  have HB1 := Lib.hid hb1
  clear hb1 ih hk hc hA ha hbw hEE
  go_enter Tryz.func17, Tryz.ntmps17
  go_wp2_with fail
  generalize w'.alloc (.cells #[.string ⟨t.toArray⟩, .string ⟨s.toArray⟩, .string ⟨n.toArray⟩, .slice avA ats.length avc, .slice A ks.length cap] 36 (0, 0)) = w1 at *
  obtain ⟨q, hq⟩ : ∃ q, q = w'.heap.size := ⟨_, rfl⟩
  rw [← hq] at HQ ⊢
  clear hq
  go_loopg [5, 6] ks.length (fun gk v5 v6 wr => ∃ (z : Int) (i : Nat), i + gk = ks.length ∧ v5 = .int .i64 z ∧ v6 = .int .i64 i ∧ Hid (Below w1.heap.size w1 wr))
  case atStart => exact ⟨1, 0, by omega, rfl, rfl, Lib.hid (Below.refl _ _)⟩
  case round =>
    obtain ⟨z, i, hig, rfl, rfl, HBr⟩ := hrel
    have hqr := (HBr.out.block _ (xlt HQ.out)).trans HQ.out
    have x4 := xat hqr 4
    simp only [List.getElem?_toArray, List.getElem?_cons_zero, List.getElem?_cons_succ] at x4
    clear hqr
    have HEx := Lib.hid (HB1.out.trans (HBr.out.mono HB1.out.size))
    rcases Nat.lt_or_ge i ks.length with hlt | hge
    · have i1 : (i : Int) < ks.length := by omega
      have i2 : (0 : Int) ≤ i := by omega
      by_cases hz : z < m
      · have z1 : decide (z < m) = true := decide_eq_true hz
        obtain ⟨x, hx⟩ : ∃ x, ks[i]? = some x := ⟨_, List.getElem?_eq_getElem hlt⟩
        obtain ⟨b1, o1, aA, ac, kB, kcc, rfl, hbl1, hrow, e0, e1, e2, e3, e4⟩ := HRow.out i x hx
        have hbx := HBw.out.trans (HEx.out.mono HBw.out.size)
        have d0 := (hbx.cell (p := ⟨b1, o1 + i * 5, none⟩) hbl1).trans e0
        have d1 := (hbx.cell (p := ⟨b1, o1 + i * 5 + 1, none⟩) hbl1).trans e1
        have d2 := (hbx.cell (p := ⟨b1, o1 + i * 5 + 2, none⟩) hbl1).trans e2
        have d3 := (hbx.cell (p := ⟨b1, o1 + i * 5 + 3, none⟩) hbl1).trans e3
        have d4 := (hbx.cell (p := ⟨b1, o1 + i * 5 + 4, none⟩) hbl1).trans e4
        have HCl := Lib.hid (fun m => HIH.out i x hx m wr hbx)
        rw [hrow] at HCl
        clear e0 e1 e2 e3 e4 hbx hx hrow
        go_wp2_with fail
        refine (HCl.out _).mono ?_
        rintro e w5 ⟨hb5, y, rfl⟩
        have HB5 := Lib.hid (HBr.out.trans (hb5.mono HBr.out.size))
        clear hb5 HCl x4 d0 d1 d2 d3 d4
        go_wp2
        go_roundg (gk - 1)
        case measure => omega
        case rel => exact ⟨_, i + 1, by omega, rfl, by go_num, HB5⟩
      · have z1 : decide (z < m) = false := decide_eq_false hz
        go_wp2
        rw [HEE.out]
        exact ⟨HEx.out, _, rfl⟩
    · have hie : i = ks.length := by omega
      subst hie
      go_wp2
      rw [HEE.out]
      exact ⟨HEx.out, _, rfl⟩
set_option maxHeartbeats 16000000 in
set_option maxRecDepth 100000 in
set_option linter.unusedSimpArgs false in
theorem great_any (l : List ToldT) (A : Option Addr) (c : Nat) (w : World) (hp : ToldsP anyB w (.slice A l.length c) l) : Calls Tryz.prog 8 #[.slice A l.length c] w (SomeBool w) := by
  obtain ⟨-, hlc, hlm, hlk⟩ := told_at hp.1
  unfold maxLen at hlm
  have HLk := Lib.hid hlk
  obtain ⟨E, hEE⟩ : ∃ E, E = SomeBool w := ⟨_, rfl⟩
  rw [← hEE]
  have HEE := Lib.hid hEE
  clear hEE hp hlk
  go_enter Tryz.func8, Tryz.ntmps8
  go_wp2_with fail
  go_loopg [3, 4] l.length (fun gk v3 v4 wr => ∃ (z : Int) (i : Nat), i + gk = l.length ∧ v3 = .int .i64 z ∧ v4 = .int .i64 i ∧ Hid (Below w.heap.size w wr))
  case atStart => exact ⟨0, 0, by omega, rfl, rfl, Lib.hid (Below.refl _ _)⟩
  case round =>
    obtain ⟨z, i, hig, rfl, rfl, HBr⟩ := hrel
    rcases Nat.lt_or_ge i l.length with hlt | hge
    case inr =>
      have hie : i = l.length := by omega
      subst hie
      go_wp2
      rw [HEE.out]
      exact ⟨HBr.out, _, rfl⟩
    have i1 : (i : Int) < l.length := by omega
    have i2 : (0 : Int) ≤ i := by omega
    by_cases hz : z < 9000
    case neg =>
      have z1 : decide (z < 9000) = false := decide_eq_false hz
      go_wp2
      rw [HEE.out]
      exact ⟨HBr.out, _, rfl⟩
    have z1 : decide (z < 9000) = true := decide_eq_true hz
    obtain ⟨t, hx⟩ : ∃ x, l[i]? = some x := ⟨_, List.getElem?_eq_getElem hlt⟩
    obtain ⟨b1, o1, pA, pc, rfl, hbl1, e0, e1, hpp⟩ := HLk.out i t hx
    obtain ⟨-, hpc, hpm, hpk⟩ := part_at hpp.1
    unfold maxLen at hpm
    have HPk := Lib.hid hpk
    have HE1 := Lib.hid e1
    obtain ⟨wo, hwo⟩ : ∃ wo, wo = wr := ⟨_, rfl⟩
    subst hwo
    clear e0 e1 hx hpp hpk
    go_upto_region 7 with (fail)
    go_loopg [3, 5] t.parts.length (fun gk v3 v5 wr => ∃ (z : Int) (k : Nat), k + gk = t.parts.length ∧ v3 = .int .i64 z ∧ v5 = .int .i64 k ∧ Hid (Below w.heap.size w wr))
    case atStart => exact ⟨_, 0, by omega, rfl, rfl, HBr⟩
    case round =>
      obtain ⟨z3, k, hkg, rfl, rfl, HBr2⟩ := hrel
      have d1 := (HBr2.out.cell (p := ⟨b1, o1 + i * 2 + 1, none⟩) hbl1).trans HE1.out
      clear HBr z1 hz
      rcases Nat.lt_or_ge k t.parts.length with hlt2 | hge2
      case inr =>
        have hie : k = t.parts.length := by omega
        subst hie
        go_wp2
        go_roundg (l.length - (i + 1))
        case measure => omega
        case rel => exact ⟨_, i + 1, by omega, rfl, by go_num, HBr2⟩
      have k1 : (k : Int) < t.parts.length := by omega
      have k2 : (0 : Int) ≤ k := by omega
      by_cases hz3 : z3 < 9000
      case neg =>
        have z1 : decide (z3 < 9000) = false := decide_eq_false hz3
        go_wp2
        go_roundg (l.length - (i + 1))
        case measure => omega
        case rel => exact ⟨_, i + 1, by omega, rfl, by go_num, HBr2⟩
      have z1 : decide (z3 < 9000) = true := decide_eq_true hz3
      obtain ⟨p, hx2⟩ : ∃ x, t.parts[k]? = some x := ⟨_, List.getElem?_eq_getElem hlt2⟩
      obtain ⟨b2, o2, kA, kc, rfl, hbl2, f0, f1, hkk⟩ := HPk.out k p hx2
      obtain ⟨-, hkc, hkm, hkn⟩ := kid_at hkk
      unfold maxLen at hkm
      have HKn := Lib.hid hkn
      have HF1 := Lib.hid f1
      obtain ⟨wq, hwq⟩ : ∃ wq, wq = wr := ⟨_, rfl⟩
      subst hwq
      clear f0 f1 hx2 hkk hkn
      go_upto_region 11 with (fail)
      clear d1
      go_loopg [3, 6] p.props.length (fun gk v3 v6 wr => ∃ (z : Int) (j : Nat), j + gk = p.props.length ∧ v3 = .int .i64 z ∧ v6 = .int .i64 j ∧ Hid (Below w.heap.size w wr))
      case atStart => exact ⟨_, 0, by omega, rfl, rfl, HBr2⟩
      case round =>
        obtain ⟨z5, j, hjg, rfl, rfl, HBr3⟩ := hrel
        have d1 := (HBr3.out.cell (p := ⟨b1, o1 + i * 2 + 1, none⟩) hbl1).trans HE1.out
        have g1 := (HBr3.out.cell (p := ⟨b2, o2 + k * 2 + 1, none⟩) hbl2).trans HF1.out
        clear HBr2 z1 hz3
        rcases Nat.lt_or_ge j p.props.length with hlt3 | hge3
        case inr =>
          have hie : j = p.props.length := by omega
          subst hie
          go_wp2
          go_roundg (t.parts.length - (k + 1))
          case measure => omega
          case rel => exact ⟨_, k + 1, by omega, rfl, by go_num, HBr3⟩
        have j1 : (j : Int) < p.props.length := by omega
        have j2 : (0 : Int) ≤ j := by omega
        by_cases hz5 : z5 < 9000
        case neg =>
          have z1 : decide (z5 < 9000) = false := decide_eq_false hz5
          go_wp2
          go_roundg (t.parts.length - (k + 1))
          case measure => omega
          case rel => exact ⟨_, k + 1, by omega, rfl, by go_num, HBr3⟩
        have z1 : decide (z5 < 9000) = true := decide_eq_true hz5
        obtain ⟨x, hx3⟩ : ∃ x, p.props[j]? = some x := ⟨_, List.getElem?_eq_getElem hlt3⟩
        obtain ⟨b3, o3, aA3, ac3, kA3, kc3, rfl, hbl3, h0, h1, h2, h3, h4, ha3, hk3⟩ := HKn.out j x hx3
        have s0 := (HBr3.out.cell (p := ⟨b3, o3 + j * 5, none⟩) hbl3).trans h0
        have s1 := (HBr3.out.cell (p := ⟨b3, o3 + j * 5 + 1, none⟩) hbl3).trans h1
        have s2 := (HBr3.out.cell (p := ⟨b3, o3 + j * 5 + 2, none⟩) hbl3).trans h2
        have s3 := (HBr3.out.cell (p := ⟨b3, o3 + j * 5 + 3, none⟩) hbl3).trans h3
        have s4 := (HBr3.out.cell (p := ⟨b3, o3 + j * 5 + 4, none⟩) hbl3).trans h4
        have HWt := Lib.hid (weight_any (node_of ha3 hk3) 9000 _ HBr3.out)
        clear h0 h1 h2 h3 h4 ha3 hk3 hx3 hz5
        go_wp2_with fail
        refine HWt.out.mono ?_
        rintro e w5 ⟨hb5, y, rfl⟩
        have HB5 := Lib.hid (HBr3.out.trans (hb5.mono HBr3.out.size))
        clear hb5 HWt s0 s1 s2 s3 s4 d1 g1 HBr3
        go_wp2
        go_roundg (p.props.length - (j + 1))
        case measure => omega
        case rel => exact ⟨_, j + 1, by omega, rfl, by go_num, HB5⟩
end Go.Proofs.YtcamdnfhnianbaaGreatDoor
/-! MulJ -/
namespace Go.Proofs.YtcamdnfhnianbaaGreatDoor
set_option linter.unusedVariables false
set_option linter.unusedSimpArgs false
open Go.RowKit

set_option maxHeartbeats 32000000 in
set_option maxRecDepth 100000 in
set_option linter.unusedSimpArgs false in
theorem msame_any (l : List ToldT) (A B : Option Addr) (c d : Nat) (w : World) (h1 : ToldsP anyB w (.slice A l.length c) l) (h2 : ToldsP anyB w (.slice B l.length d) l) : Calls Tryz.prog 12 #[.slice A l.length c, .slice B l.length d] w (Ret (.bool true) w) := by
  obtain ⟨-, hac, ham, hak⟩ := told_at h1.1
  obtain ⟨-, hbc, hbm, hbk⟩ := told_at h2.1
  unfold maxLen at ham hbm
  have HAk := Lib.hid hak
  have HBk := Lib.hid hbk
  obtain ⟨E, hEE⟩ : ∃ E, E = Ret (.bool true) w := ⟨_, rfl⟩
  rw [← hEE]
  have HEE := Lib.hid hEE
  clear hEE h1 h2 hak hbk
  go_enter Tryz.func12, Tryz.ntmps12
  go_wp2_with fail
  go_loopg [5] l.length (fun gk v5 wr => ∃ i : Nat, i + gk = l.length ∧ v5 = .int .i64 i ∧ Hid (Below w.heap.size w wr))
  case atStart => exact ⟨0, by omega, rfl, Lib.hid (Below.refl _ _)⟩
  case round =>
    obtain ⟨i, hig, rfl, HBr⟩ := hrel
    rcases Nat.lt_or_ge i l.length with hlt | hge
    case inr =>
      have hie : i = l.length := by omega
      subst hie
      go_wp2
      rw [HEE.out]
      exact ⟨rfl, HBr.out⟩
    have i1 : (i : Int) < l.length := by omega
    have i2 : (0 : Int) ≤ i := by omega
    obtain ⟨t, hx⟩ : ∃ x, l[i]? = some x := ⟨_, List.getElem?_eq_getElem hlt⟩
    obtain ⟨b1, o1, pA, pc, rfl, hbl1, e0, e1, hp1⟩ := HAk.out i t hx
    obtain ⟨b2, o2, pB, pd, rfl, hbl2, f0, f1, hp2⟩ := HBk.out i t hx
    have d0 := (HBr.out.cell (p := ⟨b1, o1 + i * 2, none⟩) hbl1).trans e0
    have d1 := (HBr.out.cell (p := ⟨b1, o1 + i * 2 + 1, none⟩) hbl1).trans e1
    have g0 := (HBr.out.cell (p := ⟨b2, o2 + i * 2, none⟩) hbl2).trans f0
    have g1 := (HBr.out.cell (p := ⟨b2, o2 + i * 2 + 1, none⟩) hbl2).trans f1
    obtain ⟨-, hpc, hpm, hpk⟩ := part_at hp1.1
    obtain ⟨-, hpd, hpn, hpl⟩ := part_at hp2.1
    unfold maxLen at hpm hpn
    have HPk := Lib.hid hpk
    have HPl := Lib.hid hpl
    have HE1 := Lib.hid e1
    have HF1 := Lib.hid f1
    obtain ⟨href, parts⟩ := t
    simp only at d0 d1 g0 g1 hpc hpd HPk HPl HE1 HF1
    have HBD := Lib.hid (fun k => below_draws HBr.out k)
    obtain ⟨wo, hwo⟩ : ∃ wo, wo = wr := ⟨_, rfl⟩
    subst hwo
    clear e0 e1 f0 f1 hx hp1 hp2 hpk hpl
    go_wp2_with fail
    go_quiet (fail)
    clear d0 d1 g0 g1
    go_wp2_with fail
    go_loopg [6] parts.length (fun gk v6 wr => ∃ k : Nat, k + gk = parts.length ∧ v6 = .int .i64 k ∧ Hid (Below w.heap.size w wr))
    case atStart => exact ⟨0, by omega, rfl, Lib.hid (HBD.out _)⟩
    case round =>
      obtain ⟨k, hkg, rfl, HBr2⟩ := hrel
      clear HBD HBr
      have d1 := (HBr2.out.cell (p := ⟨b1, o1 + i * 2 + 1, none⟩) hbl1).trans HE1.out
      have g1 := (HBr2.out.cell (p := ⟨b2, o2 + i * 2 + 1, none⟩) hbl2).trans HF1.out
      rcases Nat.lt_or_ge k parts.length with hlt2 | hge2
      case inr =>
        have hie : k = parts.length := by omega
        subst hie
        go_wp2
        go_roundg (l.length - (i + 1))
        case measure => omega
        case rel => exact ⟨i + 1, by omega, by go_num, HBr2⟩
      have k1 : (k : Int) < parts.length := by omega
      have k2 : (0 : Int) ≤ k := by omega
      obtain ⟨p, hx2⟩ : ∃ x, parts[k]? = some x := ⟨_, List.getElem?_eq_getElem hlt2⟩
      obtain ⟨b3, o3, kA, kc, rfl, hbl3, e0, e1, hk1⟩ := HPk.out k p hx2
      obtain ⟨b4, o4, kB, kd, rfl, hbl4, f0, f1, hk2⟩ := HPl.out k p hx2
      have s0 := (HBr2.out.cell (p := ⟨b3, o3 + k * 2, none⟩) hbl3).trans e0
      have s1 := (HBr2.out.cell (p := ⟨b3, o3 + k * 2 + 1, none⟩) hbl3).trans e1
      have r0 := (HBr2.out.cell (p := ⟨b4, o4 + k * 2, none⟩) hbl4).trans f0
      have r1 := (HBr2.out.cell (p := ⟨b4, o4 + k * 2 + 1, none⟩) hbl4).trans f1
      obtain ⟨-, hkc, hkm, hkn⟩ := kid_at hk1
      obtain ⟨-, hkd, hkm2, hkn2⟩ := kid_at hk2
      unfold maxLen at hkm hkm2
      have HKn := Lib.hid hkn
      have HKn2 := Lib.hid hkn2
      obtain ⟨st, props⟩ := p
      simp only at s0 s1 r0 r1 hkc hkd HKn HKn2
      obtain ⟨wq, hwq⟩ : ∃ wq, wq = wr := ⟨_, rfl⟩
      subst hwq
      clear e0 e1 f0 f1 hx2 hk1 hk2 hkn hkn2
      go_upto_region 11 with (fail)
      go_cut [7, 8] (fun v7 v8 wc => ∃ q7 q8 : Nat, v7 = .pointer (some ⟨q7, 0, none⟩) ∧ v8 = .pointer (some ⟨q8, 0, none⟩) ∧ Hid (wc.heap[q7]? = some (.cells #[.int .i64 st, .slice kA props.length kc] 47 (0, 0))) ∧ Hid (wc.heap[q8]? = some (.cells #[.int .i64 st, .slice kB props.length kd] 47 (0, 0))) ∧ Hid (Below wq.heap.size wq wc))
      case first =>
        have hS0 : wq.drew.cell? ⟨b1, o1 + i * 2 + 1, none⟩ = some (.slice (some ⟨b3, o3, none⟩) parts.length pc) ∧ wq.drew.cell? ⟨b2, o2 + i * 2 + 1, none⟩ = some (.slice (some ⟨b4, o4, none⟩) parts.length pd) ∧ wq.drew.cell? ⟨b3, o3 + k * 2, none⟩ = some (.int .i64 st) ∧ wq.drew.cell? ⟨b3, o3 + k * 2 + 1, none⟩ = some (.slice kA props.length kc) ∧ wq.drew.cell? ⟨b4, o4 + k * 2, none⟩ = some (.int .i64 st) ∧ wq.drew.cell? ⟨b4, o4 + k * 2 + 1, none⟩ = some (.slice kB props.length kd) := ⟨d1, g1, s0, s1, r0, r1⟩
        have Hk := Lib.hid (fun (wx : World) (ob : Obj) (h : wx.cell? ⟨b1, o1 + i * 2 + 1, none⟩ = some (.slice (some ⟨b3, o3, none⟩) parts.length pc) ∧ wx.cell? ⟨b2, o2 + i * 2 + 1, none⟩ = some (.slice (some ⟨b4, o4, none⟩) parts.length pd) ∧ wx.cell? ⟨b3, o3 + k * 2, none⟩ = some (.int .i64 st) ∧ wx.cell? ⟨b3, o3 + k * 2 + 1, none⟩ = some (.slice kA props.length kc) ∧ wx.cell? ⟨b4, o4 + k * 2, none⟩ = some (.int .i64 st) ∧ wx.cell? ⟨b4, o4 + k * 2 + 1, none⟩ = some (.slice kB props.length kd)) => (⟨cell_alloc h.1 ob, cell_alloc h.2.1 ob, cell_alloc h.2.2.1 ob, cell_alloc h.2.2.2.1 ob, cell_alloc h.2.2.2.2.1 ob, cell_alloc h.2.2.2.2.2 ob⟩ : (wx.alloc ob).cell? ⟨b1, o1 + i * 2 + 1, none⟩ = some (.slice (some ⟨b3, o3, none⟩) parts.length pc) ∧ (wx.alloc ob).cell? ⟨b2, o2 + i * 2 + 1, none⟩ = some (.slice (some ⟨b4, o4, none⟩) parts.length pd) ∧ (wx.alloc ob).cell? ⟨b3, o3 + k * 2, none⟩ = some (.int .i64 st) ∧ (wx.alloc ob).cell? ⟨b3, o3 + k * 2 + 1, none⟩ = some (.slice kA props.length kc) ∧ (wx.alloc ob).cell? ⟨b4, o4 + k * 2, none⟩ = some (.int .i64 st) ∧ (wx.alloc ob).cell? ⟨b4, o4 + k * 2 + 1, none⟩ = some (.slice kB props.length kd)))
        have Hk2 := Lib.hid (fun (wx : World) (ob : Obj) (h : wx.drew.cell? ⟨b1, o1 + i * 2 + 1, none⟩ = some (.slice (some ⟨b3, o3, none⟩) parts.length pc) ∧ wx.drew.cell? ⟨b2, o2 + i * 2 + 1, none⟩ = some (.slice (some ⟨b4, o4, none⟩) parts.length pd) ∧ wx.drew.cell? ⟨b3, o3 + k * 2, none⟩ = some (.int .i64 st) ∧ wx.drew.cell? ⟨b3, o3 + k * 2 + 1, none⟩ = some (.slice kA props.length kc) ∧ wx.drew.cell? ⟨b4, o4 + k * 2, none⟩ = some (.int .i64 st) ∧ wx.drew.cell? ⟨b4, o4 + k * 2 + 1, none⟩ = some (.slice kB props.length kd)) => (⟨cell_alloc (w := wx) h.1 ob, cell_alloc (w := wx) h.2.1 ob, cell_alloc (w := wx) h.2.2.1 ob, cell_alloc (w := wx) h.2.2.2.1 ob, cell_alloc (w := wx) h.2.2.2.2.1 ob, cell_alloc (w := wx) h.2.2.2.2.2 ob⟩ : (wx.alloc ob).drew.cell? ⟨b1, o1 + i * 2 + 1, none⟩ = some (.slice (some ⟨b3, o3, none⟩) parts.length pc) ∧ (wx.alloc ob).drew.cell? ⟨b2, o2 + i * 2 + 1, none⟩ = some (.slice (some ⟨b4, o4, none⟩) parts.length pd) ∧ (wx.alloc ob).drew.cell? ⟨b3, o3 + k * 2, none⟩ = some (.int .i64 st) ∧ (wx.alloc ob).drew.cell? ⟨b3, o3 + k * 2 + 1, none⟩ = some (.slice kA props.length kc) ∧ (wx.alloc ob).drew.cell? ⟨b4, o4 + k * 2, none⟩ = some (.int .i64 st) ∧ (wx.alloc ob).drew.cell? ⟨b4, o4 + k * 2 + 1, none⟩ = some (.slice kB props.length kd)))
        have T1 := Lib.hid (two_alloc wq (.cells #[.int .i64 st, .slice kA props.length kc] 47 (0, 0)) (.cells #[.int .i64 st, .slice kB props.length kd] 47 (0, 0)))
        have T2 := Lib.hid (two_alloc wq (.cells #[.int .i64 st, .slice kB props.length kd] 47 (0, 0)) (.cells #[.int .i64 st, .slice kA props.length kc] 47 (0, 0)))
        clear d1 g1 s0 s1 r0 r1 HAk HBk HKn HKn2 HPk HPl HBr2
        go_region_held3 (fun wx => wx.cell? ⟨b1, o1 + i * 2 + 1, none⟩ = some (.slice (some ⟨b3, o3, none⟩) parts.length pc) ∧ wx.cell? ⟨b2, o2 + i * 2 + 1, none⟩ = some (.slice (some ⟨b4, o4, none⟩) parts.length pd) ∧ wx.cell? ⟨b3, o3 + k * 2, none⟩ = some (.int .i64 st) ∧ wx.cell? ⟨b3, o3 + k * 2 + 1, none⟩ = some (.slice kA props.length kc) ∧ wx.cell? ⟨b4, o4 + k * 2, none⟩ = some (.int .i64 st) ∧ wx.cell? ⟨b4, o4 + k * 2 + 1, none⟩ = some (.slice kB props.length kd))
          (repeat (first | exact hS0 | assumption | refine Hk.out _ _ ?_ | refine Hk2.out _ _ ?_))
          (fail)
        all_goals
          go_wp2
          go_meet
          first
            | exact ⟨_, _, rfl, rfl, Lib.hid T1.out.2.1, Lib.hid T1.out.2.2, Lib.hid (below_draws T1.out.1 1)⟩
            | exact ⟨_, _, rfl, rfl, Lib.hid T2.out.2.2, Lib.hid T2.out.2.1, Lib.hid (below_draws T2.out.1 1)⟩
      case rest =>
      obtain ⟨q7, q8, rfl, rfl, HQ7, HQ8, HBc⟩ := hcut
      clear d1 g1 s0 s1 r0 r1
      have HBw := Lib.hid (HBr2.out.trans (HBc.out.mono HBr2.out.size))
      obtain ⟨wz, hwz⟩ : ∃ wz, wz = wc := ⟨_, rfl⟩
      subst hwz
      have x0 := xat HQ7.out 0
      have x1 := xat HQ7.out 1
      have y0 := xat HQ8.out 0
      have y1 := xat HQ8.out 1
      simp only [List.getElem?_toArray, List.getElem?_cons_zero, List.getElem?_cons_succ] at x0 x1 y0 y1
      go_wp2_with fail
      clear x0 x1 y0 y1
      go_loopg [9] props.length (fun gk v9 wr => ∃ j : Nat, j + gk = props.length ∧ v9 = .int .i64 j ∧ Hid (Below wz.heap.size wz wr))
      case atStart => exact ⟨0, by omega, rfl, Lib.hid (Below.refl _ _)⟩
      case round =>
        obtain ⟨j, hjg, rfl, HBr3⟩ := hrel
        have hq7 := (HBr3.out.block _ (xlt HQ7.out)).trans HQ7.out
        have hq8 := (HBr3.out.block _ (xlt HQ8.out)).trans HQ8.out
        have x1 := xat hq7 1
        have y1 := xat hq8 1
        simp only [List.getElem?_toArray, List.getElem?_cons_zero, List.getElem?_cons_succ] at x1 y1
        clear hq7 hq8
        have HBw3 := Lib.hid (HBw.out.trans (HBr3.out.mono HBw.out.size))
        rcases Nat.lt_or_ge j props.length with hlt3 | hge3
        case inr =>
          have hie : j = props.length := by omega
          subst hie
          go_wp2
          go_roundg (parts.length - (k + 1))
          case measure => omega
          case rel => exact ⟨k + 1, by omega, by go_num, HBw3⟩
        have j1 : (j : Int) < props.length := by omega
        have j2 : (0 : Int) ≤ j := by omega
        obtain ⟨x, hx3⟩ : ∃ x, props[j]? = some x := ⟨_, List.getElem?_eq_getElem hlt3⟩
        obtain ⟨b5, o5, aA5, ac5, kA5, kc5, rfl, hbl5, u0, u1, u2, u3, u4, ha5, hk5⟩ := HKn.out j x hx3
        obtain ⟨b6, o6, aA6, ac6, kA6, kc6, rfl, hbl6, v0, v1, v2, v3, v4, ha6, hk6⟩ := HKn2.out j x hx3
        have m0 := (HBw3.out.cell (p := ⟨b5, o5 + j * 5, none⟩) hbl5).trans u0
        have m1 := (HBw3.out.cell (p := ⟨b5, o5 + j * 5 + 1, none⟩) hbl5).trans u1
        have m2 := (HBw3.out.cell (p := ⟨b5, o5 + j * 5 + 2, none⟩) hbl5).trans u2
        have m3 := (HBw3.out.cell (p := ⟨b5, o5 + j * 5 + 3, none⟩) hbl5).trans u3
        have m4 := (HBw3.out.cell (p := ⟨b5, o5 + j * 5 + 4, none⟩) hbl5).trans u4
        have n0 := (HBw3.out.cell (p := ⟨b6, o6 + j * 5, none⟩) hbl6).trans v0
        have n1 := (HBw3.out.cell (p := ⟨b6, o6 + j * 5 + 1, none⟩) hbl6).trans v1
        have n2 := (HBw3.out.cell (p := ⟨b6, o6 + j * 5 + 2, none⟩) hbl6).trans v2
        have n3 := (HBw3.out.cell (p := ⟨b6, o6 + j * 5 + 3, none⟩) hbl6).trans v3
        have n4 := (HBw3.out.cell (p := ⟨b6, o6 + j * 5 + 4, none⟩) hbl6).trans v4
        have HSm := Lib.hid (xsame_any (node_of ha5 hk5) _ (node_of ha6 hk6) _ (below_draws HBw3.out 1))
        have HBD3 := Lib.hid (below_draws HBr3.out 1)
        clear u0 u1 u2 u3 u4 v0 v1 v2 v3 v4 ha5 hk5 ha6 hk6 hx3
        go_upto_region 17 with (fail)
        first | go_region_with (go_at_call 15; refine HSm.out.mono ?_; rintro e w5 ⟨rfl, hb5⟩) | fail
        all_goals
          go_wp2
          go_roundg (props.length - (j + 1))
          case measure => omega
          case rel => exact ⟨j + 1, by omega, by go_num, Lib.hid (HBD3.out.trans (hb5.mono HBD3.out.size))⟩
end Go.Proofs.YtcamdnfhnianbaaGreatDoor
