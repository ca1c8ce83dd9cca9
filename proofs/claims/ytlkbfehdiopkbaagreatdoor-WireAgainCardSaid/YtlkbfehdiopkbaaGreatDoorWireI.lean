/-
  The walk of wire.Read, its deferred recovery included. Conditions: the bytes are fewer than a hundred million; what the listed variables hold.
-/
import Derived.Test.YtlkbfehdiopkbaaGreatDoorWireH
import Derived.Test.YtlkbfehdiopkbaaGreatDoorWireSet
namespace Go.Proofs.YtlkbfehdiopkbaaGreatDoor
set_option linter.unusedVariables false
set_option linter.unusedSimpArgs false
open Go.RowKit

def zeroQ : Value := .agg #[.string ⟨#[]⟩, .string ⟨#[]⟩, .slice none 0 0, .string ⟨#[]⟩, .bool false]
def setQ (w : World) (q : Nat) (y0 y1 y2 y3 y4 : Value) : World := ((((w.setCell ⟨q, 0, none⟩ y0).setCell ⟨q, 1, none⟩ y1).setCell ⟨q, 2, none⟩ y2).setCell ⟨q, 3, none⟩ y3).setCell ⟨q, 4, none⟩ y4
theorem setQ_other (w : World) (q k : Nat) (y0 y1 y2 y3 y4 : Value) (h : k ≠ q) : (setQ w q y0 y1 y2 y3 y4).heap[k]? = w.heap[k]? := by
  unfold setQ
  exact (heap_setCell_other _ ⟨q, 4, none⟩ k _ h).trans ((heap_setCell_other _ ⟨q, 3, none⟩ k _ h).trans ((heap_setCell_other _ ⟨q, 2, none⟩ k _ h).trans ((heap_setCell_other _ ⟨q, 1, none⟩ k _ h).trans (heap_setCell_other _ ⟨q, 0, none⟩ k _ h))))
theorem catch_mem {w : World} {q u v : Nat} {x0 x1 x2 x3 x4 y z : Value} (hq : w.heap[q]? = some (.cells #[x0, x1, x2, x3, x4] 26 (0, 0))) (hu : w.heap[u]? = some (.cells #[y] 3 (0, 0))) (hv : w.heap[v]? = some (.cells #[z] 3 (0, 0)))
    (h1 : q ≠ u) (h2 : q ≠ v) (h3 : u ≠ v) (y0 y1 y2 y3 y4 a b : Value) : let w' := (((setQ w q y0 y1 y2 y3 y4).setCell ⟨u, 0, none⟩ a).setCell ⟨v, 0, none⟩ b).drew
    w'.heap[q]? = some (.cells #[y0, y1, y2, y3, y4] 26 (0, 0)) ∧ w'.heap[u]? = some (.cells #[a] 3 (0, 0)) ∧ w'.heap[v]? = some (.cells #[b] 3 (0, 0)) ∧
      w'.os = w.os ∧ w'.tape = w.tape ∧ w'.output = w.output ∧ w'.heap.size = w.heap.size ∧ ∀ k, k ≠ q → k ≠ u → k ≠ v → w'.heap[k]? = w.heap[k]? := by
  have s0 : (setQ w q y0 y1 y2 y3 y4).heap[q]? = _ := set5 y0 y1 y2 y3 y4 hq
  have hu1 := (setQ_other w q u y0 y1 y2 y3 y4 (fun h => h1 h.symm)).trans hu
  have hv1 := (setQ_other w q v y0 y1 y2 y3 y4 (fun h => h2 h.symm)).trans hv
  have hz : (setQ w q y0 y1 y2 y3 y4).heap.size = w.heap.size := by unfold setQ; simp only [World.size_setCell]
  have ho := fun k => setQ_other w q k y0 y1 y2 y3 y4
  have T : Two q q w (setQ w q y0 y1 y2 y3 y4) := (((((Two.refl q q w).setq 0 _).setq 1 _).setq 2 _).setq 3 _).setq 4 _
  obtain ⟨g1, g2, g3⟩ : (setQ w q y0 y1 y2 y3 y4).os = w.os ∧ (setQ w q y0 y1 y2 y3 y4).tape = w.tape ∧ (setQ w q y0 y1 y2 y3 y4).output = w.output := ⟨T.os, T.tape, T.output⟩
  clear T
  generalize setQ w q y0 y1 y2 y3 y4 = w1 at *
  have t1 : (w1.setCell ⟨u, 0, none⟩ a).heap[u]? = some (.cells #[a] 3 (0, 0)) := heap_setCell_same w1 u 0 _ _ a hu1
  have t2 : ((w1.setCell ⟨u, 0, none⟩ a).setCell ⟨v, 0, none⟩ b).heap[v]? = some (.cells #[b] 3 (0, 0)) := heap_setCell_same _ v 0 _ _ b ((heap_setCell_other w1 ⟨u, 0, none⟩ v a (fun e => h3 e.symm)).trans hv1)
  exact ⟨(heap_setCell_other _ ⟨v, 0, none⟩ q b h2).trans ((heap_setCell_other w1 ⟨u, 0, none⟩ q a h1).trans s0), (heap_setCell_other _ ⟨v, 0, none⟩ u b h3).trans t1, t2, g1, g2, g3,
    ((World.size_setCell _ ⟨v, 0, none⟩ b).trans (World.size_setCell w1 ⟨u, 0, none⟩ a)).trans hz,
    fun k k1 k2 k3 => (heap_setCell_other _ ⟨v, 0, none⟩ k b k3).trans ((heap_setCell_other w1 ⟨u, 0, none⟩ k a k2).trans (ho k k1))⟩
set_option maxHeartbeats 1000000 in
set_option maxRecDepth 100000 in
theorem catch_pan (q u v : Nat) (st : Int) (older : List PanicEntry) (w : World) (x0 x1 x2 x3 x4 y z : Value)
    (hq : w.heap[q]? = some (.cells #[x0, x1, x2, x3, x4] 26 (0, 0))) (hu : w.heap[u]? = some (.cells #[y] 3 (0, 0))) (hv : w.heap[v]? = some (.cells #[z] 3 (0, 0))) (h1 : q ≠ u) (h2 : q ≠ v) (h3 : u ≠ v) :
    CallsD Tryz.prog 30 #[.pointer (some ⟨q, 0, none⟩), .pointer (some ⟨u, 0, none⟩), .pointer (some ⟨v, 0, none⟩)] (.panicking ({ v := .iface 65 (.agg #[.int .i64 st]), recovered := false } :: older)) w fun e m w' =>
      e = .returned (.tuple #[]) ∧ m = .panicking ({ v := .iface 65 (.agg #[.int .i64 st]), recovered := true } :: older) ∧ w'.heap[q]? = some (.cells #[.string ⟨#[]⟩, .string ⟨#[]⟩, .slice none 0 0, .string ⟨#[]⟩, .bool false] 26 (0, 0)) ∧
        w'.heap[u]? = some (.cells #[.int .i64 0] 3 (0, 0)) ∧ w'.heap[v]? = some (.cells #[.int .i64 st] 3 (0, 0)) ∧ w'.os = w.os ∧ w'.tape = w.tape ∧ w'.output = w.output ∧ w.heap.size ≤ w'.heap.size ∧ ∀ k, k < w.heap.size → k ≠ q → k ≠ u → k ≠ v → w'.heap[k]? = w.heap[k]? := by
  refine callsD_of_wpS Tryz.func30 rfl fun c₀ cs hm => ?_
  have has : ∀ w : World, (Instr.typeAssert (.iface 65 (.agg #[.int .i64 st])) 20 65 true).run Tryz.prog w = .ok (.tuple #[.agg #[.int .i64 st], .bool true]) w := fun _ => by kernel_rfl
  apply wpS_seq
  apply wpS_region
  simp [wpOpsS, go_sem, recoverD, hm, has, Tryz.ntmps30, Exit.thenS]
  refine wpS_of_wp ?_
  simp only [Array.replicate, List.replicate]
  go_wp2
  have hql : q < w.heap.size := (Array.getElem?_eq_some_iff.1 hq).1
  have hul : u < w.heap.size := (Array.getElem?_eq_some_iff.1 hu).1
  have hvl : v < w.heap.size := (Array.getElem?_eq_some_iff.1 hv).1
  have hs0 := heap_alloc_new w (.cells #[.int .i64 st] 65 (0, 0))
  have hq0 := (heap_alloc_old w (.cells #[.int .i64 st] 65 (0, 0)) hql).trans hq
  have hu0 := (heap_alloc_old w (.cells #[.int .i64 st] 65 (0, 0)) hul).trans hu
  have hv0 := (heap_alloc_old w (.cells #[.int .i64 st] 65 (0, 0)) hvl).trans hv
  have HB := Lib.hid (show ∀ k, k < w.heap.size → (w.alloc (.cells #[.int .i64 st] 65 (0, 0))).heap[k]? = w.heap[k]? from fun k hk => heap_alloc_old _ _ hk)
  have HO := Lib.hid (show (w.alloc (.cells #[.int .i64 st] 65 (0, 0))).os = w.os ∧ (w.alloc (.cells #[.int .i64 st] 65 (0, 0))).tape = w.tape ∧ (w.alloc (.cells #[.int .i64 st] 65 (0, 0))).output = w.output ∧ w.heap.size ≤ (w.alloc (.cells #[.int .i64 st] 65 (0, 0))).heap.size from ⟨rfl, rfl, rfl, by show w.heap.size ≤ (w.heap.push _).size; rw [Array.size_push]; omega⟩)
  generalize w.alloc (.cells #[.int .i64 st] 65 (0, 0)) = w1 at hs0 hq0 hu0 hv0 HB HO ⊢
  have HQ := Lib.hid hq0
  have HU := Lib.hid hu0
  have HV := Lib.hid hv0
  have ls := wat hs0 0
  have fs := wfree hs0 0
  have lu := wat hu0 0
  have fu := wfree hu0 0
  have lv := wat hv0 0
  have fv := wfree hv0 0
  have lq0 := wat hq0 0
  have lq1 := wat hq0 1
  have lq2 := wat hq0 2
  have lq3 := wat hq0 3
  have lq4 := wat hq0 4
  have fq0 := wfree hq0 0
  have fq1 := wfree hq0 1
  have fq2 := wfree hq0 2
  have fq3 := wfree hq0 3
  have fq4 := wfree hq0 4
  simp only [List.getElem?_toArray, List.getElem?_cons_zero, List.getElem?_cons_succ] at ls lu lv lq0 lq1 lq2 lq3 lq4
  clear hq hu hv hq0 hu0 hv0 hs0
  go_region
  obtain ⟨o1, o2, o3, o4⟩ := HO.out
  have hfin := catch_mem HQ.out HU.out HV.out h1 h2 h3 (.string ⟨#[]⟩) (.string ⟨#[]⟩) (.slice none 0 0) (.string ⟨#[]⟩) (.bool false) (.int .i64 0) (.int .i64 st)
  show bodyPostS Tryz.prog Tryz.f30 c₀ cs _ _ _ _ (((setQ w1 q (.string ⟨#[]⟩) (.string ⟨#[]⟩) (.slice none 0 0) (.string ⟨#[]⟩) (.bool false)).setCell ⟨u, 0, none⟩ (.int .i64 0)).setCell ⟨v, 0, none⟩ (.int .i64 st)).drew
  generalize (((setQ w1 q (.string ⟨#[]⟩) (.string ⟨#[]⟩) (.slice none 0 0) (.string ⟨#[]⟩) (.bool false)).setCell ⟨u, 0, none⟩ (.int .i64 0)).setCell ⟨v, 0, none⟩ (.int .i64 st)).drew = wf at hfin ⊢
  obtain ⟨f1, f2, f3, f4, f5, f6, f7, f8⟩ := hfin
  exact ⟨rfl, _, rfl, _, by simp [results, Tryz.results30], rfl, rfl, f1, f2, f3, f4.trans o1, f5.trans o2, f6.trans o3, f7 ▸ o4, fun k k1 k2 k3 k4 => (f8 k k2 k3 k4).trans (HB.out k k1)⟩

/-- a frame that returns: nothing is recovered. -/
theorem catch_idle (q u v : Nat) (w : World) :
    CallsD Tryz.prog 30 #[.pointer (some ⟨q, 0, none⟩), .pointer (some ⟨u, 0, none⟩), .pointer (some ⟨v, 0, none⟩)] .returning w fun e m w' => e = .returned (.tuple #[]) ∧ m = .returning ∧ w' = w.alloc (.cells #[.int .i64 0] 65 (0, 0)) := by
  refine callsD_of_wpS Tryz.func30 rfl fun c₀ cs hm => ?_
  have has : ∀ w : World, (Instr.typeAssert .nilIface 20 65 true).run Tryz.prog w = .ok (.tuple #[.agg #[.int .i64 0], .bool false]) w := fun _ => by kernel_rfl
  apply wpS_seq
  apply wpS_region
  simp [wpOpsS, go_sem, recoverD, hm, has, Tryz.ntmps30, Exit.thenS]
  refine wpS_of_wp ?_
  simp only [Array.replicate, List.replicate]
  go_wp2
  cases c₀
  simp_all [bodyPostS, results, Tryz.results30]

/-! what is read -/
theorem hdrOf_len {l : List UInt8} {h : HdrT} (hh : hdrOf l = some h) : h.value.length ≤ l.length := by
  unfold hdrOf at hh
  split at hh
  · cases hh
  · rename_i n v hc
    split at hh
    · injection hh with hh
      subst hh
      have := cut_len hc
      have h2 := trim_len v
      rw [this]
      simp only [List.length_append, List.length_singleton]
      omega
    · cases hh
theorem headS_val : ∀ (f sz : Nat) (hs hs' : List HdrT) (s r : List UInt8), headS f sz hs s = .ok (hs', r) → (∀ h ∈ hs, h.value.length ≤ 1024) → ∀ h ∈ hs', h.value.length ≤ 1024
  | 0, sz, hs, hs', s, r, h, hg => by
    rw [headS] at h
    obtain ⟨l, q, -, h⟩ := thenS_ok h
    split at h
    · injection h with h
      injection h with h
      subst h
      exact hg
    · cases h
  | f + 1, sz, hs, hs', s, r, h, hg => by
    rw [headS] at h
    obtain ⟨l, q, hl, h⟩ := thenS_ok h
    split at h
    · injection h with h
      injection h with h
      subst h
      exact hg
    · split at h
      · cases h
      · cases ho : hdrOf l with
        | none => rw [ho] at h; cases h
        | some x =>
          rw [ho] at h
          exact headS_val f _ _ _ _ _ h (fun y hy => by
            rcases List.mem_append.1 hy with hy | hy
            · exact hg y hy
            · rw [List.mem_singleton.1 hy]; exact Nat.le_trans (hdrOf_len ho) (lineS_ok hl).2.2.2)
theorem vals_of {hs : List HdrT} (h : ∀ x ∈ hs, x.value.length ≤ 1024) (name : List UInt8) : ∀ v ∈ vals hs name, v.length ≤ 100000000 := by
  intro v hv
  unfold vals at hv
  obtain ⟨x, hx, rfl⟩ := List.mem_map.1 hv
  exact Nat.le_trans (h x (List.mem_filter.1 hx).1) (by decide)
theorem readW_begin (s : List UInt8) : readW s = thenS (beginR s) fun mt r => thenS (headS 32 0 [] r) fun hs r => thenS (bodyS hs r) fun b r => .ok (⟨mt.1, mt.2, hs, b, closeS hs⟩, r) := by
  unfold readW beginR
  rcases beginS s with e | ⟨l, r⟩
  · rfl
  · show (match reqLine l with
      | .error e => .error e
      | .ok (m, t) => thenS (headS 32 0 [] r) fun hs r => thenS (bodyS hs r) fun b r => .ok (⟨m, t, hs, b, closeS hs⟩, r) : Rd1 ReqT) = thenS (match reqLine l with
      | .error e => .error e
      | .ok mt => .ok (mt, r) : Rd1 (List UInt8 × List UInt8)) _
    rcases reqLine l with e | ⟨m, t⟩ <;> rfl
theorem two_own {e : TypeId} {n B b q : Nat} {rows : List (List Value)} {v : Value} {w w' : World} (h : OwnT e n B rows v w) (t : Two b q w w') (hb : b < B) (hq : q < B) : OwnT e n B rows v w' := by
  refine ⟨⟨h.1.1, ?_⟩, h.2⟩
  rcases h.1.2 with h0 | ⟨g, cap, cur, hv, hbg, hg, rest⟩
  · exact .inl h0
  · exact .inr ⟨g, cap, cur, hv, hbg, (t.block g (Array.getElem?_eq_some_iff.1 hg).1 (by omega) (by omega)).trans hg, rest⟩
def reqV (q : ReqT) (hv : Value) : Value := .agg #[.string ⟨q.method.toArray⟩, .string ⟨q.target.toArray⟩, hv, .string ⟨q.body.toArray⟩, .bool q.close]
/-- what Read hands back. -/
def WReadP (n : Nat) (x : Rd1 ReqT) (w : World) (e : Ending) (w' : World) : Prop :=
  Below w.heap.size w w' ∧ match x with
    | .error st => e = .returned (.tuple #[zeroQ, .int .i64 0, .int .i64 st])
    | .ok (q, r) => ∃ hv, e = .returned (.tuple #[reqV q hv, .int .i64 ((n : Int) - r.length), .int .i64 0]) ∧ OwnT 38 2 w.heap.size (q.hdrs.map hcells) hv w'
theorem results_ccc {P : Program} {fn : Func} {p u v : Tmp} {ty ti tj : TypeId} (h : fn.results = #[.cell p ty, .cell u ti, .cell v tj]) (tmps : Array Value) (w : World) (g a b : Nat) (t : TypeId) (cs : Array Value) (fr : Nat × Nat) (d : TypeDesc) (x y : Value)
    (hp : tmps.getD p undef = .pointer (some ⟨g, 0, none⟩)) (hg : w.heap[g]? = some (.cells cs t fr)) (hu : P.underlying ty = some d) (hd : (match d with | .struct _ | .array _ _ => true | _ => false) = true) (hi : (P.info? ty).map (·.size) = some cs.size)
    (hpa : tmps.getD u undef = .pointer (some ⟨a, 0, none⟩)) (ha : (loadVar ti ⟨a, 0, none⟩).run P w = .ok x w)
    (hpb : tmps.getD v undef = .pointer (some ⟨b, 0, none⟩)) (hb : (loadVar tj ⟨b, 0, none⟩).run P w = .ok y w) :
    (results fn tmps).run P w = .ok (.tuple #[.agg cs, x, y]) w := by
  have h1 : (results fn tmps).run P w = ((asAddr (tmps.getD p undef)).run P w).andThen fun c w₁ => ((loadVar ty c).run P w₁).andThen fun z w₂ => ((asAddr (tmps.getD u undef)).run P w₂).andThen fun c w₃ => ((loadVar ti c).run P w₃).andThen fun z1 w₄ =>
      ((asAddr (tmps.getD v undef)).run P w₄).andThen fun c w₅ => ((loadVar tj c).run P w₅).andThen fun z2 w₆ => .ok (.tuple #[z, z1, z2]) w₆ := by
    simp only [results, h]
    simp [Sem.run_bind, Result.andThen]
  rw [h1, hp]
  simp [asAddr, run_loadVar_row w g t ty cs fr d hg hu hd hi, hpa, ha, hpb, hb]
theorem load_int {w : World} {b : Nat} {x : Int} (h : w.heap[b]? = some (.cells #[.int .i64 x] 3 (0, 0))) : (loadVar 3 ⟨b, 0, none⟩).run Tryz.prog w = .ok (.int .i64 x) w := by
  have h0 := wat h 0
  simp only [List.getElem?_toArray, List.getElem?_cons_zero] at h0
  simp [go_sem, h0]
theorem results_read (tmps : Array Value) (w : World) (q u v : Nat) (x0 x1 x2 x3 x4 : Value) (y z : Int) (h2 : tmps.getD 2 undef = .pointer (some ⟨q, 0, none⟩)) (h3 : tmps.getD 3 undef = .pointer (some ⟨u, 0, none⟩)) (h4 : tmps.getD 4 undef = .pointer (some ⟨v, 0, none⟩))
    (hq : w.heap[q]? = some (.cells #[x0, x1, x2, x3, x4] 26 (0, 0))) (hu : w.heap[u]? = some (.cells #[.int .i64 y] 3 (0, 0))) (hv : w.heap[v]? = some (.cells #[.int .i64 z] 3 (0, 0))) :
    (results Tryz.f13 tmps).run Tryz.prog w = .ok (.tuple #[.agg #[x0, x1, x2, x3, x4], .int .i64 y, .int .i64 z]) w :=
  results_ccc rfl tmps w q u v _ _ _ _ _ _ h2 hq Tryz.underlying26 rfl (by kernel_rfl) h3 (load_int hu) h4 (load_int hv)
def dfr (q u v : Nat) : List Deferred := [{ target := .fn (.func 30) #[.pointer (some ⟨q, 0, none⟩), .pointer (some ⟨u, 0, none⟩), .pointer (some ⟨v, 0, none⟩)], args := #[] }]
/-- a panic with a status comes to the door. -/
theorem read_stop {w wx : World} {st : Int} {n q u v : Nat} {x : Rd1 ReqT} (hx : x = .error st) (tmps : Array Value) (h2 : tmps.getD 2 undef = .pointer (some ⟨q, 0, none⟩)) (h3 : tmps.getD 3 undef = .pointer (some ⟨u, 0, none⟩)) (h4 : tmps.getD 4 undef = .pointer (some ⟨v, 0, none⟩))
    {x0 x1 x2 x3 x4 y z : Value} (hq : wx.heap[q]? = some (.cells #[x0, x1, x2, x3, x4] 26 (0, 0))) (hu : wx.heap[u]? = some (.cells #[y] 3 (0, 0))) (hv : wx.heap[v]? = some (.cells #[z] 3 (0, 0)))
    (q1 : w.heap.size ≤ q) (q2 : q < u) (q3 : u < v) (hb : Below w.heap.size w wx) : Leaves Tryz.prog Tryz.f13 tmps (WReadP n x w) (dfr q u v) (.panicking (stopE st)) wx := by
  subst hx
  refine leaves_cons (f := 30) (args := #[.pointer (some ⟨q, 0, none⟩), .pointer (some ⟨u, 0, none⟩), .pointer (some ⟨v, 0, none⟩)]) (by simp) (by simp [go_sem]) ?_
  refine (catch_pan q u v st [] wx x0 x1 x2 x3 x4 y z hq hu hv (by omega) (by omega) (by omega)).mono ?_
  rintro e m wz ⟨rfl, rfl, f1, f2, f3, f4, f5, f6, f7, f8⟩
  exact ⟨_, results_read tmps wz q u v _ _ _ _ _ _ _ h2 h3 h4 f1 f2 f3, hb.trans ⟨f4, f5, f6, f7, fun k hk => f8 k (by have := hb.size; omega) (by omega) (by omega) (by omega)⟩, rfl⟩
/-- a return comes to the door. -/
theorem read_done {w wx : World} {n q u v : Nat} {x : Rd1 ReqT} {m t : List UInt8} {hs : List HdrT} {hv : Value} {b r : List UInt8} {cl : Bool} (hx : x = .ok (⟨m, t, hs, b, cl⟩, r)) (tmps : Array Value) (h2 : tmps.getD 2 undef = .pointer (some ⟨q, 0, none⟩)) (h3 : tmps.getD 3 undef = .pointer (some ⟨u, 0, none⟩)) (h4 : tmps.getD 4 undef = .pointer (some ⟨v, 0, none⟩))
    (hq : wx.heap[q]? = some (.cells #[.string ⟨m.toArray⟩, .string ⟨t.toArray⟩, hv, .string ⟨b.toArray⟩, .bool cl] 26 (0, 0))) (hu : wx.heap[u]? = some (.cells #[.int .i64 ((n : Int) - r.length)] 3 (0, 0))) (hvv : wx.heap[v]? = some (.cells #[.int .i64 0] 3 (0, 0)))
    (ho : OwnT 38 2 w.heap.size (hs.map hcells) hv wx) (hb : Below w.heap.size w wx) : Leaves Tryz.prog Tryz.f13 tmps (WReadP n x w) (dfr q u v) .returning wx := by
  subst hx
  have ql := (Array.getElem?_eq_some_iff.1 hq).1
  have ul := (Array.getElem?_eq_some_iff.1 hu).1
  have vl := (Array.getElem?_eq_some_iff.1 hvv).1
  refine leaves_cons (f := 30) (args := #[.pointer (some ⟨q, 0, none⟩), .pointer (some ⟨u, 0, none⟩), .pointer (some ⟨v, 0, none⟩)]) (by simp) (by simp [go_sem]) ?_
  refine (catch_idle q u v wx).mono ?_
  rintro e m wz ⟨rfl, rfl, rfl⟩
  exact ⟨_, results_read tmps _ q u v _ _ _ _ _ _ _ h2 h3 h4 ((heap_alloc_old _ _ ql).trans hq) ((heap_alloc_old _ _ ul).trans hu) ((heap_alloc_old _ _ vl).trans hvv), hb.alloc hb.size _, hv, rfl, ho.alloc _⟩
theorem fiveQ {xs : Array Value} (h : xs.size = 5) : ∃ a b c d e, xs = #[a, b, c, d, e] := by
  obtain ⟨l⟩ := xs
  match l, h with
  | [a, b, c, d, e], _ => exact ⟨a, b, c, d, e, rfl⟩
/-- what holds all along in Read: the four blocks lie above what was there. -/
structure InRead (w wx : World) : Prop where
  below : Below w.heap.size w wx
  u : wx.heap[w.heap.size + 1]? = some (.cells #[.int .i64 0] 3 (0, 0))
  v : wx.heap[w.heap.size + 1 + 1]? = some (.cells #[.int .i64 0] 3 (0, 0))
  len : w.heap.size + 1 + 1 + 1 < wx.heap.size
theorem InRead.two {w wx wy : World} (h : InRead w wx) (t : Two (w.heap.size + 1 + 1 + 1) w.heap.size wx wy) : InRead w wy :=
  ⟨h.below.trans ⟨t.os, t.tape, t.output, t.size, fun k hk => t.block k (by have := h.len; omega) (by omega) (by omega)⟩, (t.block _ (by have := h.len; omega) (by omega) (by omega)).trans h.u, (t.block _ (by have := h.len; omega) (by omega) (by omega)).trans h.v, Nat.lt_of_lt_of_le h.len t.size⟩
theorem InRead.env {w wx : World} (h : InRead w wx) (hE : Env w) : ∀ w', Two (w.heap.size + 1 + 1 + 1) w.heap.size wx w' → Env w' := fun _ t => hE.below (h.two t).below
theorem InRead.stop {w wx wy : World} (h : InRead w wx) (t : Two (w.heap.size + 1 + 1 + 1) w.heap.size wx wy) {st : Int} {n : Nat} {x : Rd1 ReqT} (hx : x = .error st) {x0 x1 x2 x3 x4 : Value} (hq : wx.heap[w.heap.size]? = some (.cells #[x0, x1, x2, x3, x4] 26 (0, 0)))
    (tmps : Array Value) (h2 : tmps.getD 2 undef = .pointer (some ⟨w.heap.size, 0, none⟩)) (h3 : tmps.getD 3 undef = .pointer (some ⟨w.heap.size + 1, 0, none⟩)) (h4 : tmps.getD 4 undef = .pointer (some ⟨w.heap.size + 1 + 1, 0, none⟩)) :
    Leaves Tryz.prog Tryz.f13 tmps (WReadP n x w) (dfr w.heap.size (w.heap.size + 1) (w.heap.size + 1 + 1)) (.panicking (stopE st)) wy := by
  obtain ⟨ys, hy, e⟩ := t.row (by omega) _ _ hq
  obtain ⟨a, b, c, d, e, rfl⟩ := fiveQ e
  have hI := h.two t
  exact read_stop hx tmps h2 h3 h4 hy hI.u hI.v (Nat.le_refl _) (by omega) (by omega) hI.below
theorem inRead_start (w : World) (buf : List UInt8) (w0 : World) (h0 : w0 = (((w.alloc (.cells #[.string ⟨#[]⟩, .string ⟨#[]⟩, .slice none 0 0, .string ⟨#[]⟩, .bool false] 26 (0, 0))).alloc (.cells #[.int .i64 0] 3 (0, 0))).alloc (.cells #[.int .i64 0] 3 (0, 0))).alloc (.cells #[.string ⟨buf.toArray⟩, .int .i64 0] 69 (0, 0))) :
    InRead w w0 ∧ w0.heap[w.heap.size]? = some (.cells #[.string ⟨#[]⟩, .string ⟨#[]⟩, .slice none 0 0, .string ⟨#[]⟩, .bool false] 26 (0, 0)) ∧ WR w0 (w.heap.size + 1 + 1 + 1) buf buf := by
  have s1 : (w.alloc (.cells #[.string ⟨#[]⟩, .string ⟨#[]⟩, .slice none 0 0, .string ⟨#[]⟩, .bool false] 26 (0, 0))).heap.size = w.heap.size + 1 := World.size_alloc ..
  have a1 := heap_alloc_new w (.cells #[.string ⟨#[]⟩, .string ⟨#[]⟩, .slice none 0 0, .string ⟨#[]⟩, .bool false] 26 (0, 0))
  have b1 : Below w.heap.size w (w.alloc (.cells #[.string ⟨#[]⟩, .string ⟨#[]⟩, .slice none 0 0, .string ⟨#[]⟩, .bool false] 26 (0, 0))) := (Below.refl _ _).alloc (Nat.le_refl _) _
  generalize h1 : w.alloc (.cells #[.string ⟨#[]⟩, .string ⟨#[]⟩, .slice none 0 0, .string ⟨#[]⟩, .bool false] 26 (0, 0)) = w1 at *
  have s2 : (w1.alloc (.cells #[.int .i64 0] 3 (0, 0))).heap.size = w.heap.size + 1 + 1 := (World.size_alloc ..).trans (by rw [s1])
  have a2 := heap_alloc_new w1 (.cells #[.int .i64 0] 3 (0, 0))
  rw [s1] at a2
  have k2 : ∀ k, k < w.heap.size + 1 → (w1.alloc (.cells #[.int .i64 0] 3 (0, 0))).heap[k]? = w1.heap[k]? := fun k hk => heap_alloc_old _ _ (by rw [s1]; exact hk)
  have b2 := b1.alloc (by omega) (.cells #[.int .i64 0] 3 (0, 0))
  generalize h2 : w1.alloc (.cells #[.int .i64 0] 3 (0, 0)) = w2 at *
  have s3 : (w2.alloc (.cells #[.int .i64 0] 3 (0, 0))).heap.size = w.heap.size + 1 + 1 + 1 := (World.size_alloc ..).trans (by rw [s2])
  have a3 := heap_alloc_new w2 (.cells #[.int .i64 0] 3 (0, 0))
  rw [s2] at a3
  have k3 : ∀ k, k < w.heap.size + 1 + 1 → (w2.alloc (.cells #[.int .i64 0] 3 (0, 0))).heap[k]? = w2.heap[k]? := fun k hk => heap_alloc_old _ _ (by rw [s2]; exact hk)
  have b3 := b2.alloc (by omega) (.cells #[.int .i64 0] 3 (0, 0))
  generalize h3 : w2.alloc (.cells #[.int .i64 0] 3 (0, 0)) = w3 at *
  have s4 : w0.heap.size = w.heap.size + 1 + 1 + 1 + 1 := by rw [h0]; exact (World.size_alloc ..).trans (by rw [s3])
  have a4 := heap_alloc_new w3 (.cells #[.string ⟨buf.toArray⟩, .int .i64 0] 69 (0, 0))
  rw [s3, ← h0] at a4
  have k4 : ∀ k, k < w.heap.size + 1 + 1 + 1 → w0.heap[k]? = w3.heap[k]? := fun k hk => by rw [h0]; exact heap_alloc_old _ _ (by rw [s3]; exact hk)
  have b4 : Below w.heap.size w w0 := by rw [h0]; exact b3.alloc (by omega) _
  exact ⟨⟨b4, (k4 _ (by omega)).trans ((k3 _ (by omega)).trans a2), (k4 _ (by omega)).trans a3, by omega⟩, (k4 _ (by omega)).trans ((k3 _ (by omega)).trans ((k2 _ (by omega)).trans a1)), 0, Nat.zero_le _, rfl, a4⟩
theorem own_kept {e : TypeId} {n B B' : Nat} {rows : List (List Value)} {v : Value} {w w' : World} (h : OwnT e n B rows v w) (hB : B' ≤ B) (hk : ∀ k, B ≤ k → k < w.heap.size → w'.heap[k]? = w.heap[k]?) : OwnT e n B' rows v w' := by
  refine ⟨⟨h.1.1, ?_⟩, h.2⟩
  rcases h.1.2 with h0 | ⟨g, cap, cur, hv, hbg, hg, rest⟩
  · exact .inl h0
  · exact .inr ⟨g, cap, cur, hv, Nat.le_trans hB hbg, (hk g hbg (Array.getElem?_eq_some_iff.1 hg).1).trans hg, rest⟩
theorem InRead.done {w w1 wx : World} (h1 : InRead w w1) (h : InRead w wx) {m t b : List UInt8} {hs : List HdrT} {hv : Value} {cl : Bool} {r : List UInt8} {n : Nat} {x : Rd1 ReqT} (hx : x = .ok (⟨m, t, hs, b, cl⟩, r))
    (hq : wx.heap[w.heap.size]? = some (.cells #[.string ⟨m.toArray⟩, .string ⟨t.toArray⟩, hv, .string ⟨b.toArray⟩, .bool cl] 26 (0, 0))) (ho : OwnT 38 2 w1.heap.size (hs.map hcells) hv wx) (k : Int) (hk : k = (n : Int) - r.length)
    (tmps : Array Value) (h2 : tmps.getD 2 undef = .pointer (some ⟨w.heap.size, 0, none⟩)) (h3 : tmps.getD 3 undef = .pointer (some ⟨w.heap.size + 1, 0, none⟩)) (h4 : tmps.getD 4 undef = .pointer (some ⟨w.heap.size + 1 + 1, 0, none⟩)) :
    Leaves Tryz.prog Tryz.f13 tmps (WReadP n x w) (dfr w.heap.size (w.heap.size + 1) (w.heap.size + 1 + 1)) .returning (((setQ wx w.heap.size (.string ⟨m.toArray⟩) (.string ⟨t.toArray⟩) hv (.string ⟨b.toArray⟩) (.bool cl)).setCell ⟨w.heap.size + 1, 0, none⟩ (.int .i64 k)).setCell ⟨w.heap.size + 1 + 1, 0, none⟩ (.int .i64 0)).drew := by
  subst hk
  obtain ⟨f1, f2, f3, f4, f5, f6, f7, f8⟩ := catch_mem hq h.u h.v (by omega) (by omega) (by omega) (.string ⟨m.toArray⟩) (.string ⟨t.toArray⟩) hv (.string ⟨b.toArray⟩) (.bool cl) (.int .i64 ((n : Int) - r.length)) (.int .i64 0)
  generalize (((setQ wx w.heap.size (.string ⟨m.toArray⟩) (.string ⟨t.toArray⟩) hv (.string ⟨b.toArray⟩) (.bool cl)).setCell ⟨w.heap.size + 1, 0, none⟩ (.int .i64 ((n : Int) - r.length))).setCell ⟨w.heap.size + 1 + 1, 0, none⟩ (.int .i64 0)).drew = wf at *
  have hl := h1.len
  exact read_done hx tmps h2 h3 h4 f1 f2 f3 (own_kept ho (by omega) fun k k1 _ => f8 k (by omega) (by omega) (by omega)) (h.below.trans ⟨f4, f5, f6, Nat.le_of_eq f7.symm, fun k k1 => f8 k (by omega) (by omega) (by omega)⟩)
set_option maxHeartbeats 4000000 in
set_option maxRecDepth 100000 in
set_option linter.unusedSimpArgs false in
theorem wread_big (buf : List UInt8) (w : World) (hb : buf.length ≤ 9223372036854775807) (hE : Env w) :
    Calls Tryz.prog 13 #[.string ⟨buf.toArray⟩] w (WReadP buf.length (readW buf) w) := by
  have hmf : ∀ (fn : Fn) (first cap : Array Value) (w : World), (Instr.makeFunc fn first cap).run Tryz.prog w = .ok (.func fn first cap) w := fun _ _ _ _ => rfl
  have HS := Lib.hid (inRead_start w buf _ rfl)
  have HE := Lib.hid hE
  have HX := Lib.hid (readW_begin buf)
  generalize readW buf = ANS at *
  go_enter_defers Tryz.func13, Tryz.ntmps13
  go_wp2_with fail
  obtain ⟨hI, hq, hr⟩ := HS.out
  generalize (((w.alloc (.cells #[.string ⟨#[]⟩, .string ⟨#[]⟩, .slice none 0 0, .string ⟨#[]⟩, .bool false] 26 (0, 0))).alloc (.cells #[.int .i64 0] 3 (0, 0))).alloc (.cells #[.int .i64 0] 3 (0, 0))).alloc (.cells #[.string ⟨buf.toArray⟩, .int .i64 0] 69 (0, 0)) = w0 at hI hq hr ⊢
  clear HS
  refine (begin_any _ _ buf buf _ _ _ _ _ w0 hr hq (by omega) hb (hI.env HE.out)).mono ?_
  rintro e w1 ⟨t1, h1⟩
  rcases hx1 : beginR buf with st | ⟨⟨m, t⟩, r⟩
  · rw [hx1] at h1
    subst h1
    exact hI.stop t1 (by rw [HX.out, hx1]; rfl) hq _ rfl rfl rfl
  rw [hx1] at h1
  obtain ⟨rfl, hr1, hq1⟩ := h1
  have hI1 := hI.two t1
  clear hI hq hr t1
  go_wp2_with fail
  refine (headers_any _ _ buf r _ _ _ _ w1 hr1 hq1 (by omega) hb (hI1.env HE.out)).mono ?_
  rintro e w2 ⟨t2, h2⟩
  rcases hx2 : headS 32 0 [] r with st | ⟨hs, r2⟩
  · rw [hx2] at h2
    subst h2
    exact hI1.stop t2 (by rw [HX.out, hx1]; show thenS (headS 32 0 [] r) _ = _; rw [hx2]; rfl) hq1 _ rfl rfl rfl
  rw [hx2] at h2
  obtain ⟨rfl, hr2, hv, hq2, ho2⟩ := h2
  have hI2 := hI1.two t2
  have HI1 := Lib.hid hI1
  have hn := (headS_good _ _ _ _ _ _ hx2 (fun h hm => by cases hm)).1
  have hvl := vals_of (headS_val _ _ _ _ _ _ hx2 (fun h hm => by cases hm))
  have hlen1 := hI1.len
  clear hI1 hq1 hr1 t2
  go_wp2_with fail
  refine (body_any _ _ buf r2 hs _ _ hv _ w2 hr2 hq2 (by omega) hb (own_hdrs ho2) (by simp at hn; omega) hvl (hI2.env HE.out)).mono ?_
  rintro e w3 ⟨t3, h3⟩
  rcases hx3 : bodyS hs r2 with st | ⟨bd, r3⟩
  · rw [hx3] at h3
    subst h3
    exact hI2.stop t3 (by rw [HX.out, hx1]; show thenS (headS 32 0 [] r) _ = _; rw [hx2]; show thenS (bodyS hs r2) _ = _; rw [hx3]; rfl) hq2 _ rfl rfl rfl
  rw [hx3] at h3
  obtain ⟨rfl, hr3, hq3⟩ := h3
  have hI3 := hI2.two t3
  have ho3 := two_own ho2 t3 (by omega) (by omega)
  clear hI2 hq2 hr2 t3 ho2
  go_wp2_with fail
  refine (closes_any _ hs hv w3 (wat hq3 2) (own_hdrs ho3) (by simp at hn; omega) (hvl wConn) (HE.out.below hI3.below)).mono ?_
  rintro e w4 ⟨rfl, hb4⟩
  have ql := (Array.getElem?_eq_some_iff.1 hq3).1
  have hI4 := hI3.two (Two.below hb4)
  have hq4 := (hb4.block _ ql).trans hq3
  have hr4 := hr3.below hb4
  have ho4 := ho3.below hb4
  clear hI3 hq3 hr3 hb4 ho3
  have q4 := wat hq4 4
  have f4 := wfree hq4 4
  replace q4 : w4.cell? ⟨w.heap.size, 4, none⟩ = some (.bool false) := q4
  have hq5 := heap_setCell_same w4 w.heap.size 4 _ _ (.bool (closeS hs)) hq4
  replace hq5 : (w4.setCell ⟨w.heap.size, 4, none⟩ (.bool (closeS hs))).heap[w.heap.size]? = some (.cells #[.string ⟨m.toArray⟩, .string ⟨t.toArray⟩, hv, .string ⟨bd.toArray⟩, .bool (closeS hs)] 26 (0, 0)) := hq5
  have t5 : Two (w.heap.size + 1 + 1 + 1) w.heap.size w4 (w4.setCell ⟨w.heap.size, 4, none⟩ (.bool (closeS hs))) := (Two.refl _ _ _).setq 4 _
  have hI5 := hI4.two t5
  have hr5 := hr4.keep (grown_cell w4 w.heap.size 4 (.bool (closeS hs))) (fun e => by injection e with e; omega)
  have ho5 := two_own ho4 t5 (by omega) (by omega)
  have HX5 := Lib.hid (show ANS = .ok (⟨m, t, hs, bd, closeS hs⟩, r3) by rw [HX.out, hx1]; show thenS (headS 32 0 [] r) _ = _; rw [hx2]; show thenS (bodyS hs r2) _ = _; rw [hx3]; rfl)
  have HI5 := Lib.hid hI5
  have HQ5 := Lib.hid hq5
  have HR5 := Lib.hid hr5
  have HO5 := Lib.hid ho5
  clear hI5 hq5 hr5 ho5 t5 hI4 hq4 hr4 ho4 HX hx1 hx2 hx3 hvl hn hlen1
  go_wp2_with fail
  clear q4 f4
  generalize w4.setCell ⟨w.heap.size, 4, none⟩ (.bool (closeS hs)) = w5 at *
  have q0 := wat HQ5.out 0
  have q1 := wat HQ5.out 1
  have q2 := wat HQ5.out 2
  have q3 := wat HQ5.out 3
  have q4 := wat HQ5.out 4
  have lu := wat HI5.out.u 0
  have lv := wat HI5.out.v 0
  have fq0 := wfree HQ5.out 0
  have fq1 := wfree HQ5.out 1
  have fq2 := wfree HQ5.out 2
  have fq3 := wfree HQ5.out 3
  have fq4 := wfree HQ5.out 4
  have fu := wfree HI5.out.u 0
  have fv := wfree HI5.out.v 0
  simp only [List.getElem?_toArray, List.getElem?_cons_zero, List.getElem?_cons_succ] at q0 q1 q2 q3 q4 lu lv
  obtain ⟨k, hk⟩ := HR5.out
  have r1 := hk.c1
  have hkl := Lib.hid hk.len
  clear hk
  obtain ⟨A, cap, rfl⟩ := ownT_shape HO5.out
  rw [List.length_map] at q2 HQ5 HO5
  go_region
  go_wp2_with fail
  exact HI1.out.done HI5.out HX5.out HQ5.out HO5.out k (by have := hkl.out; omega) _ rfl rfl rfl
theorem wread_any (buf : List UInt8) (w : World) (hb : buf.length ≤ 100000000) (hE : Env w) : Calls Tryz.prog 13 #[.string ⟨buf.toArray⟩] w (WReadP buf.length (readW buf) w) := wread_big buf w (by omega) hE
end Go.Proofs.YtlkbfehdiopkbaaGreatDoor
