import Derived.Test.YtjkiehmjffgnlaaGreatDoorXmlZ22
import Derived.Test.YtjkiehmjffgnlaaGreatDoorXmlZ19
namespace Go.Proofs.YtjkiehmjffgnlaaGreatDoor
set_option linter.unusedVariables false
set_option linter.unusedSimpArgs false
open Go.RowKit

theorem ContOk.mono {m m' : Nat} (h : ContOk m) (hm : m' ≤ m) : ContOk m' := fun b s sv sc w hl => h b s sv sc w (by omega)
theorem cont_all : ∀ m, ContOk m
  | 0 => fun b s sv sc w hl => absurd hl (Nat.not_lt_zero _)
  | m + 1 => fun b s sv sc w hl hs h hE hsc => xcont_any b s sv sc w h hs hE hsc fun wx r hr hp hg =>
      xelem_any b r sv sc wx hp (by omega) (hE.step hg) (hsc.move (Moves.grown hg fun k hk _ => ⟨hk, fun e => by injection e with e; exact hk e⟩)) ((cont_all m).mono (by omega))
theorem xelem_all (b : Nat) (s : List UInt8) (sv : Value) (sc : Scope) (w : World) (h : PX w b s) (hs : s.length ≤ 1000000) (hE : XE w b) (hsc : ScP (· ≠ b) w sv sc) :
    Calls Tryz.prog 63 #[.pointer (some ⟨b, 0, none⟩), sv] w (XOut b (elemX sc s) (ElV w.heap.size) w) := xelem_any b s sv sc w h hs hE hsc (cont_all _)
set_option maxHeartbeats 4000000 in
set_option maxRecDepth 100000 in
set_option linter.unusedSimpArgs false in
theorem xGoodT_any (n : NodeT) (av kv : Value) (w : World) (ha : AttrsP anyB w av n.attrs) (hk : NodesP anyB w kv n.kids) (hs : SmallN 2000000 n) (hE : XEnv w) : Calls Tryz.prog 65 #[nodeV n av kv] w (Ret (.bool (goodT n)) w) := by
  have hb0 : Below w.heap.size w (w.alloc (.cells #[.string ⟨n.text.toArray⟩, .string ⟨n.space.toArray⟩, .string ⟨n.name.toArray⟩, av, kv] 46 (0, 0))) := (Below.refl _ _).alloc (Nat.le_refl _) _
  have HN := Lib.hid (NodeP.of (t := n.text) (s := n.space) (n := n.name) ha hk)
  have HG := Lib.hid (xgood_any (cs := [.string ⟨n.text.toArray⟩, .string ⟨n.space.toArray⟩, .string ⟨n.name.toArray⟩, av, kv]) (n := n) (by have := HN.out; obtain ⟨t, s, m, ats, ks⟩ := n; exact this) hs 0 4096 _ hb0 (hE.below hb0) (by omega) (by omega))
  have hq := heap_alloc_new w (.cells #[.string ⟨n.text.toArray⟩, .string ⟨n.space.toArray⟩, .string ⟨n.name.toArray⟩, av, kv] 46 (0, 0))
  have HB0 := Lib.hid hb0
  have HT := Lib.hid (goodT_G n)
  obtain ⟨aA, ac, rfl⟩ := tab_shape ha.1
  obtain ⟨kA, kc, rfl⟩ := tab_shape hk.1
  obtain ⟨E, hEE⟩ : ∃ E, E = Ret (.bool (goodT n)) w := ⟨_, rfl⟩
  rw [← hEE]
  have HEE := Lib.hid hEE
  unfold nodeV
  clear ha hk hE hEE HN hb0
  go_enter Tryz.func65, Tryz.ntmps65
  go_wp2_with fail
  generalize w.alloc (.cells #[.string ⟨n.text.toArray⟩, .string ⟨n.space.toArray⟩, .string ⟨n.name.toArray⟩, .slice aA n.attrs.length ac, .slice kA n.kids.length kc] 46 (0, 0)) = w1 at *
  obtain ⟨q, hqe⟩ : ∃ q, q = w.heap.size := ⟨_, rfl⟩
  rw [← hqe] at hq ⊢
  clear hqe
  refine HG.out.mono ?_
  rintro e w2 ⟨z, rfl, -, hb2⟩
  have HB2 := Lib.hid (HB0.out.trans (hb2.mono HB0.out.size))
  have x2 := (hb2.cell (p := ⟨q, 2, none⟩) (xlt hq)).trans (xat hq 2)
  simp only [List.getElem?_toArray, List.getElem?_cons_zero, List.getElem?_cons_succ] at x2
  clear hb2 hq HB0 HG
  cases hg : goodG 0 4096 n
  · have HF := Lib.hid (show goodT n = false by rw [HT.out, hg]; rfl)
    clear hg HT
    go_wp2
    rw [HEE.out, HF.out]
    exact ⟨rfl, HB2.out⟩
  · by_cases hn : n.name = []
    · have HF := Lib.hid (show goodT n = false by rw [HT.out, hg, decide_eq_true hn]; rfl)
      have b1 : n.name.isEmpty = true := by rw [hn]; rfl
      clear hg HT hn
      go_wp2
      rw [HEE.out, HF.out]
      exact ⟨rfl, HB2.out⟩
    · have HF := Lib.hid (show goodT n = true by rw [HT.out, hg, decide_eq_false hn]; rfl)
      have b1 : n.name.isEmpty = false := by cases h : n.name with | nil => exact absurd h hn | cons => rfl
      clear hg HT hn
      go_wp2
      rw [HEE.out, HF.out]
      exact ⟨rfl, HB2.out⟩
def zeroCs : Array Value := #[.string ⟨#[]⟩, .string ⟨#[]⟩, .string ⟨#[]⟩, .slice none 0 0, .slice none 0 0]
/-- what Parse hands back. -/
def ParseP (x : Except Int NodeT) (w : World) (e : Ending) (w' : World) : Prop := Below w.heap.size w w' ∧ match x with
  | .error k => e = .returned (.tuple #[zeroNV, .int .i64 k])
  | .ok n => ∃ av kv, e = .returned (.tuple #[nodeV n av kv, .int .i64 0]) ∧ AttrsP (w.heap.size ≤ ·) w' av n.attrs ∧ NodesP (w.heap.size ≤ ·) w' kv n.kids
theorem load_err {w : World} {b : Nat} {x : Int} (h : w.heap[b]? = some (.cells #[.int .i64 x] 93 (0, 0))) : (loadVar 93 ⟨b, 0, none⟩).run Tryz.prog w = .ok (.int .i64 x) w := by
  have h0 := xat h 0
  simp only [List.getElem?_toArray, List.getElem?_cons_zero] at h0
  simp [go_sem, h0]
theorem results_cc {P : Program} {fn : Func} {p u : Tmp} {ty ti : TypeId} (h : fn.results = #[.cell p ty, .cell u ti]) (tmps : Array Value) (w : World) (g a : Nat) (t : TypeId) (cs : Array Value) (fr : Nat × Nat) (d : TypeDesc) (x : Value)
    (hp : tmps.getD p undef = .pointer (some ⟨g, 0, none⟩)) (hg : w.heap[g]? = some (.cells cs t fr)) (hu : P.underlying ty = some d) (hd : (match d with | .struct _ | .array _ _ => true | _ => false) = true) (hi : (P.info? ty).map (·.size) = some cs.size)
    (hpa : tmps.getD u undef = .pointer (some ⟨a, 0, none⟩)) (ha : (loadVar ti ⟨a, 0, none⟩).run P w = .ok x w) :
    (results fn tmps).run P w = .ok (.tuple #[.agg cs, x]) w := by
  have h1 : (results fn tmps).run P w = ((asAddr (tmps.getD p undef)).run P w).andThen fun c w₁ => ((loadVar ty c).run P w₁).andThen fun z w₂ => ((asAddr (tmps.getD u undef)).run P w₂).andThen fun c w₃ => ((loadVar ti c).run P w₃).andThen fun z1 w₄ => .ok (.tuple #[z, z1]) w₄ := by
    simp only [results, h]
    simp [Sem.run_bind, Result.andThen]
  rw [h1, hp]
  simp [asAddr, run_loadVar_row w g t ty cs fr d hg hu hd hi, hpa, ha]
theorem results_parse (tmps : Array Value) (w : World) (q u : Nat) (cs : Array Value) (y : Int) (hc : cs.size = 5) (h2 : tmps.getD 2 undef = .pointer (some ⟨q, 0, none⟩)) (h3 : tmps.getD 3 undef = .pointer (some ⟨u, 0, none⟩))
    (hq : w.heap[q]? = some (.cells cs 46 (0, 0))) (hu : w.heap[u]? = some (.cells #[.int .i64 y] 93 (0, 0))) :
    (results Tryz.f49 tmps).run Tryz.prog w = .ok (.tuple #[.agg cs, .int .i64 y]) w :=
  results_cc rfl tmps w q u _ cs _ _ _ h2 hq Tryz.underlying46 rfl (by rw [hc]; kernel_rfl) h3 (load_err hu)
theorem two_cells {w : World} {q u : Nat} {cs cs' : Array Value} {y y' : Value} (hq : w.heap[q]? = some (.cells cs 46 (0, 0))) (hu : w.heap[u]? = some (.cells #[y] 93 (0, 0))) (h : q ≠ u) : let w' := (w.setRow q cs').setCell ⟨u, 0, none⟩ y'
    w'.heap[q]? = some (.cells cs' 46 (0, 0)) ∧ w'.heap[u]? = some (.cells #[y'] 93 (0, 0)) ∧ w'.os = w.os ∧ w'.tape = w.tape ∧ w'.output = w.output ∧ w.heap.size ≤ w'.heap.size ∧ ∀ k, k ≠ q → k ≠ u → w'.heap[k]? = w.heap[k]? := by
  have h1 : (w.setRow q cs').heap[u]? = some (.cells #[y] 93 (0, 0)) := (setRow_other w q u cs' (fun e => h (by rw [e]))).trans hu
  refine ⟨(heap_setCell_other _ ⟨u, 0, none⟩ q y' h).trans (setRow_heap w q cs _ _ _ hq), heap_setCell_same _ u 0 _ _ y' h1, rfl, rfl, rfl, by simp, fun k k1 k2 => ?_⟩
  exact (heap_setCell_other _ ⟨u, 0, none⟩ k y' k2).trans (setRow_other w q k cs' k1)
theorem one_cell {w : World} {q u : Nat} {cs' : Array Value} {y : Value} (hu : w.heap[u]? = some (.cells #[y] 93 (0, 0))) (h : q ≠ u) : (w.setRow q cs').cell? ⟨u, 0, none⟩ = some y ∧ (w.setRow q cs').frozen? ⟨u, 0, none⟩ = false := by
  have h1 : (w.setRow q cs').heap[u]? = some (.cells #[y] 93 (0, 0)) := (setRow_other w q u cs' (fun e => h (by rw [e]))).trans hu
  exact ⟨xat h1 0, xfree h1 0⟩
set_option maxHeartbeats 1000000 in
set_option maxRecDepth 100000 in
theorem pcatch_pan (q u : Nat) (older : List PanicEntry) (w : World) (cs : Array Value) (y : Value)
    (hq : w.heap[q]? = some (.cells cs 46 (0, 0))) (hcs : cs.size = 5) (hu : w.heap[u]? = some (.cells #[y] 93 (0, 0))) (h1 : q ≠ u) :
    CallsD Tryz.prog 58 #[.pointer (some ⟨q, 0, none⟩), .pointer (some ⟨u, 0, none⟩)] (.panicking ({ v := .iface 103 (.agg #[]), recovered := false } :: older)) w fun e m w' =>
      e = .returned (.tuple #[]) ∧ m = .panicking ({ v := .iface 103 (.agg #[]), recovered := true } :: older) ∧ w'.heap[q]? = some (.cells zeroCs 46 (0, 0)) ∧
        w'.heap[u]? = some (.cells #[.int .i64 30] 93 (0, 0)) ∧ w'.os = w.os ∧ w'.tape = w.tape ∧ w'.output = w.output ∧ w.heap.size ≤ w'.heap.size ∧ ∀ k, k < w.heap.size → k ≠ q → k ≠ u → w'.heap[k]? = w.heap[k]? := by
  refine callsD_of_wpS Tryz.func58 rfl fun c₀ cs0 hm => ?_
  have has : ∀ w : World, (Instr.typeAssert (.iface 103 (.agg #[])) 20 103 true).run Tryz.prog w = .ok (.tuple #[.agg #[], .bool true]) w := fun _ => by kernel_rfl
  apply wpS_seq
  apply wpS_region
  simp [wpOpsS, go_sem, recoverD, hm, has, Tryz.ntmps58, Exit.thenS]
  refine wpS_of_wp ?_
  simp only [Array.replicate, List.replicate]
  have hq1 := (heap_alloc_old w (.cells #[] 103 (0, 0)) (xlt hq)).trans hq
  have hu1 := (heap_alloc_old w (.cells #[] 103 (0, 0)) (xlt hu)).trans hu
  obtain ⟨lu, fu⟩ := one_cell (cs' := #[.string ⟨#[]⟩, .string ⟨#[]⟩, .string ⟨#[]⟩, .slice none 0 0, .slice none 0 0]) hu1 h1
  have HT := Lib.hid (two_cells (cs' := #[.string ⟨#[]⟩, .string ⟨#[]⟩, .string ⟨#[]⟩, .slice none 0 0, .slice none 0 0]) (y' := .int .i64 30) hq1 hu1 h1)
  have HQ1 := Lib.hid hq1
  have HA := Lib.hid (show ∀ k, k < w.heap.size → (w.alloc (.cells #[] 103 (0, 0))).heap[k]? = w.heap[k]? from fun k hk => heap_alloc_old _ _ hk)
  clear hq1 hu1 hq hu
  go_wp2_with (refine wpList_store_row rfl 46 _ _ rfl q _ rfl rfl 46 _ HQ1.out (by kernel_rfl) hcs (by simp [Value.oneCell']) ?_)
  obtain ⟨t1, t2, t3, t4, t5, t6, t7⟩ := HT.out
  exact ⟨rfl, _, rfl, _, by simp [results, Tryz.results58], rfl, rfl, t1, t2, t3, t4, t5, Nat.le_trans (by simp) t6, fun k k1 k2 k3 => (t7 k k2 k3).trans (HA.out k k1)⟩
theorem pcatch_idle (q u : Nat) (w : World) :
    CallsD Tryz.prog 58 #[.pointer (some ⟨q, 0, none⟩), .pointer (some ⟨u, 0, none⟩)] .returning w fun e m w' => e = .returned (.tuple #[]) ∧ m = .returning ∧ w' = w.alloc (.cells #[] 103 (0, 0)) := by
  refine callsD_of_wpS Tryz.func58 rfl fun c₀ cs hm => ?_
  have has : ∀ w : World, (Instr.typeAssert .nilIface 20 103 true).run Tryz.prog w = .ok (.tuple #[.agg #[], .bool false]) w := fun _ => by kernel_rfl
  apply wpS_seq
  apply wpS_region
  simp [wpOpsS, go_sem, recoverD, hm, has, Tryz.ntmps58, Exit.thenS]
  refine wpS_of_wp ?_
  simp only [Array.replicate, List.replicate]
  go_wp2
  cases c₀
  simp_all [bodyPostS, results, Tryz.results58]
def dfrX (q u : Nat) : List Deferred := [{ target := .fn (.func 58) #[.pointer (some ⟨q, 0, none⟩), .pointer (some ⟨u, 0, none⟩)], args := #[] }]
theorem parse_stop {w wx : World} {q u : Nat} {x : Except Int NodeT} (hx : x = .error 30) (tmps : Array Value) (h2 : tmps.getD 2 undef = .pointer (some ⟨q, 0, none⟩)) (h3 : tmps.getD 3 undef = .pointer (some ⟨u, 0, none⟩))
    {cs : Array Value} {y : Value} (hq : wx.heap[q]? = some (.cells cs 46 (0, 0))) (hcs : cs.size = 5) (hu : wx.heap[u]? = some (.cells #[y] 93 (0, 0)))
    (q1 : w.heap.size ≤ q) (q2 : q < u) (hb : Below w.heap.size w wx) : Leaves Tryz.prog Tryz.f49 tmps (ParseP x w) (dfrX q u) (.panicking brokenE) wx := by
  subst hx
  refine leaves_cons (f := 58) (args := #[.pointer (some ⟨q, 0, none⟩), .pointer (some ⟨u, 0, none⟩)]) (by simp) (by simp [go_sem]) ?_
  refine (pcatch_pan q u [] wx cs y hq hcs hu (by omega)).mono ?_
  rintro e m wz ⟨rfl, rfl, f1, f2, f4, f5, f6, f7, f8⟩
  exact ⟨_, results_parse tmps wz q u _ _ rfl h2 h3 f1 f2, hb.trans ⟨f4, f5, f6, f7, fun k hk => f8 k (by have := hb.size; omega) (by omega) (by omega)⟩, rfl⟩
theorem parse_done {w wx : World} {q u : Nat} {x : Except Int NodeT} (tmps : Array Value) (h2 : tmps.getD 2 undef = .pointer (some ⟨q, 0, none⟩)) (h3 : tmps.getD 3 undef = .pointer (some ⟨u, 0, none⟩)) {cs : Array Value} {y : Int}
    (hq : wx.heap[q]? = some (.cells cs 46 (0, 0))) (hcs : cs.size = 5) (hu : wx.heap[u]? = some (.cells #[.int .i64 y] 93 (0, 0))) (hR : ParseP x w (.returned (.tuple #[.agg cs, .int .i64 y])) (wx.alloc (.cells #[] 103 (0, 0)))) : Leaves Tryz.prog Tryz.f49 tmps (ParseP x w) (dfrX q u) .returning wx := by
  have ql := xlt hq
  have ul := xlt hu
  refine leaves_cons (f := 58) (args := #[.pointer (some ⟨q, 0, none⟩), .pointer (some ⟨u, 0, none⟩)]) (by simp) (by simp [go_sem]) ?_
  refine (pcatch_idle q u wx).mono ?_
  rintro e m wz ⟨rfl, rfl, rfl⟩
  exact ⟨_, results_parse tmps _ q u _ _ hcs h2 h3 ((heap_alloc_old _ _ ql).trans hq) ((heap_alloc_old _ _ ul).trans hu), hR⟩
end Go.Proofs.YtjkiehmjffgnlaaGreatDoor
