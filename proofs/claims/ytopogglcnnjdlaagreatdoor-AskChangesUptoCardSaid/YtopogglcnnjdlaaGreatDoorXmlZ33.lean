/-
  Parts of the walks and plain laws of layer 10, joined: AskF. Conditions: as each theorem states them.
-/
import Derived.Test.YtopogglcnnjdlaaGreatDoorXmlZ32
/-! AskF -/
namespace Go.Proofs.YtopogglcnnjdlaaGreatDoor
set_option linter.unusedVariables false
set_option linter.unusedSimpArgs false
open Go.RowKit

def findP : List PropT → PropT → Nat → Int
  | [], _, _ => -1
  | y :: r, x, k => if x = y then k else findP r x (k + 1)
theorem findP_bd (x : PropT) : ∀ (l : List PropT) (k : Nat), (findP l x k = -1 ∧ x ∉ l) ∨ (0 ≤ findP l x k ∧ x ∈ l)
  | [], _ => .inl ⟨rfl, by simp⟩
  | y :: r, k => by
    unfold findP
    by_cases h : x = y
    · exact .inr ⟨by rw [if_pos h]; omega, by simp [h]⟩
    · rw [if_neg h]
      rcases findP_bd x r (k + 1) with ⟨h1, h2⟩ | ⟨h1, h2⟩
      · exact .inl ⟨h1, by simp [h, h2]⟩
      · exact .inr ⟨h1, by simp [h2]⟩
theorem props_at {w : World} {A : Option Addr} {n cap : Nat} {l : List PropT} (h : Tab 2 (PropR anyB) w (.slice A n cap) l) : n = l.length ∧ n ≤ cap ∧ cap ≤ maxLen ∧ ∀ j a, l[j]? = some a → ∃ b o, A = some ⟨b, o, none⟩ ∧ b < w.heap.size ∧ w.cell? ⟨b, o + j * 2, none⟩ = some (.string ⟨a.space.toArray⟩) ∧ w.cell? ⟨b, o + j * 2 + 1, none⟩ = some (.string ⟨a.name.toArray⟩) := by
  obtain ⟨A', cap', hv, h1, h2, hc⟩ := h
  injection hv with e1 e2 e3
  subst e1 e2 e3
  refine ⟨rfl, h1, h2, fun j a hj => ?_⟩
  obtain ⟨b, o, hA, hb, cs, hl, hcell, hr⟩ := hc j a hj
  have hr' : cs = [.string ⟨a.space.toArray⟩, .string ⟨a.name.toArray⟩] := hr
  subst hr'
  exact ⟨b, o, hA, hb, hcell 0 _ rfl, hcell 1 _ rfl⟩
theorem prop_eql (a b c d : List UInt8) (w : World) : (binOp .eql 83 (.agg #[.string ⟨a.toArray⟩, .string ⟨b.toArray⟩]) (.agg #[.string ⟨c.toArray⟩, .string ⟨d.toArray⟩])).run Tryz.prog w = .ok (.bool (a == c && b == d)) w := by
  go_simp
  by_cases h1 : a = c <;> by_cases h2 : b = d <;> simp [h1, h2]
set_option maxHeartbeats 4000000 in
set_option maxRecDepth 100000 in
set_option linter.unusedSimpArgs false in
theorem pindex_any (v : Value) (l : List PropT) (p : PropT) (w : World) (hv : Tab 2 (PropR anyB) w v l) : Calls Tryz.prog 129 #[v, .agg #[.string ⟨p.space.toArray⟩, .string ⟨p.name.toArray⟩]] w (Ret (.int .i64 (findP l p 0)) w) := by
  obtain ⟨A, cap, rfl⟩ := tab_shape hv
  obtain ⟨-, hcap, hcm, hc⟩ := props_at hv
  unfold maxLen at hcm
  have HC := Lib.hid hc
  obtain ⟨sp, nm⟩ := p
  simp only
  have hb0 : Below w.heap.size w (w.alloc (.cells #[.string ⟨sp.toArray⟩, .string ⟨nm.toArray⟩] 83 (0, 0))) := (Below.refl _ _).alloc (Nat.le_refl _) _
  have hq := heap_alloc_new w (.cells #[.string ⟨sp.toArray⟩, .string ⟨nm.toArray⟩] 83 (0, 0))
  have HB0 := Lib.hid hb0
  have HQ := Lib.hid hq
  obtain ⟨ANS, hA⟩ : ∃ A, findP l ⟨sp, nm⟩ 0 = A := ⟨_, rfl⟩
  rw [hA]
  have HA := Lib.hid hA
  obtain ⟨E, hEE⟩ : ∃ E, E = Ret (.int .i64 ANS) w := ⟨_, rfl⟩
  rw [← hEE]
  have HEE := Lib.hid hEE
  clear hc hv hb0 hq hA hEE
  go_enter Tryz.func129, Tryz.ntmps129
  go_wp2_with fail
  generalize w.alloc (.cells #[.string ⟨sp.toArray⟩, .string ⟨nm.toArray⟩] 83 (0, 0)) = w1 at *
  obtain ⟨q, hqe⟩ : ∃ q, q = w.heap.size := ⟨_, rfl⟩
  rw [← hqe] at HQ ⊢
  clear hqe
  go_loopg [8] l.length (fun gk iv wr => ∃ k : Nat, k + gk = l.length ∧ iv = .int .i64 k ∧ Hid (findP (l.drop k) ⟨sp, nm⟩ k = ANS) ∧ Hid (Below w1.heap.size w1 wr))
  case atStart => exact ⟨0, by omega, rfl, HA, Lib.hid (Below.refl _ _)⟩
  case round =>
    obtain ⟨k, hk, rfl, H, hbw⟩ := hrel
    clear HA
    have HBR := Lib.hid (HB0.out.trans (hbw.out.mono HB0.out.size))
    have hqr := (hbw.out.block _ (xlt HQ.out)).trans HQ.out
    have x0 := xat hqr 0
    have x1 := xat hqr 1
    simp only [List.getElem?_toArray, List.getElem?_cons_zero, List.getElem?_cons_succ] at x0 x1
    clear hqr
    rcases hd : l.drop k with _ | ⟨y, r⟩
    · have hk2 : k = l.length := by have := drop_nil hd; omega
      rw [hd] at H
      subst hk2
      clear hd
      obtain rfl : -1 = ANS := H.out
      go_wp2
      rw [HEE.out]
      exact ⟨rfl, HBR.out⟩
    · obtain ⟨hlt, hx, hr⟩ := drop_consA hd
      obtain ⟨b, o, rfl, hbl, e0, e1⟩ := HC.out k y hx
      have d0 := (HBR.out.cell (p := ⟨b, o + k * 2, none⟩) hbl).trans e0
      have d1 := (HBR.out.cell (p := ⟨b, o + k * 2 + 1, none⟩) hbl).trans e1
      obtain ⟨ys, yn⟩ := y
      simp only at d0 d1
      rw [hd] at H
      have Hr := Lib.hid hr
      have k1 : (k : Int) < l.length := by omega
      have k2 : (0 : Int) ≤ k := by omega
      have HBD := Lib.hid (fun n => below_draws HBR.out n)
      have HBE := Lib.hid (fun n => below_draws hbw.out n)
      have hsm := prop_eql sp nm ys yn
      clear hd hr hx e0 e1 hbw HBR
      by_cases he : sp = ys ∧ nm = yn
      · obtain ⟨rfl, rfl⟩ := he
        have H2 : (k : Int) = ANS := by have := H.out; unfold findP at this; rw [if_pos rfl] at this; exact this
        subst H2
        simp only [beq_self_eq_true, Bool.and_self] at hsm
        clear H
        go_wp2
        go_quiet (fail)
        go_wp2
        rw [HEE.out]
        exact ⟨rfl, HBD.out _⟩
      · have H2 := Lib.hid (show findP r ⟨sp, nm⟩ (k + 1) = ANS by have := H.out; unfold findP at this; rw [if_neg (by intro e; injection e with e1 e2; exact he ⟨e1, e2⟩)] at this; exact this)
        have hne : (sp == ys && nm == yn) = false := by rw [Bool.eq_false_iff]; intro h; rw [Bool.and_eq_true, beq_iff_eq, beq_iff_eq] at h; exact he h
        simp only [hne] at hsm
        clear H he hne
        go_wp2
        go_quiet (fail)
        go_wp2
        go_roundg (gk - 1)
        case measure => omega
        case rel => exact ⟨k + 1, by omega, by go_num, by rw [Hr.out]; exact H2, Lib.hid (HBE.out _)⟩
set_option maxHeartbeats 2000000 in
set_option maxRecDepth 100000 in
set_option linter.unusedSimpArgs false in
theorem pcontains_any (v : Value) (l : List PropT) (p : PropT) (w : World) (hv : Tab 2 (PropR anyB) w v l) : Calls Tryz.prog 89 #[v, .agg #[.string ⟨p.space.toArray⟩, .string ⟨p.name.toArray⟩]] w (Ret (.bool (decide (p ∈ l))) w) := by
  have hb0 : Below w.heap.size w (w.alloc (.cells #[.string ⟨p.space.toArray⟩, .string ⟨p.name.toArray⟩] 83 (0, 0))) := (Below.refl _ _).alloc (Nat.le_refl _) _
  have HB0 := Lib.hid hb0
  have HI := Lib.hid (pindex_any v l p _ (Tab.below hv hb0 (Nat.le_refl _) fun _ _ h => h))
  have hb := findP_bd p l 0
  generalize hf : findP l p 0 = f at hb HI
  generalize hd : decide (p ∈ l) = d
  have hb2 : (f = -1 ∧ d = false) ∨ (0 ≤ f ∧ d = true) := by rw [← hd]; simpa using hb
  obtain ⟨E, hEE⟩ : ∃ E, E = Ret (.bool d) w := ⟨_, rfl⟩
  rw [← hEE]
  have HEE := Lib.hid hEE
  have HB2 := Lib.hid hb2
  obtain ⟨A, cap, rfl⟩ := tab_shape hv
  clear hb hd hf hb0 hEE hv hb2
  go_enter Tryz.func89, Tryz.ntmps89
  go_wp2_with fail
  refine HI.out.mono ?_
  rintro e w1 ⟨rfl, hb1⟩
  have HB1 := Lib.hid (HB0.out.trans (hb1.mono HB0.out.size))
  clear hb1 HI
  go_wp2
  rw [HEE.out]
  refine ⟨retb ?_, HB1.out⟩
  rcases HB2.out with ⟨rfl, rfl⟩ | ⟨h1, rfl⟩
  · rfl
  · simpa using h1
theorem results_ct {P : Program} {fn : Func} {p u : Tmp} {ty : TypeId} (h : fn.results = #[.cell p ty, .tmp u]) (tmps : Array Value) (w : World) (g : Nat) (t : TypeId) (cs : Array Value) (fr : Nat × Nat) (d : TypeDesc)
    (hp : tmps.getD p undef = .pointer (some ⟨g, 0, none⟩)) (hg : w.heap[g]? = some (.cells cs t fr))
    (hu : P.underlying ty = some d) (hd : (match d with | .struct _ | .array _ _ => true | _ => false) = true) (hi : (P.info? ty).map (·.size) = some cs.size) :
    (results fn tmps).run P w = .ok (.tuple #[.agg cs, tmps.getD u undef]) w := by
  rw [results_cell_tmp h, hp]
  simp [asAddr, run_loadVar_row w g t ty cs fr d hg hu hd hi]
theorem two_alloc (w : World) (a b : Obj) : Below w.heap.size w ((w.alloc a).alloc b) ∧ ((w.alloc a).alloc b).heap[w.heap.size]? = some a ∧ ((w.alloc a).alloc b).heap[w.heap.size + 1]? = some b := by
  have s1 : (w.alloc a).heap.size = w.heap.size + 1 := World.size_alloc ..
  have b1 : Below w.heap.size w (w.alloc a) := (Below.refl _ _).alloc (Nat.le_refl _) _
  refine ⟨b1.alloc b1.size b, ?_, ?_⟩
  · rw [heap_alloc_old _ _ (by rw [s1]; omega)]
    exact heap_alloc_new w a
  · have := heap_alloc_new (w.alloc a) b
    rwa [s1] at this
theorem len_mem_count : ∀ (l : List NodeT) (x : NodeT), x ∈ l → countN x ≤ countL l
  | y :: l, x, h => by
    rw [countL]
    rcases List.mem_cons.1 h with rfl | h
    · omega
    · have := len_mem_count l x h; omega
theorem kids_le (n : NodeT) : n.kids.length < countN n := by
  have h2 := countN_kids n
  have h3 : n.kids.length ≤ countL n.kids := by
    generalize n.kids = ks
    clear h2
    induction ks with
    | nil => exact Nat.zero_le _
    | cons k r ih =>
      rw [countL, List.length_cons]
      have : 1 ≤ countN k := by obtain ⟨t, s, m, ats, ks⟩ := k; rw [countN]; omega
      omega
  omega
/-- a result's cell is filled. -/
theorem row_end {w0 w1 : World} {r : Nat} {cs0 : Array Value} {T : TypeId} (hB : Below w0.heap.size w0 w1) (hr : w1.heap[r]? = some (.cells cs0 T (0, 0))) (hle : w0.heap.size ≤ r) (cs : Array Value) : Below w0.heap.size w0 (w1.setRow r cs) ∧ (w1.setRow r cs).heap[r]? = some (.cells cs T (0, 0)) := by
  have hg := grown_row w1 r cs
  have hs := hB.size
  exact ⟨hB.trans ⟨hg.os, hg.tape, hg.output, hg.size, fun k hk => hg.block k (by omega) (by intro e; injection e with e; omega)⟩, setRow_heap _ r _ _ _ _ hr⟩
theorem NodesE.one {n : NodeT} {w w' : World} {e : Ending} (h : NodesE (.ok [n]) w e w') : Below w.heap.size w w' ∧ ∃ kA kc, e = .returned (.tuple #[.slice kA 1 kc, .int .i64 0]) ∧ NodesP anyB w' (.slice kA 1 kc) [n] := h
theorem NodesE.err {k : Int} {w w' : World} {e : Ending} (h : NodesE (.error k) w e w') : Below w.heap.size w w' ∧ ∃ kA kc, e = .returned (.tuple #[.slice kA 0 kc, .int .i64 k]) := by
  obtain ⟨h1, kA, kc, h2, -⟩ := h
  exact ⟨h1, kA, kc, h2⟩
theorem askRead_err {s w : List UInt8} {k : Int} (h : askRead s w = .error k) : k = 5 ∨ k = 30 ∨ k = 31 ∨ k = 50 := by
  unfold askRead at h
  cases hp : parseX s with
  | error e =>
    rw [hp] at h
    injection h with h
    subst h
    rcases parse_err hp with h | h | h
    · exact .inl h
    · exact .inr (.inl h)
    · exact .inr (.inr (.inl h))
  | ok n =>
    rw [hp] at h
    simp only at h
    split at h
    · cases h
    · injection h with h; exact .inr (.inr (.inr h.symm))
theorem askRead_ok {s w : List UInt8} {n : NodeT} (h : askRead s w = .ok n) : parseX s = .ok n ∧ isD n w = true := by
  unfold askRead at h
  cases hp : parseX s with
  | error e => rw [hp] at h; cases h
  | ok m =>
    rw [hp] at h
    simp only at h
    split at h
    · injection h with h; subst h; exact ⟨rfl, by assumption⟩
    · cases h
def findL (L1 L2 L3 : List NodeT) : Except Int FindT := if L1.length + L2.length + L3.length ≠ 1 then .error 50 else if L1.length = 1 then .ok zeroF else if L2.length = 1 then .ok ⟨1, []⟩ else match L3 with
  | [] => .error 50
  | p :: _ => if 32 < (propsK p).length then .error 4 else .ok ⟨2, propsK p⟩
def findOf (x : Except Int NodeT) : Except Int FindT := match x with
  | .error e => .error e
  | .ok n => findT n
theorem one_count {n : NodeT} (h : countN n ≤ 4096) : countL [n] ≤ 5000 := by rw [countL, countL]; omega
set_option maxHeartbeats 32000000 in
set_option maxRecDepth 100000 in
set_option linter.unusedSimpArgs false in
theorem afind_any (body : List UInt8) (w : World) (hs : body.length ≤ 2 ^ 63 - 1) (hE : XEnv w) : Calls Tryz.prog 34 #[.string ⟨body.toArray⟩] w (FindV (askFind body) w) := by
  obtain ⟨ANS, hANS⟩ : ∃ A, A = askFind body := ⟨_, rfl⟩
  rw [← hANS]
  obtain ⟨E, hEE⟩ : ∃ E, E = FindV ANS w := ⟨_, rfl⟩
  rw [← hEE]
  have HEE := Lib.hid hEE
  have hb0 : Below w.heap.size w (w.alloc (.cells #[.int .i64 0, .slice none 0 0] 65 (0, 0))) := (Below.refl _ _).alloc (Nat.le_refl _) _
  have hr0 := heap_alloc_new w (.cells #[.int .i64 0, .slice none 0 0] 65 (0, 0))
  have HB0 := Lib.hid hb0
  have HR0 := Lib.hid hr0
  by_cases h0 : body = []
  · subst h0
    obtain rfl : ANS = .ok zeroF := hANS
    clear hEE hb0 hr0
    go_enter Tryz.func34, Tryz.ntmps34
    go_wp2_with (refine wpList_store_row rfl 65 _ _ rfl w.heap.size _ rfl rfl 65 _ HR0.out (by kernel_rfl) rfl (by simp [Value.oneCell']) ?_)
    obtain ⟨hb1, hr1⟩ := row_end HB0.out HR0.out (Nat.le_refl _) #[.int .i64 0, .slice none 0 0]
    refine bodyPost_ret (results_ct rfl _ _ _ _ _ _ _ rfl hr1 Tryz.underlying65 rfl (by kernel_rfl)) rfl ?_
    rw [HEE.out]
    exact ⟨hb1, none, 0, rfl, Tab.nil _ _ _⟩
  have e0 : (body == []) = false := beq_eq_false_iff_ne.2 h0
  have e1 : body.isEmpty = false := by cases body with | nil => exact absurd rfl h0 | cons => rfl
  have HRd := Lib.hid (aread_any body wFind (w.alloc (.cells #[.int .i64 0, .slice none 0 0] 65 (0, 0))) hs (hE.below hb0))
  have HA0 := Lib.hid (show ANS = findOf (askRead body wFind) by rw [hANS]; unfold askFind; rw [if_neg h0]; rfl)
  clear hANS hEE hb0 hr0 h0 hE
  rcases hx : askRead body wFind with k | n
  · have hk := askRead_err hx
    have HRd2 := Lib.hid (show Calls Tryz.prog 41 #[.string ⟨body.toArray⟩, .string ⟨wFind.toArray⟩] _ (NodesE (.error k) _) by have := HRd.out; rw [hx] at this; exact this)
    obtain rfl : ANS = .error k := by rw [HA0.out, hx]; rfl
    clear HRd HA0 hx
    rcases hk with rfl | rfl | rfl | rfl
    all_goals
      go_enter Tryz.func34, Tryz.ntmps34
      go_wp2_with fail
      refine HRd2.out.mono fun e w1 h => ?_
      obtain ⟨hb1, kA, kc, rfl⟩ := NodesE.err h
      have HB1 := Lib.hid (HB0.out.trans (hb1.mono HB0.out.size))
      have HR1 := Lib.hid ((hb1.block _ (xlt HR0.out)).trans HR0.out)
      clear hb1 h HRd2
      go_wp2_with (refine wpList_store_row rfl 65 _ _ rfl w.heap.size _ rfl rfl 65 _ HR1.out (by kernel_rfl) rfl (by simp [Value.oneCell']) ?_)
      obtain ⟨hb2, hr2⟩ := row_end HB1.out HR1.out (Nat.le_refl _) #[.int .i64 0, .slice none 0 0]
      refine bodyPost_ret (results_ct rfl _ _ _ _ _ _ _ rfl hr2 Tryz.underlying65 rfl (by kernel_rfl)) rfl ?_
      rw [HEE.out]
      exact ⟨hb2, none, 0, rfl, Tab.nil _ _ _⟩
  have HRd2 := Lib.hid (show Calls Tryz.prog 41 #[.string ⟨body.toArray⟩, .string ⟨wFind.toArray⟩] _ (NodesE (.ok [n]) _) by have := HRd.out; rw [hx] at this; exact this)
  have HA := Lib.hid (show ANS = findT n by rw [HA0.out, hx]; rfl)
  have hcn := one_count (good_count (parse_good (askRead_ok hx).1))
  have HF := Lib.hid (show ANS = findL (eachD [n] wAll) (eachD [n] wNames) (eachD [n] wProp) by rw [HA.out]; rfl)
  obtain ⟨L1, hL1⟩ : ∃ L, L = eachD [n] wAll := ⟨_, rfl⟩
  obtain ⟨L2, hL2⟩ : ∃ L, L = eachD [n] wNames := ⟨_, rfl⟩
  obtain ⟨L3, hL3⟩ : ∃ L, L = eachD [n] wProp := ⟨_, rfl⟩
  rw [← hL1, ← hL2, ← hL3] at HF
  have hl1 : L1.length ≤ 5000 := by have := eachD_len [n] wAll; rw [hL1]; omega
  have hl2 : L2.length ≤ 5000 := by have := eachD_len [n] wNames; rw [hL2]; omega
  have hl3 : L3.length ≤ 5000 := by have := eachD_len [n] wProp; rw [hL3]; omega
  have hkp : ∀ p, p ∈ L3 → p.kids.length ≤ 5000 := fun p hp => by
    rw [hL3] at hp
    unfold eachD at hp
    obtain ⟨m, hm, hp2⟩ := List.mem_flatMap.1 hp
    obtain rfl := List.mem_singleton.1 hm
    have h1 := len_mem_count _ _ (List.mem_filter.1 hp2 |>.1)
    have h2 := countN_kids m
    have h3 := kids_le p
    rw [countL, countL] at hcn
    omega
  have HKp := Lib.hid hkp
  have HE1 := Lib.hid (fun v w' (hv : Tab 5 (NodeP anyB) w' v [n]) => (show Calls Tryz.prog 43 #[v, .string ⟨wAll.toArray⟩] w' (NodesV anyB L1 w') by rw [hL1]; exact aeach_any anyB v [n] wAll w' hv hcn))
  have HE2 := Lib.hid (fun v w' (hv : Tab 5 (NodeP anyB) w' v [n]) => (show Calls Tryz.prog 43 #[v, .string ⟨wNames.toArray⟩] w' (NodesV anyB L2 w') by rw [hL2]; exact aeach_any anyB v [n] wNames w' hv hcn))
  have HE3 := Lib.hid (fun v w' (hv : Tab 5 (NodeP anyB) w' v [n]) => (show Calls Tryz.prog 43 #[v, .string ⟨wProp.toArray⟩] w' (NodesV anyB L3 w') by rw [hL3]; exact aeach_any anyB v [n] wProp w' hv hcn))
  clear HRd HA0 HA hx hcn hL1 hL2 hL3 hkp
  go_enter Tryz.func34, Tryz.ntmps34
  go_wp2_with fail
  refine HRd2.out.mono fun e w1 h => ?_
  obtain ⟨hb1, kA, kc, rfl, ht1⟩ := NodesE.one h
  have HB1 := Lib.hid (HB0.out.trans (hb1.mono HB0.out.size))
  have HR1 := Lib.hid ((hb1.block _ (xlt HR0.out)).trans HR0.out)
  have HT1 := Lib.hid ht1.1
  clear hb1 h HRd2 HB0 HR0 ht1
  go_wp2_with fail
  refine (HE1.out _ _ HT1.out).mono ?_
  rintro e w2 ⟨hb2, kA1, kc1, rfl, ht2⟩
  have HB2 := Lib.hid (HB1.out.trans (hb2.mono HB1.out.size))
  have HR2 := Lib.hid ((hb2.block _ (xlt HR1.out)).trans HR1.out)
  have HT2 := Lib.hid (tab_under HT1.out hb2)
  clear hb2 HB1 HR1 HT1 ht2 HE1
  go_wp2_with fail
  refine (HE2.out _ _ HT2.out).mono ?_
  rintro e w3 ⟨hb3, kA2, kc2, rfl, ht3⟩
  have HB3 := Lib.hid (HB2.out.trans (hb3.mono HB2.out.size))
  have HR3 := Lib.hid ((hb3.block _ (xlt HR2.out)).trans HR2.out)
  have HT3 := Lib.hid (tab_under HT2.out hb3)
  clear hb3 HB2 HR2 HT2 ht3 HE2
  go_wp2_with fail
  refine (HE3.out _ _ HT3.out).mono ?_
  rintro e w4 ⟨hb4, kA3, kc3, rfl, ht4⟩
  have HB4 := Lib.hid (HB3.out.trans (hb4.mono HB3.out.size))
  have HR4 := Lib.hid ((hb4.block _ (xlt HR3.out)).trans HR3.out)
  have HT4 := Lib.hid ht4.1
  clear hb4 HB3 HR3 HT3 ht4 HE3
  by_cases hsum : L1.length + L2.length + L3.length = 1
  rotate_left
  · have hi : ¬ ((L1.length : Int) + L2.length + L3.length = 1) := by omega
    obtain rfl : ANS = .error 50 := by rw [HF.out]; unfold findL; rw [if_pos hsum]
    clear HF HKp hsum
    go_wp2_with (refine wpList_store_row rfl 65 _ _ rfl w.heap.size _ rfl rfl 65 _ HR4.out (by kernel_rfl) rfl (by simp [Value.oneCell']) ?_)
    obtain ⟨hb5, hr5⟩ := row_end HB4.out HR4.out (Nat.le_refl _) #[.int .i64 0, .slice none 0 0]
    refine bodyPost_ret (results_ct rfl _ _ _ _ _ _ _ rfl hr5 Tryz.underlying65 rfl (by kernel_rfl)) rfl ?_
    rw [HEE.out]
    exact ⟨hb5, none, 0, rfl, Tab.nil _ _ _⟩
  have hi : (L1.length : Int) + L2.length + L3.length = 1 := by omega
  by_cases h1 : L1.length = 1
  · obtain rfl : ANS = .ok zeroF := by rw [HF.out]; unfold findL; rw [if_neg (by omega), if_pos h1]
    have i1 : (L1.length : Int) = 1 := by omega
    clear HF HKp
    go_wp2_with (refine wpList_store_row rfl 65 _ _ rfl w.heap.size _ rfl rfl 65 _ HR4.out (by kernel_rfl) rfl (by simp [Value.oneCell']) ?_)
    obtain ⟨hb5, hr5⟩ := row_end HB4.out HR4.out (Nat.le_refl _) #[.int .i64 0, .slice none 0 0]
    refine bodyPost_ret (results_ct rfl _ _ _ _ _ _ _ rfl hr5 Tryz.underlying65 rfl (by kernel_rfl)) rfl ?_
    rw [HEE.out]
    exact ⟨hb5, none, 0, rfl, Tab.nil _ _ _⟩
  have i1 : ¬ ((L1.length : Int) = 1) := by omega
  by_cases h2 : L2.length = 1
  · obtain rfl : ANS = .ok ⟨1, []⟩ := by rw [HF.out]; unfold findL; rw [if_neg (by omega), if_neg h1, if_pos h2]
    have i2 : (L2.length : Int) = 1 := by omega
    clear HF HKp
    go_wp2_with (refine wpList_store_row rfl 65 _ _ rfl w.heap.size _ rfl rfl 65 _ HR4.out (by kernel_rfl) rfl (by simp [Value.oneCell']) ?_)
    obtain ⟨hb5, hr5⟩ := row_end HB4.out HR4.out (Nat.le_refl _) #[.int .i64 1, .slice none 0 0]
    refine bodyPost_ret (results_ct rfl _ _ _ _ _ _ _ rfl hr5 Tryz.underlying65 rfl (by kernel_rfl)) rfl ?_
    rw [HEE.out]
    exact ⟨hb5, none, 0, rfl, Tab.nil _ _ _⟩
  have i2 : ¬ ((L2.length : Int) = 1) := by omega
  obtain ⟨p, rfl⟩ : ∃ p, L3 = [p] := by
    rcases L3 with _ | ⟨p, _ | ⟨p2, r⟩⟩
    · simp only [List.length_nil] at hsum; omega
    · exact ⟨p, rfl⟩
    · simp only [List.length_cons] at hsum; omega
  have HF2 := Lib.hid (show ANS = (if 32 < (propsK p).length then .error 4 else .ok ⟨2, propsK p⟩) by rw [HF.out]; unfold findL; rw [if_neg (by omega), if_neg h1, if_neg h2])
  have hkl := HKp.out p (by simp)
  obtain rfl : L1 = [] := List.eq_nil_of_length_eq_zero (by simp only [List.length_cons, List.length_nil] at hsum; omega)
  obtain rfl : L2 = [] := List.eq_nil_of_length_eq_zero (by simp only [List.length_cons, List.length_nil] at hsum; omega)
  have ht4' : Tab 5 (NodeP anyB) w4 (.slice kA3 1 kc3) [p] := HT4.out
  obtain ⟨-, hc1, hc2, hk⟩ := kid_atT ht4'
  obtain ⟨b1, o1, aA, ac, kA5, kc5, rfl, hbl1, -, -, -, -, e4, -, fk⟩ := hk 0 p rfl
  rw [Nat.zero_mul, Nat.add_zero] at e4
  obtain ⟨-, hkc, hkm, hkk⟩ := kid_at fk
  unfold maxLen at hkm hc2
  have HKK := Lib.hid hkk
  have hb5 : Below w4.heap.size w4 (w4.alloc (.cells #[.int .i64 2, .slice none 0 0] 65 (0, 0))) := (Below.refl _ _).alloc (Nat.le_refl _) _
  have hq5 := heap_alloc_new w4 (.cells #[.int .i64 2, .slice none 0 0] 65 (0, 0))
  have d4 := (hb5.cell (p := ⟨b1, o1 + 4, none⟩) hbl1).trans e4
  have hr5 := (hb5.block _ (xlt HR4.out)).trans HR4.out
  have hz5 : (w4.alloc (.cells #[.int .i64 2, .slice none 0 0] 65 (0, 0))).heap.size = w4.heap.size + 1 := World.size_alloc ..
  have HB5 := Lib.hid (HB4.out.trans (hb5.mono HB4.out.size))
  have hw4 := HB4.out.size
  have hrq : w.heap.size < w4.heap.size := xlt HR4.out
  have HD4 := Lib.hid d4
  have HFr := Lib.hid (⟨(Below.refl w4.heap.size w4).alloc (Nat.le_refl _) _, hq5⟩ : Below w4.heap.size w4 (w4.alloc (.cells #[.int .i64 2, .slice none 0 0] 65 (0, 0))) ∧ (w4.alloc (.cells #[.int .i64 2, .slice none 0 0] 65 (0, 0))).heap[w4.heap.size]? = some (.cells #[.int .i64 2, .slice none 0 0] 65 (0, 0)))
  obtain ⟨ANSN, hAN⟩ : ∃ A, A = propsK p := ⟨_, rfl⟩
  rw [← hAN] at HF2
  have HAN := Lib.hid (show (((p.kids.drop 0).filter fun k => !decide (k.name = [])).map (fun k => (⟨k.space, k.name⟩ : PropT))).foldl addP [] = ANSN by rw [hAN]; rfl)
  clear HF hk hkk e4 fk ht4' HT4 hsum hi h1 h2 i1 i2 hl3 HKp hb5 hq5 hr5 hz5 HB5 hAN hl1 hl2
  go_wp2_with fail
  go_loopg [58] p.kids.length (fun gk iv wr => ∃ (i : Nat) (names : List PropT) (v : Value), i + gk = p.kids.length ∧ iv = .int .i64 i ∧ names.length ≤ i ∧ Hid (wr.heap[w4.heap.size]? = some (.cells #[.int .i64 2, v] 65 (0, 0))) ∧ Hid (RowG 83 2 PropR (fun _ => False) (w4.heap.size + 1) wr v names) ∧ Hid (Below w4.heap.size w4 wr) ∧ Hid ((((p.kids.drop i).filter fun k => !decide (k.name = [])).map (fun k => (⟨k.space, k.name⟩ : PropT))).foldl addP names = ANSN))
  case atStart => exact ⟨0, [], .slice none 0 0, by omega, rfl, Nat.le_refl _, Lib.hid HFr.out.2, Lib.hid (RowG.nil _ _ _ _ _ _), Lib.hid HFr.out.1, HAN⟩
  case round =>
    obtain ⟨i, names, v, hig, rfl, hnl, HQ, HRow, HB, HAns⟩ := hrel
    clear d4 HFr HAN
    obtain ⟨A', c', hvf, hc1', hc2'⟩ := HRow.out.form
    unfold maxLen at hc2'
    subst hvf
    have y0 := xat HQ.out 0
    have y1 := xat HQ.out 1
    simp only [List.getElem?_toArray, List.getElem?_cons_zero, List.getElem?_cons_succ] at y0 y1
    rcases hd : p.kids.drop i with _ | ⟨x, rest⟩
    · have hi2 : i = p.kids.length := by have := drop_nil hd; omega
      subst hi2
      obtain rfl : names = ANSN := by have := HAns.out; rw [hd] at this; exact this
      have HRr := Lib.hid ((HB.out.block _ hrq).trans HR4.out)
      have HBw := Lib.hid (HB4.out.trans (HB.out.mono HB4.out.size))
      clear hd HAns HKK HD4
      by_cases h32 : 32 < names.length
      · have i32 : (32 : Int) < names.length := by omega
        obtain rfl : ANS = .error 4 := by rw [HF2.out, if_pos h32]
        go_wp2_with (refine wpList_store_row rfl 65 _ _ rfl w.heap.size _ rfl rfl 65 _ HRr.out (by kernel_rfl) rfl (by simp [Value.oneCell']) ?_)
        obtain ⟨hb5, hr5⟩ := row_end HBw.out HRr.out (Nat.le_refl _) #[.int .i64 0, .slice none 0 0]
        refine bodyPost_ret (results_ct rfl _ _ _ _ _ _ _ rfl hr5 Tryz.underlying65 rfl (by kernel_rfl)) rfl ?_
        rw [HEE.out]
        exact ⟨hb5, none, 0, rfl, Tab.nil _ _ _⟩
      · have i32 : ¬ (32 : Int) < names.length := by omega
        obtain rfl : ANS = .ok ⟨2, names⟩ := by rw [HF2.out, if_neg h32]
        go_wp2_with (refine wpList_store_row rfl 65 _ _ rfl w.heap.size _ rfl rfl 65 _ HRr.out (by kernel_rfl) rfl (by simp [Value.oneCell']) ?_)
        obtain ⟨hb5, hr5⟩ := row_end HBw.out HRr.out (Nat.le_refl _) #[.int .i64 2, .slice A' names.length c']
        have htab := (HRow.out.step mov_prop (grown_row wr w.heap.size #[.int .i64 2, .slice A' names.length c']) (fun h => h) (fun e => by have := (HRow.out.lt _ e).1; omega)).tab mov_prop
        refine bodyPost_ret (results_ct rfl _ _ _ _ _ _ _ rfl hr5 Tryz.underlying65 rfl (by kernel_rfl)) rfl ?_
        rw [HEE.out]
        exact ⟨hb5, A', c', rfl, htab⟩
    · obtain ⟨hlt, hx, hr⟩ := drop_consA hd
      obtain ⟨b2, o2, aA2, ac2, kA2, kc2, rfl, hbl2, e0, e1, e2, e3, e4, -, -⟩ := HKK.out i x hx
      have d0 := (HB.out.cell (p := ⟨b2, o2 + i * 5, none⟩) hbl2).trans e0
      have d1 := (HB.out.cell (p := ⟨b2, o2 + i * 5 + 1, none⟩) hbl2).trans e1
      have d2 := (HB.out.cell (p := ⟨b2, o2 + i * 5 + 2, none⟩) hbl2).trans e2
      have d3 := (HB.out.cell (p := ⟨b2, o2 + i * 5 + 3, none⟩) hbl2).trans e3
      have d4 := (HB.out.cell (p := ⟨b2, o2 + i * 5 + 4, none⟩) hbl2).trans e4
      have k1 : (i : Int) < p.kids.length := by omega
      have k2 : (0 : Int) ≤ i := by omega
      have HAns2 := Lib.hid (show (((x :: rest).filter fun k => !decide (k.name = [])).map (fun k => (⟨k.space, k.name⟩ : PropT))).foldl addP names = ANSN by rw [← hd]; exact HAns.out)
      have HRe := Lib.hid hr
      obtain ⟨hbb, ha, hb'⟩ := two_alloc wr (.cells #[.string ⟨x.text.toArray⟩, .string ⟨x.space.toArray⟩, .string ⟨x.name.toArray⟩, .slice aA2 x.attrs.length ac2, .slice kA2 x.kids.length kc2] 26 (0, 0)) (.cells #[.string ⟨x.space.toArray⟩, .string ⟨x.name.toArray⟩] 83 (0, 0))
      have z2 := xat ha 2
      simp only [List.getElem?_toArray, List.getElem?_cons_zero, List.getElem?_cons_succ] at z2
      have HBb := Lib.hid (HB.out.trans (hbb.mono HB.out.size))
      have HQb := Lib.hid ((hbb.block _ (xlt HQ.out)).trans HQ.out)
      have HRb := Lib.hid (HRow.out.under mov_prop hbb)
      have HPb := Lib.hid hb'
      have yb := xat HQb.out 1
      simp only [List.getElem?_toArray, List.getElem?_cons_zero, List.getElem?_cons_succ] at yb
      clear hd hx hr e0 e1 e2 e3 e4 HAns ha hb' hbb HQ HB HRow y0 y1
      by_cases hn : x.name = []
      · have HAns3 := Lib.hid (show (((p.kids.drop (i + 1)).filter fun k => !decide (k.name = [])).map (fun k => (⟨k.space, k.name⟩ : PropT))).foldl addP names = ANSN by
          have := HAns2.out
          rw [List.filter_cons, if_neg (by simp [hn])] at this
          rw [HRe.out]
          exact this)
        rw [hn] at z2
        clear HAns2 HRe
        have hnn : (x.name == []) = true := by rw [hn]; rfl
        have hne : x.name.isEmpty = true := by rw [hn]; rfl
        clear hn
        go_wp2
        go_roundg (gk - 1)
        case measure => omega
        case rel => exact ⟨i + 1, names, _, by omega, by go_num, by omega, HQb, HRb, HBb, HAns3⟩
      have hnn : (x.name == []) = false := beq_eq_false_iff_ne.2 hn
      have hne : x.name.isEmpty = false := by cases h : x.name with | nil => exact absurd h hn | cons => rfl
      have HAns3 := Lib.hid (show (((p.kids.drop (i + 1)).filter fun k => !decide (k.name = [])).map (fun k => (⟨k.space, k.name⟩ : PropT))).foldl addP (addP names ⟨x.space, x.name⟩) = ANSN by
        have := HAns2.out
        rw [List.filter_cons, if_pos (by simp [hn])] at this
        rw [HRe.out]
        exact this)
      have HCt := Lib.hid (pcontains_any _ names ⟨x.space, x.name⟩ _ (HRb.out.tab mov_prop))
      clear HAns2 HRe hn
      have p0 := xat HPb.out 0
      have p1 := xat HPb.out 1
      simp only [List.getElem?_toArray, List.getElem?_cons_zero, List.getElem?_cons_succ] at p0 p1
      go_wp2_with fail
      generalize (wr.alloc (.cells #[.string ⟨x.text.toArray⟩, .string ⟨x.space.toArray⟩, .string ⟨x.name.toArray⟩, .slice aA2 x.attrs.length ac2, .slice kA2 x.kids.length kc2] 26 (0, 0))).alloc (.cells #[.string ⟨x.space.toArray⟩, .string ⟨x.name.toArray⟩] 83 (0, 0)) = wb at *
      obtain ⟨qp, hqp⟩ : ∃ q, q = wr.heap.size + 1 := ⟨_, rfl⟩
      rw [← hqp] at HPb ⊢
      clear hqp d0 d1 d2 d3 d4 z2 yb p0 p1
      refine HCt.out.mono ?_
      rintro e wc ⟨rfl, hbc⟩
      have HBc := Lib.hid (HBb.out.trans (hbc.mono HBb.out.size))
      have HQc := Lib.hid ((hbc.block _ (xlt HQb.out)).trans HQb.out)
      have HPc := Lib.hid ((hbc.block _ (xlt HPb.out)).trans HPb.out)
      have HRc := Lib.hid (HRb.out.under mov_prop hbc)
      clear hbc HBb HQb HPb HRb HCt
      by_cases hin : (⟨x.space, x.name⟩ : PropT) ∈ names
      · have hdn : decide ((⟨x.space, x.name⟩ : PropT) ∈ names) = true := decide_eq_true hin
        have HAns4 := Lib.hid (show (((p.kids.drop (i + 1)).filter fun k => !decide (k.name = [])).map (fun k => (⟨k.space, k.name⟩ : PropT))).foldl addP names = ANSN by have := HAns3.out; unfold addP at this ⊢; rw [if_pos hin] at this; exact this)
        rw [hdn]
        clear hdn hin HAns3
        go_wp2
        go_roundg (gk - 1)
        case measure => omega
        case rel => exact ⟨i + 1, names, _, by omega, by go_num, by omega, HQc, HRc, HBc, HAns4⟩
      · have hdn : decide ((⟨x.space, x.name⟩ : PropT) ∈ names) = false := decide_eq_false hin
        have HAns4 := Lib.hid (show (((p.kids.drop (i + 1)).filter fun k => !decide (k.name = [])).map (fun k => (⟨k.space, k.name⟩ : PropT))).foldl addP (names ++ [⟨x.space, x.name⟩]) = ANSN by have := HAns3.out; unfold addP at this ⊢; rw [if_neg hin] at this; exact this)
        rw [hdn]
        have yc := xat HQc.out 1
        have p0 := xat HPc.out 0
        have p1 := xat HPc.out 1
        simp only [List.getElem?_toArray, List.getElem?_cons_zero, List.getElem?_cons_succ] at yc p0 p1
        have hBq : w4.heap.size + 1 ≤ wc.heap.size := xlt HQc.out
        clear hdn hin HAns3
        go_wp2_with (at_builtin; refine wpList_appG elemP mov_prop rfl _ _ rfl rfl HRc.out _ ⟨x.space, x.name⟩ rfl _ rfl rfl rfl (by simp [Value.oneCell']) (by omega) hBq ?_)
        intro v6 w6 hr6 hb6 hg6 hn6
        have hq6 : w6.heap[w4.heap.size]? = _ := (hg6.block _ (xlt HQc.out) (fun e => by have := (HRc.out.lt _ e.symm).1; omega)).trans HQc.out
        obtain ⟨A6, c6, hv6, -, -⟩ := hr6.form
        subst hv6
        have f1 := xfree hq6 1
        have g1 := xat hq6 1
        simp only [List.getElem?_toArray, List.getElem?_cons_zero, List.getElem?_cons_succ] at g1
        have HQ7 := Lib.hid (heap_setCell_same w6 w4.heap.size 1 _ _ (.slice A6 (names ++ [(⟨x.space, x.name⟩ : PropT)]).length c6) hq6)
        have HR7 := Lib.hid (hr6.step mov_prop (xgrown_cell w6 w4.heap.size 1 (.slice A6 (names ++ [(⟨x.space, x.name⟩ : PropT)]).length c6)) (fun h => h) (fun e => by have := (hr6.lt _ e).1; omega))
        have HB7 := Lib.hid ((HBc.out.trans (hb6.mono (by omega))).setCell (p := ⟨w4.heap.size, 1, none⟩) (Nat.le_refl _) (.slice A6 (names ++ [(⟨x.space, x.name⟩ : PropT)]).length c6))
        have hnl2 : (names ++ [(⟨x.space, x.name⟩ : PropT)]).length ≤ i + 1 := by simp only [List.length_append, List.length_cons, List.length_nil]; omega
        obtain ⟨N2, hN2⟩ : ∃ N, N = names ++ [(⟨x.space, x.name⟩ : PropT)] := ⟨_, rfl⟩
        rw [← hN2] at HQ7 HR7 HB7 HAns4 hnl2 ⊢
        clear hN2 hr6 hb6 hg6 hn6 hq6 yc p0 p1 HRc HQc HPc HBc
        go_wp2
        go_roundg (gk - 1)
        case measure => omega
        case rel => exact ⟨i + 1, N2, _, by omega, by go_num, hnl2, HQ7, HR7, HB7, HAns4⟩
end Go.Proofs.YtopogglcnnjdlaaGreatDoor
