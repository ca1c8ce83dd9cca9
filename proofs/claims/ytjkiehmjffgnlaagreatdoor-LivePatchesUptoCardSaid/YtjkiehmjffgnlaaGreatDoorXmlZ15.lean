import Derived.Test.YtjkiehmjffgnlaaGreatDoorXmlZ14
import Derived.Test.YtjkiehmjffgnlaaGreatDoorXmlZ9
import Derived.Test.YtjkiehmjffgnlaaGreatDoorXmlZ10
namespace Go.Proofs.YtjkiehmjffgnlaaGreatDoor
set_option linter.unusedVariables false
set_option linter.unusedSimpArgs false
open Go.RowKit

theorem tabZ : Tryz.zeroCells232 = (List.replicate 257 (Value.slice none 0 0)).toArray := by kernel_rfl
/-- the fresh table's cells, the row of letters laid into it. -/
noncomputable def tabC (v : Value) : List Value := Tryz.zeroCells232.toList.set 256 v
theorem rep_at (n c : Nat) (x : Value) (h : c < n) : (List.replicate n x)[c]? = some x := by
  rw [List.getElem?_replicate, if_pos h]
theorem tabZ_list : Tryz.zeroCells232.toList = List.replicate 257 (Value.slice none 0 0) := by rw [tabZ]
theorem tabC_len (v : Value) : (tabC v).length = 257 := by unfold tabC; rw [tabZ_list, List.length_set, List.length_replicate]
theorem tabC_at (v : Value) (c : Nat) (h : c < 256) : (tabC v)[c]? = some (.slice none 0 0) := by
  unfold tabC
  rw [tabZ_list, List.getElem?_set_ne (by omega)]
  exact rep_at _ _ _ (by omega)
theorem tabC_last (v : Value) : (tabC v)[256]? = some v := by
  unfold tabC
  rw [tabZ_list, List.getElem?_set_self (by rw [List.length_replicate]; omega)]
theorem tabC_one (v : Value) (hv : v.oneCell' = true) : ∀ u ∈ tabC v, u.oneCell' = true := by
  intro u hu
  unfold tabC at hu
  rw [tabZ_list] at hu
  rcases List.mem_or_eq_of_mem_set hu with h | h
  · rw [List.eq_of_mem_replicate h]; rfl
  · rw [h]; exact hv
theorem st_row (P : Program) (w : World) (Z : Array Value) (t : TypeId) (L : List Value) (hl : L.length = Z.size) (h1 : ∀ v ∈ L, v.oneCell' = true) : (storeCells ⟨w.heap.size, 0, none⟩ L).run P (w.alloc (.cells Z t)) = .ok () ((w.alloc (.cells Z t)).setRow w.heap.size L.toArray) := by
  rw [run_storeCells_at P w.heap.size 0 t L 0 Z _ (heap_alloc_new w _) (by omega) h1]
  have e : (Z.toList.take (0 + 0) ++ L ++ Z.toList.drop (0 + 0 + L.length)).toArray = L.toArray := by
    rw [List.drop_of_length_le (by rw [Array.length_toList]; omega)]
    simp
  rw [e]
theorem run_storeTab (w : World) (v : Value) (hv : v.oneCell' = true) : (storeCells ⟨w.heap.size, 0, none⟩ (tabC v)).run Tryz.prog (w.alloc (.cells Tryz.zeroCells232 232)) = .ok () ((w.alloc (.cells Tryz.zeroCells232 232)).setRow w.heap.size (tabC v).toArray) :=
  st_row _ w _ _ _ (by rw [tabC_len, ← Array.length_toList, tabZ_list, List.length_replicate]) (tabC_one v hv)
def bsP (B : Nat) (v : Value) (h : Nat) : Prop := B ≤ h ∧ some h ≠ v.ownBlock
def keyC (l : List UInt8) : List (List Value) := l.map fun c => [.string ⟨#[c]⟩]
structure BuS (B g : Nat) (ps : Pairs) (wr : World) (arr : Array Value) (v : Value) : Prop where
  tab : TbA (bsP B v) wr g ps arr v
  own : OwnT 9 1 B (keyC (ps.reverse.map (·.1))) v wr
  ne : some g ≠ v.ownBlock
theorem elemSN : ElemN Tryz.prog 31 9 1 (.string ⟨#[]⟩) 16 := ⟨Tryz.underlying31, by kernel_rfl, rfl, by omega, by omega⟩
theorem BuS.start {B : Nat} {w : World} {v : Value} (hB : B ≤ w.heap.size) (ho : w.ownsRow B 9 1 v 0 []) : BuS B w.heap.size [] ((w.alloc (.cells Tryz.zeroCells232 232)).setRow w.heap.size (tabC v).toArray) (tabC v).toArray v := by
  have hlt := World.ownsRow.lt ho
  have hg : w.grownBy ((w.alloc (.cells Tryz.zeroCells232 232)).setRow w.heap.size (tabC v).toArray) none := by
    refine ⟨rfl, rfl, rfl, by simp, fun k hk _ => ?_⟩
    exact (setRow_other _ _ k _ (by omega)).trans (heap_alloc_old w _ hk)
  refine ⟨⟨setRow_heap _ _ _ _ _ _ (heap_alloc_new w _), by simp [tabC_len], fun c => ?_, ?_⟩, ⟨ho.kept hg (by cases v.ownBlock <;> simp), fun r hr => by cases hr⟩, fun e => ?_⟩
  · show (tabC v).toArray[c.toNat]? = _
    rw [List.getElem?_toArray, tabC_at v _ c.toNat_lt]
  · rw [List.getElem?_toArray, tabC_last]
  · have := (hlt _ e.symm).2
    omega
theorem BuS.key {B g : Nat} {ps : Pairs} {wr w2 : World} {arr : Array Value} {v v' : Value} (h : BuS B g ps wr arr v) (hg : g < wr.heap.size) (o : UInt8) (ho : OwnT 9 1 B (keyC (ps.reverse.map (·.1)) ++ [[.string ⟨#[o]⟩]]) v' w2) (hgr : wr.grownBy w2 v.ownBlock) (hn : v'.ownBlock = v.ownBlock ∨ ∃ k, v'.ownBlock = some k ∧ wr.heap.size ≤ k) :
    TbA (bsP B v') (w2.setCell ⟨g, 256, none⟩ v') g ps (arr.setIfInBounds 256 v') v' ∧ OwnT 9 1 B (keyC (ps.reverse.map (·.1)) ++ [[.string ⟨#[o]⟩]]) v' (w2.setCell ⟨g, 256, none⟩ v') ∧ some g ≠ v'.ownBlock ∧ w2.cell? ⟨g, 256, none⟩ = some v ∧ w2.frozen? ⟨g, 256, none⟩ = false := by
  have key : ∀ k, some k ≠ v.ownBlock → k < wr.heap.size → some k ≠ v'.ownBlock := fun k hk hlt => by
    rcases hn with hn | ⟨j, hj, hjk⟩
    · rw [hn]; exact hk
    · rw [hj]; intro e; injection e with e; omega
  have hrow : w2.heap[g]? = some (.cells arr 232 (0, 0)) := (hgr.block g hg h.ne).trans h.tab.row
  have hm : Moves (bsP B v) (bsP B v') wr (w2.setCell ⟨g, 256, none⟩ v') → True := fun _ => trivial
  refine ⟨⟨heap_setCell_same w2 g 256 _ _ v' hrow, by simp [h.tab.size], fun c => ?_, ?_⟩, ho.grown (xgrown_cell w2 g 256 v') (fun k hk e => by injection e with e; subst e; exact key k h.ne hg hk.symm), key g h.ne hg, by rw [xat hrow]; exact h.tab.last, xfree hrow 256⟩
  · have hc := h.tab.cell c
    have hne : ¬ (256 : Nat) = c.toNat := by have := c.toNat_lt; omega
    rw [Array.getElem?_setIfInBounds_ne hne]
    unfold TbC at *
    cases hx : tblF ps c with
    | none => rw [hx] at hc; exact hc
    | some l =>
      rw [hx] at hc
      obtain ⟨k, cap, hv, h1, h2, hp, hne2, hb⟩ := hc
      refine ⟨k, cap, hv, h1, h2, ⟨hp.1, key k hp.2 hb.1⟩, hne2, hb.at (by simp; exact hgr.size) ?_⟩
      exact (heap_setCell_other w2 ⟨g, 256, none⟩ k v' hne2).trans (hgr.block k hb.1 hp.2)
  · rw [Array.getElem?_setIfInBounds_self_of_lt (by rw [h.tab.size]; decide)]
theorem BuS.word {B g : Nat} {ps : Pairs} {w2 w3 : World} {arr : Array Value} {v : Value} (p : UInt8 × List UInt8) (ht : TbA (bsP B v) w2 g ps arr v) (ho : OwnT 9 1 B (keyC (ps.reverse.map (·.1)) ++ [[.string ⟨#[p.1]⟩]]) v w2) (hne : some g ≠ v.ownBlock) (hg : g < w2.heap.size) (hB : B ≤ w2.heap.size)
    (hb : Below w2.heap.size w2 w3) (cap : Nat) (hc1 : p.2.length ≤ cap) (hc2 : cap ≤ maxLen) (hbw : BW w3 w2.heap.size p.2) :
    BuS B g (p :: ps) (w3.setCell ⟨g, p.1.toNat, none⟩ (.slice (some ⟨w2.heap.size, 0, none⟩) p.2.length cap)) (arr.setIfInBounds p.1.toNat (.slice (some ⟨w2.heap.size, 0, none⟩) p.2.length cap)) v := by
  have hrow : w3.heap[g]? = some (.cells arr 232 (0, 0)) := (hb.block g hg).trans ht.row
  have hp256 : p.1.toNat < 256 := p.1.toNat_lt
  have hset : ∀ k, k ≠ g → (w3.setCell ⟨g, p.1.toNat, none⟩ (.slice (some ⟨w2.heap.size, 0, none⟩) p.2.length cap)).heap[k]? = w3.heap[k]? := fun k hk => heap_setCell_other w3 ⟨g, p.1.toNat, none⟩ k _ hk
  refine ⟨⟨heap_setCell_same w3 g _ _ _ _ hrow, by simp [ht.size], fun c => ?_, ?_⟩, ?_, hne⟩
  · rw [tblF_cons]
    by_cases e : p.1 = c
    · subst e
      rw [if_pos rfl, Array.getElem?_setIfInBounds_self_of_lt (by rw [ht.size]; omega)]
      refine ⟨w2.heap.size, cap, rfl, hc1, hc2, ⟨hB, fun e => ?_⟩, by omega, hbw.at (by simp) (hset _ (by omega))⟩
      have := (ho.lt _ e.symm).2
      omega
    · rw [if_neg e, Array.getElem?_setIfInBounds_ne (fun h => e (UInt8.toNat_inj.1 h))]
      have hc := ht.cell c
      unfold TbC at *
      cases hx : tblF ps c with
      | none => rw [hx] at hc; exact hc
      | some l =>
        rw [hx] at hc
        obtain ⟨k, cap', hv, h1, h2, hp, hne2, hbk⟩ := hc
        exact ⟨k, cap', hv, h1, h2, hp, hne2, (hbk.below hb).at (by simp) (hset k hne2)⟩
  · rw [Array.getElem?_setIfInBounds_ne (by omega)]
    exact ht.last
  · have : keyC ((p :: ps).reverse.map (·.1)) = keyC (ps.reverse.map (·.1)) ++ [[.string ⟨#[p.1]⟩]] := by
      unfold keyC
      simp
    rw [this]
    exact (ho.below hb).grown (xgrown_cell w3 g _ _) (fun k hk e => by injection e with e; subst e; exact hne hk.symm)
theorem BuS.below {B g : Nat} {ps : Pairs} {wr w2 : World} {arr : Array Value} {v : Value} (h : BuS B g ps wr arr v) (hb : Below wr.heap.size wr w2) : BuS B g ps w2 arr v :=
  ⟨⟨(hb.block g (xlt h.tab.row)).trans h.tab.row, h.tab.size, fun c => (h.tab.cell c).move (Moves.below hb fun _ hk _ => hk), h.tab.last⟩, h.own.below hb, h.ne⟩
theorem BuS.done {B g : Nat} {ps : Pairs} {wr : World} {arr : Array Value} {v : Value} (h : BuS B g ps wr arr v) (hg : B ≤ g) : TbP (B ≤ ·) wr g ps := by
  refine ⟨hg, arr, v, ⟨h.tab.row, h.tab.size, fun c => (h.tab.cell c).move (Moves.same wr fun k hk _ => hk.1), h.tab.last⟩, ?_⟩
  have hlt := h.own.lt
  have hlen : (keyC (ps.reverse.map (·.1))).length = (ps.reverse.map (·.1)).length := by unfold keyC; simp
  obtain ⟨A, cap, hv, h1, h2, hc⟩ := h.own.tab (R := fun _ cs (c : UInt8) => cs = [.string ⟨#[c]⟩]) (xs := ps.reverse.map (·.1)) hlen (fun j x r hx hr => by
    unfold keyC at hr
    rw [List.getElem?_map, hx] at hr
    injection hr with hr
    exact hr.symm)
  refine ⟨A, cap, hv, h1, h2, fun j c hj => ?_⟩
  obtain ⟨k, o, hA, hk, cs, hl, hcell, hr⟩ := hc j c hj
  subst hr
  have := hcell 0 _ rfl
  rw [Nat.mul_one, Nat.add_zero] at this
  exact ⟨k, o, hA, (hlt k (by rw [hv, hA]; rfl)).1, hk, this⟩
set_option maxHeartbeats 8000000 in
set_option maxRecDepth 100000 in
set_option linter.unusedSimpArgs false in
theorem xbuild_words (ps : Pairs) (hps : WideP ps) (b q cap : Nat) (w : World) (hs : w.cell? ⟨b, 4, none⟩ = some (.slice (some ⟨q, 0, none⟩) (2 * ps.length) cap)) (hcap : 2 * ps.length ≤ cap ∧ cap ≤ maxLen) (hw : WdP (fun _ => True) w q ps) :
    Calls Tryz.prog 142 #[.pointer (some ⟨b, 0, none⟩)] w (fun e w' => ∃ g, e = .returned (.iface 233 (.pointer (some ⟨g, 0, none⟩))) ∧ w.heap.size ≤ g ∧ Below w.heap.size w w' ∧ TbP (w.heap.size ≤ ·) w' g ps) := by
  obtain ⟨E, hEE⟩ : ∃ E : Ending → World → Prop, E = (fun e w' => ∃ g, e = .returned (.iface 233 (.pointer (some ⟨g, 0, none⟩))) ∧ w.heap.size ≤ g ∧ Below w.heap.size w w' ∧ TbP (w.heap.size ≤ ·) w' g ps) := ⟨_, rfl⟩
  rw [← hEE]
  have HEE := Lib.hid hEE
  clear hEE
  have hlo := hps.many
  have hhi := hps.good.few
  obtain ⟨-, hqlt, hcl⟩ := hw
  have HCL := Lib.hid hcl
  have HPS := Lib.hid hps
  obtain ⟨N, hN⟩ : ∃ N, N = ps.length := ⟨_, rfl⟩
  rw [← hN] at hs hcap hlo hhi
  have HN := Lib.hid hN
  clear hcl hps hN
  have hN2 : ((2 * N : Nat) : Int) = 2 * (N : Int) := by omega
  have hne2 : (2 * (N : Int) == 2) = false := by rw [beq_eq_false_iff_ne]; omega
  go_enter Tryz.func142, Tryz.ntmps142
  go_wp2
  go_loop [4, 5] (fun a i => ∃ k : Nat, k ≤ N ∧ a = .bool (decide (k = 0)) ∧ i = .int .i64 (2 * (k : Int))) (fun _ i => 2 * N - (intOf i).toNat)
  case atStart => exact ⟨0, by omega, rfl, rfl⟩
  case round =>
    obtain ⟨k, hk, rfl, rfl⟩ := hrel
    by_cases hkn : k < N
    · obtain ⟨p, hp⟩ : ∃ p, ps[k]? = some p := ⟨_, List.getElem?_eq_getElem (by rw [← HN.out]; exact hkn)⟩
      obtain ⟨c0, c1⟩ := HCL.out k p hp
      have h2 := HPS.out.two p (List.mem_of_getElem? hp)
      have hn1 : ((p.2.length : Int) != 1) = true := by rw [bne_iff_ne]; omega
      have hi1 : 2 * (k : Int) < 2 * (N : Int) := by omega
      have hi2 : (2 * (k : Int)).toNat = 2 * k := by omega
      have hi3 : (2 * (k : Int) + 1).toNat = 2 * k + 1 := by omega
      clear hp
      go_wp2
      go_round
      case rel => exact ⟨k + 1, by omega, by simp, by go_num⟩
      case measure => simp [intOf]; omega
    · have hk2 : k = N := by omega
      subst hk2
      have hk0 : decide (k = 0) = false := decide_eq_false (by omega)
      rw [hk0]
      clear hkn
      go_upto_region 26 with (fail)
      obtain ⟨i, hi, hz, hsz, hby⟩ := info_parts elemS.info
      obtain ⟨wm, hms, hown, hgm⟩ := run_make_own (P := Tryz.prog) w w.heap.size 31 9 i _ 1 Tryz.underlying31 hi hz hsz .i64 .i64 k (by rw [hby]; omega) (by unfold maxLen; omega) (Nat.le_refl _)
      clear hi hz hsz hby i
      have HBm := Lib.hid (show Below w.heap.size w wm from ⟨hgm.os, hgm.tape, hgm.output, hgm.size, fun j hj => hgm.block j hj (by simp)⟩)
      have HOm := Lib.hid hown
      clear hown hgm
      have hst := run_storeTab wm (.slice (some ⟨w.heap.size, 0, none⟩) 0 k) rfl
      have HB0 := Lib.hid (BuS.start (B := w.heap.size) (v := .slice (some ⟨w.heap.size, 0, none⟩) 0 k) HBm.out.size HOm.out)
      have hbz : Below w.heap.size w ((wm.alloc (.cells Tryz.zeroCells232 232)).setRow wm.heap.size (tabC (.slice (some ⟨w.heap.size, 0, none⟩) 0 k)).toArray) := by
        have h1 := HBm.out.alloc HBm.out.size (.cells Tryz.zeroCells232 232)
        have h2 := grown_row (wm.alloc (.cells Tryz.zeroCells232 232)) wm.heap.size (tabC (.slice (some ⟨w.heap.size, 0, none⟩) 0 k)).toArray
        exact h1.trans ⟨h2.os, h2.tape, h2.output, h2.size, fun j hj => h2.block j (Nat.lt_of_lt_of_le hj h1.size) (by intro e; injection e with e; have := HBm.out.size; omega)⟩
      have HBz := Lib.hid hbz
      have hgm := HBm.out.size
      unfold tabC at hst
      clear hbz HOm HBm
      go_upto_region 27 with (fail)
      have HB4 := Lib.hid (show BuS w.heap.size wm.heap.size [] ((wm.alloc (.cells Tryz.zeroCells232 232)).setRow wm.heap.size (Tryz.zeroCells232.toList.set 256 (Value.slice (some { block := w.heap.size, off := 0 }) 0 k)).toArray) _ _ from HB0.out)
      have HBw := Lib.hid (show Below w.heap.size w ((wm.alloc (.cells Tryz.zeroCells232 232)).setRow wm.heap.size (Tryz.zeroCells232.toList.set 256 (Value.slice (some { block := w.heap.size, off := 0 }) 0 k)).toArray) from HBz.out)
      clear hst HB0 HBz hms
      generalize (wm.alloc (.cells Tryz.zeroCells232 232)).setRow wm.heap.size (Tryz.zeroCells232.toList.set 256 (Value.slice (some { block := w.heap.size, off := 0 }) 0 k)).toArray = w4 at *
      generalize (tabC (.slice (some ⟨w.heap.size, 0, none⟩) 0 k)).toArray = arr4 at *
      generalize wm.heap.size = g at *
      have hdn : ps.drop k = [] := List.drop_of_length_le (by rw [← HN.out]; exact Nat.le_refl _)
      have hn1 : ∀ w : World, (binOp .eql 116 (.slice none 0 0) (.slice none 0 0)).run Tryz.prog w = .ok (.bool true) w := fun w => Lib.run_eql_slice_nil w 116 _ none 0 0 0 0 Tryz.underlying116
      obtain ⟨B, hB⟩ : ∃ B, B = w.heap.size := ⟨_, rfl⟩
      rw [← hB] at HB4 HBw HEE hgm
      have hqB : q < B := by rw [hB]; exact hqlt
      have hBw : B ≤ w.heap.size := Nat.le_of_eq hB
      clear hB hqlt
      go_wp2_with fail
      go_loopg [12] k (fun m i wr => ∃ (arr : Array Value) (v : Value), m ≤ k ∧ i = .int .i64 (2 * (m : Int) - 2) ∧ Hid (BuS B g (ps.drop m) wr arr v) ∧ Hid (Below B w wr))
      case atStart => exact ⟨_, _, Nat.le_refl _, rfl, by rw [hdn]; exact HB4, HBw⟩
      case round =>
        obtain ⟨arr, v, hmk, rfl, HS, HBr⟩ := hrel
        clear HB4 HBw hdn
        rcases Nat.eq_zero_or_pos gk with hm0 | hm0
        · subst hm0
          have HD := Lib.hid (show TbP (B ≤ ·) wr g ps from HS.out.done hgm)
          clear HS
          go_wp2
          rw [HEE.out]
          exact ⟨g, rfl, hgm, HBr.out, HD.out⟩
        · obtain ⟨j, rfl⟩ : ∃ j, gk = j + 1 := ⟨gk - 1, by omega⟩
          have hjl : j < ps.length := by rw [← HN.out]; omega
          obtain ⟨p, hp⟩ : ∃ p, ps[j]? = some p := ⟨_, List.getElem?_eq_getElem hjl⟩
          obtain ⟨hc0, hc1⟩ := HCL.out j p hp
          have c0 := (HBr.out.cell (p := ⟨q, 2 * j, none⟩) hqB).trans hc0
          have c1 := (HBr.out.cell (p := ⟨q, 2 * j + 1, none⟩) hqB).trans hc1
          have hdr : ps.drop j = p :: ps.drop (j + 1) := by rw [List.drop_eq_getElem_cons hjl]; rw [List.getElem?_eq_getElem hjl] at hp; injection hp with hp; rw [hp]
          have hgd : GoodQ (ps.drop j) := by
            have h := HPS.out.good
            refine ⟨?_, fun x hx => h.pos x (List.mem_of_mem_drop hx), by rw [List.length_drop]; have := h.few; omega⟩
            rw [List.map_drop]
            exact h.nodup.sublist (List.drop_sublist _ _)
          have hnt : tblF (ps.drop (j + 1)) p.1 = none := by rw [hdr] at hgd; exact hgd.head
          have hpl := (HPS.out.good.pos p (List.mem_of_getElem? hp)).2
          have HDR := Lib.hid hdr
          obtain ⟨o, n⟩ := p
          replace hpl : n.length ≤ 6 := hpl
          replace c0 : wr.cell? ⟨q, 2 * j, none⟩ = some (.string ⟨#[o]⟩) := c0
          replace c1 : wr.cell? ⟨q, 2 * j + 1, none⟩ = some (.string ⟨n.toArray⟩) := c1
          replace hnt : tblF (ps.drop (j + 1)) o = none := hnt
          have hoc := HS.out.tab.cell o
          rw [hnt] at hoc
          have xo : wr.cell? ⟨g, o.toNat, none⟩ = some (.slice none 0 0) := (xat HS.out.tab.row o.toNat).trans hoc
          have x256 : wr.cell? ⟨g, 256, none⟩ = some v := (xat HS.out.tab.row 256).trans HS.out.tab.last
          have ho256 : o.toNat < 256 := o.toNat_lt
          have hi0 : (0 : Int) ≤ 2 * ((j : Int) + 1) - 2 := by omega
          have hi1 : 2 * ((j : Int) + 1) - 2 = 2 * (j : Int) := by omega
          have hi2 : (2 * (j : Int)).toNat = 2 * j := by omega
          have hi3 : (2 * (j : Int) + 1).toNat = 2 * j + 1 := by omega
          have hi4 : 2 * (j : Int) < 2 * (k : Int) := by omega
          have hi5 : 2 * (j : Int) + 1 < 2 * (k : Int) := by omega
          have hx0 : ∀ hk, (⟨#[o]⟩ : ByteArray)[0]'hk = o := fun hk => rfl
          have hgl : g < wr.heap.size := xlt HS.out.tab.row
          have hBr : B ≤ wr.heap.size := by omega
          clear hc0 hc1 hp hdr hgd hnt hoc hjl
          go_upto_region 33 with (fail)
          obtain ⟨RW, hRW⟩ : ∃ RW, RW = keyC ((ps.drop (j + 1)).reverse.map (·.1)) := ⟨_, rfl⟩
          have hown : OwnT 9 1 B RW v wr := by rw [hRW]; exact HS.out.own
          obtain ⟨vA, vc, rfl⟩ := ownT_form hown
          have hbu : Below wr.heap.size wr (wr.alloc (.cells #[.int .u8 o.toNat] 5 (0, 0))) := (Below.refl _ _).alloc (Nat.le_refl _) _
          have HSu := Lib.hid (HS.out.below hbu)
          have hBW := BW.lit wr [o]
          have hcv := conv_bytes (wr.alloc (.cells #[.int .u8 o.toNat] 5 (0, 0))) (.slice (some ⟨wr.heap.size, 0, none⟩) 1 1) [o] (hBW.rd 1 (Nat.le_refl _) (by unfold maxLen; omega))
          have HBu := Lib.hid (HBr.out.trans (hbu.mono hBr))
          have hgu : g < (wr.alloc (.cells #[.int .u8 o.toNat] 5 (0, 0))).heap.size := Nat.lt_of_lt_of_le hgl hbu.size
          have hBu : B ≤ (wr.alloc (.cells #[.int .u8 o.toNat] 5 (0, 0))).heap.size := Nat.le_trans hBr hbu.size
          have x256u : (wr.alloc (.cells #[.int .u8 o.toNat] 5 (0, 0))).cell? ⟨g, 256, none⟩ = some _ := (xat HSu.out.tab.row 256).trans HSu.out.tab.last
          have HOW := Lib.hid (hown.below hbu)
          have HBD := Lib.hid (show (RW.length + 1) * 16 ≤ 140737488355328 by
            rw [hRW]
            unfold keyC
            simp only [List.length_map, List.length_reverse, List.length_drop]
            have := HN.out
            omega)
          have hone : ∀ u ∈ (#[.string ⟨#[o]⟩] : Array Value).toList, u.oneCell' = true := by
            intro u hu
            rw [List.mem_singleton.1 hu]
            rfl
          have HONE := Lib.hid hone
          have HSZ := Lib.hid (show wr.heap.size + 1 = (wr.alloc (.cells #[.int .u8 o.toNat] 5 (0, 0))).heap.size by simp)
          have HRW := Lib.hid hRW
          clear hBW hbu hone HS HBr xo c0 hown hRW x256u
          go_wp2_with (at_builtin; refine wpList_appRec elemSN rfl (.tmp 119) (.tmp 123) rfl B RW #[.string ⟨#[o]⟩] _ rfl HOW.out (wr.heap.size + 1) HSZ.out rfl rfl HONE.out HBD.out hBu ?_)
          intro v' w5 ho' hb' hg' hn'
          have hn2 : v'.ownBlock = (Value.slice vA RW.length vc).ownBlock ∨ ∃ k, v'.ownBlock = some k ∧ (wr.alloc (.cells #[.int .u8 o.toNat] 5 (0, 0))).heap.size ≤ k := by rw [← HSZ.out]; exact hn'
          obtain ⟨vA', vc', hv0⟩ := ownT_form ho'
          have hv' : v' = .slice vA' (RW.length + 1) vc' := by rw [hv0, List.length_append]; rfl
          clear hv0
          rw [HRW.out] at ho'
          obtain ⟨hta, hoa, hne, hc256, hf256⟩ := HSu.out.key hgu o ho' hg' hn2
          have hb5 : Below B w w5 → True := fun _ => trivial
          have HB5 := Lib.hid ((HBu.out.trans hb').setCell (p := ⟨g, 256, none⟩) hgm v')
          have hsz5 : (wr.alloc (.cells #[.int .u8 o.toNat] 5 (0, 0))).heap.size ≤ (w5.setCell ⟨g, 256, none⟩ v').heap.size := by simp; exact Nat.le_trans (by simp) hb'.size
          have hB5 : B ≤ (w5.setCell ⟨g, 256, none⟩ v').heap.size := Nat.le_trans hBu hsz5
          have hg5 : g < (w5.setCell ⟨g, 256, none⟩ v').heap.size := Nat.lt_of_lt_of_le hgu hsz5
          have HTA := Lib.hid hta
          have HOA := Lib.hid hoa
          have HNE := Lib.hid hne
          subst hv'
          clear ho' hb' hg' hn' hn2 hta hoa hne hb5 HSu HBu HOW HBD HSZ x256 hcv
          go_upto_region 34 with (fail)
          generalize w5.setCell ⟨g, 256, none⟩ (.slice vA' (RW.length + 1) vc') = w6 at *
          clear hc256 hf256
          have hcv := conv_string w6 n
          have hbb := bytes_below w6 n
          have hbw := bytes_bw w6 n
          have hcap1 := grownCap_ge w6 n.length 0 5
          have hcap2 := grownCap_le_maxLen w6 n.length 0 5 (by unfold maxLen; omega)
          have HBw6 := Lib.hid (HB5.out.trans (hbb.mono (by omega)))
          have xo6 : (Lib.bytesWorld w6 5 ⟨n.toArray⟩).cell? ⟨g, o.toNat, none⟩ ≠ none := by
            rw [xat ((hbb.block g hg5).trans HTA.out.row)]
            intro h
            rw [Array.getElem?_eq_none_iff, HTA.out.size] at h
            omega
          obtain ⟨xv, hxv⟩ := Option.ne_none_iff_exists'.1 xo6
          have xf6 := xfree ((hbb.block g hg5).trans HTA.out.row) o.toNat
          have HW := Lib.hid (BuS.word (o, n) HTA.out HOA.out HNE.out hg5 (by omega) hbb _ hcap1 hcap2 hbw)
          clear xo6 hbb hbw hcap1 hcap2 HB5 HTA HOA HNE
          generalize grownCap w6 n.length 0 5 = nc at *
          generalize Lib.bytesWorld w6 5 ⟨n.toArray⟩ = w7 at *
          have HW2 := Lib.hid (show BuS B g (ps.drop j) (w7.setCell ⟨g, o.toNat, none⟩ (.slice (some ⟨w6.heap.size, 0, none⟩) n.length nc)) _ _ by rw [HDR.out]; exact HW.out)
          have HB7 := Lib.hid (HBw6.out.setCell (p := ⟨g, o.toNat, none⟩) hgm (.slice (some ⟨w6.heap.size, 0, none⟩) n.length nc))
          clear HW HBw6
          go_wp2
          go_roundg j
          case measure => omega
          case rel => exact ⟨_, _, by omega, by go_num, HW2, HB7⟩
end Go.Proofs.YtjkiehmjffgnlaaGreatDoor
namespace Go.Proofs.YtjkiehmjffgnlaaGreatDoor
set_option linter.unusedVariables false
set_option linter.unusedSimpArgs false
open Go.RowKit

def bxCs (d0 d1 : Value) (g : Nat) : Array Value := #[d0, d1, .int .u32 0, .iface 233 (.pointer (some ⟨g, 0, none⟩)), .slice none 0 0]
def FW (w : World) (b : Nat) (ps : Pairs) (w2 : World) : Prop := w.grownBy w2 (some b) ∧ ∃ g, w2.heap[b]? = some (.cells (bxCs (.int .u32 0) (.int .i32 1) g) 163 (0, 0)) ∧ TbP (w.heap.size ≤ ·) w2 g ps
set_option maxHeartbeats 1600000 in
set_option maxRecDepth 100000 in
set_option linter.unusedSimpArgs false in
theorem xbuildOnceW (ps : Pairs) (hps : WideP ps) (b q cap : Nat) (w : World) (hb : w.heap[b]? = some (.cells #[.int .u32 0, .int .i32 1, .int .u32 0, .nilIface, .slice (some ⟨q, 0, none⟩) (2 * ps.length) cap] 163 (0, 0))) (hcap : 2 * ps.length ≤ cap ∧ cap ≤ maxLen) (hw : WdP (fun _ => True) w q ps) :
    Calls Tryz.prog 120 #[.pointer (some ⟨b, 0, none⟩)] w (OnceF b (FW w b ps)) := by
  have HBu := Lib.hid (xbuild_words ps hps b q cap w (xat hb 4) hcap hw)
  have HB := Lib.hid hb
  have hlt : b < w.heap.size := xlt hb
  obtain ⟨E, hEE⟩ : ∃ E, E = OnceF b (FW w b ps) := ⟨_, rfl⟩
  rw [← hEE]
  have HEE := Lib.hid hEE
  clear hEE hb hw
  go_enter Tryz.func120, Tryz.ntmps120
  go_wp2_with fail
  refine HBu.out.mono ?_
  rintro e wb ⟨g, rfl, hg, hbl, htb⟩
  have hbb := (hbl.block b hlt).trans HB.out
  have e3 := xat hbb 3
  have f3 := xfree hbb 3
  have e4 := xat hbb 4
  have f4 := xfree hbb 4
  simp only [List.getElem?_toArray, List.getElem?_cons_zero, List.getElem?_cons_succ] at e3 e4
  have HBB := Lib.hid hbb
  have HBL := Lib.hid hbl
  have HTB := Lib.hid htb
  clear hbb hbl htb HBu
  go_wp2
  go_end0
  rw [HEE.out]
  have h1 : ((wb.setCell ⟨b, 3, none⟩ (.iface 233 (.pointer (some ⟨g, 0, none⟩)))).setCell ⟨b, 4, none⟩ (.slice none 0 0)).heap[b]? = some (.cells (bxCs (.int .u32 0) (.int .i32 1) g) 163 (0, 0)) :=
    heap_setCell_same _ b 4 _ _ _ (heap_setCell_same wb b 3 _ _ _ HBB.out)
  have hgr : wb.grownBy ((wb.setCell ⟨b, 3, none⟩ (.iface 233 (.pointer (some ⟨g, 0, none⟩)))).setCell ⟨b, 4, none⟩ (.slice none 0 0)) (some b) := grown_trans (xgrown_cell wb b 3 _) (xgrown_cell _ b 4 _)
  refine ⟨rfl, xat h1 0, xat h1 1, xfree h1 0, xfree h1 1, grown_trans (Below.toGrown HBL.out (some b)) hgr, g, h1, ?_⟩
  exact HTB.out.move (Moves.grown hgr fun k hk _ => ⟨hk, by intro e; injection e with e; omega⟩)
def Bt (P : Nat → Prop) (w : World) (b : Nat) (ps : Pairs) : Prop := P b ∧ ∃ g, w.heap[b]? = some (.cells (bxCs (.int .u32 1) (.int .i32 0) g) 163 (0, 0)) ∧ g ≠ b ∧ TbP P w g ps
theorem Bt.box {P : Nat → Prop} {w : World} {b : Nat} {ps : Pairs} (h : Bt P w b ps) : BxP P w b ps := ⟨h.1, .inr h.2⟩
theorem Bt.move {P Q : Nat → Prop} {w w' : World} {b : Nat} {ps : Pairs} (h : Bt P w b ps) (m : Moves P Q w w') : Bt Q w' b ps := by
  obtain ⟨hp, g, hb, hne, ht⟩ := h
  obtain ⟨m1, m2⟩ := m.block b hp (xlt hb)
  exact ⟨m1, g, m2.trans hb, hne, ht.move m⟩
def orNew (P : Nat → Prop) (w : World) (k : Nat) : Prop := P k ∨ w.heap.size ≤ k
def DoP (P : Nat → Prop) (b : Nat) (ps : Pairs) (w : World) (e : Ending) (w' : World) : Prop := e = .returned (.tuple #[]) ∧ w.grownBy w' (some b) ∧ Bt (orNew P w) w' b ps
set_option maxHeartbeats 1600000 in
set_option maxRecDepth 100000 in
set_option linter.unusedSimpArgs false in
theorem once_did (b : Nat) (fv : Value) (w : World) (h0 : w.cell? ⟨b, 0, none⟩ = some (.int .u32 1)) : Calls Tryz.prog 119 #[.pointer (some ⟨b, 0, none⟩), fv] w (Same0 (.tuple #[]) w) := by
  have HLo := Lib.hid (sy_load ⟨b, 0, none⟩ 1 w h0)
  have hnot : ∀ (x : Bool) (w : World), (Op.unary .not (.bool x)).run Tryz.prog w = .ok (.bool (!x)) w := fun _ _ => rfl
  go_enter Tryz.func119, Tryz.ntmps119
  go_wp2_with (go_at_call 140; refine HLo.out.mono ?_; rintro e w' ⟨rfl, rfl⟩)
  go_end0
  exact ⟨rfl, rfl⟩
theorem once_words (P : Nat → Prop) (ps : Pairs) (hps : WideP ps) (b : Nat) (w : World) (h : BxP P w b ps) :
    Calls Tryz.prog 119 #[.pointer (some ⟨b, 0, none⟩), .func (.func 120) #[.pointer (some ⟨b, 0, none⟩)] #[]] w (DoP P b ps w) := by
  obtain ⟨hp, h⟩ := h
  rcases h with ⟨q, cap, hb, h1, h2, hne, hw⟩ | ⟨g, hb, hne, ht⟩
  · have hb1 : (w.setCell ⟨b, 1, none⟩ (.int .i32 1)).heap[b]? = some (.cells #[.int .u32 0, .int .i32 1, .int .u32 0, .nilIface, .slice (some ⟨q, 0, none⟩) (2 * ps.length) cap] 163 (0, 0)) := heap_setCell_same w b 1 _ _ _ hb
    have hg1 := xgrown_cell w b 1 (.int .i32 1)
    have hw1 : WdP (fun _ => True) (w.setCell ⟨b, 1, none⟩ (.int .i32 1)) q ps := by
      obtain ⟨-, w2, w3⟩ := hw
      have e : (w.setCell ⟨b, 1, none⟩ (.int .i32 1)).heap[q]? = w.heap[q]? := heap_setCell_other w ⟨b, 1, none⟩ q _ hne
      exact ⟨trivial, by simp; exact w2, fun j p hj => ⟨(cell_eq e _).trans (w3 j p hj).1, (cell_eq e _).trans (w3 j p hj).2⟩⟩
    refine (once_do b _ w (xat hb 0) (xat hb 1) (xfree hb 0) (xfree hb 1) (Lib.hid (xbuildOnceW ps hps b q cap _ hb1 ⟨h1, h2⟩ hw1))).mono ?_
    rintro e w' ⟨rfl, w2, ⟨hg2, g, hb2, htb⟩, rfl⟩
    have hb3 : ((w2.drew.setCell ⟨b, 0, none⟩ (.int .u32 1)).setCell ⟨b, 1, none⟩ (.int .i32 0)).heap[b]? = some (.cells (bxCs (.int .u32 1) (.int .i32 0) g) 163 (0, 0)) :=
      heap_setCell_same _ b 1 _ _ _ (heap_setCell_same w2.drew b 0 _ _ _ hb2)
    have hg3 : w2.grownBy ((w2.drew.setCell ⟨b, 0, none⟩ (.int .u32 1)).setCell ⟨b, 1, none⟩ (.int .i32 0)) (some b) := grown_trans (grown_trans (xgrown_draws (World.grownBy.refl w2 (some b)) 1) (xgrown_cell w2.drew b 0 _)) (xgrown_cell _ b 1 _)
    have hbl : b < w.heap.size := xlt hb
    have hz : (w.setCell ⟨b, 1, none⟩ (.int .i32 1)).heap.size = w.heap.size := by simp
    rw [hz] at htb
    refine ⟨rfl, grown_trans hg1 (grown_trans hg2 hg3), .inl hp, g, hb3, by have := htb.1; omega, htb.move (Moves.grown hg3 fun k hk _ => ⟨.inr hk, by intro e; injection e with e; omega⟩)⟩
  · refine (once_did b _ w (xat hb 0)).mono ?_
    rintro e w' ⟨rfl, rfl⟩
    exact ⟨rfl, World.grownBy.refl _ _, .inl hp, g, hb, hne, ht.move (Moves.same w fun k hk _ => .inl hk)⟩
end Go.Proofs.YtjkiehmjffgnlaaGreatDoor
