import Derived.Test.YtjkiehmjffgnlaaGreatDoorXmlZ50
import Derived.Test.YtjkiehmjffgnlaaGreatDoorXmlZ44
import Derived.Test.YtjkiehmjffgnlaaGreatDoorXmlZ49
import Derived.Lib.ItoaLen
import Derived.IntWalk
import Derived.Deep.RegionHeld3
namespace Go.Proofs.YtjkiehmjffgnlaaGreatDoor
set_option linter.unusedVariables false
set_option linter.unusedSimpArgs false
open Go.RowKit

section
variable {P : Program} {e : TypeId} {n B : Nat} {rows : List (List Value)} {v : Value} {w w' : World}
/-- a row of two cells is stored, cell by cell. -/
theorem stores_two (P : Program) (h : OwnT e 2 B rows v w) {g j : Nat} (hv : v.ownBlock = some g) (hj : j < rows.length) (f0 f1 : Value) (h1 : ∀ u ∈ [f0, f1], u.oneCell' = true) :
    ∃ W1 W2, (store ⟨g, j * 2, none⟩ f0).run P w = .ok () W1 ∧ (store ⟨g, j * 2 + 1, none⟩ f1).run P W1 = .ok () W2 ∧ OwnT e 2 B (rows.set j [f0, f1]) v W2 ∧ w.grownBy W2 (some g) ∧ W2.heap.size = w.heap.size := by
  obtain ⟨g', cap, cur, rfl, hB, hg, hn, hm, hs, ht⟩ := h.blk (by omega)
  obtain rfl : g' = g := by injection hv
  have hle : (j + 1) * 2 ≤ cap * 2 := Nat.mul_le_mul_right 2 (by omega)
  have s0 := run_store_at P (p := j * 2) hg (by omega) (h1 f0 (by simp))
  have g1 := setRow_heap w g' cur (cur.setIfInBounds (j * 2) f0) e (0, 0) hg
  have s1 := run_store_at P (p := j * 2 + 1) g1 (by simp; omega) (h1 f1 (by simp))
  refine ⟨_, _, s0, s1, ?_⟩
  obtain ⟨w', hrun, o1, o2, o3⟩ := run_ownStore' (P := P) h hv hj [f0, f1] rfl h1
  have hadd : ∀ k, (⟨g', j * 2, none⟩ : Addr).add k = ⟨g', j * 2 + k, none⟩ := fun k => by rw [add_eq]
  have h9 := hrun
  simp only [storeCells, Sem.run_bind, hadd, Nat.add_zero, Nat.zero_add, s0, s1, Result.andThen_ok, Sem.run_pure] at h9
  injection h9 with _ h9
  subst h9
  exact ⟨o1, o2, o3⟩
end
theorem infoPart : (Tryz.prog.info? 43).map (fun i => (i.zero, i.size)) = some (some (.agg #[.int .i64 0, .slice none 0 0]), 2) := by kernel_rfl
structure PartD where
  code : Int
  A : Option Addr
  m : Nat
  c : Nat
def PartD.cells (p : PartD) : List Value := [.int .i64 p.code, .slice p.A p.m p.c]
theorem PartD.one (p : PartD) (u : Value) (hu : u ∈ p.cells) : u.oneCell' = true := by
  simp only [PartD.cells, List.mem_cons, List.not_mem_nil, or_false] at hu
  rcases hu with rfl | rfl <;> rfl
def fullD (l : List PartD) : List PartD := l.filter fun p => !decide (p.m = 0)
def idxD : List PartD → Nat → Int
  | [], _ => -1
  | p :: l, i => if p.m = 0 then i else idxD l (i + 1)
def PRow (B g cap : Nat) (d : List PartD) (w : World) : Prop := OwnT 43 2 B (d.map PartD.cells) (.slice (some ⟨g, 0, none⟩) d.length cap) w
theorem PRow.len2 {B g cap : Nat} {d : List PartD} {w : World} (h : PRow B g cap d w) : d.length ≤ cap ∧ cap ≤ maxLen := by
  unfold PRow at h
  rcases h.1.2 with ⟨hv, h0⟩ | ⟨g', cap', cur, hv, hb, hg, hn, hm, hs, ht⟩
  · cases hv
  · injection hv with _ _ hc
    rw [List.length_map] at hn
    rw [hc]
    exact ⟨hn, hm⟩
theorem PRow.under {B g cap : Nat} {d : List PartD} {w w' : World} (h : PRow B g cap d w) (hb : Below w.heap.size w w') : PRow B g cap d w' := OwnT.below h hb
theorem idxD_none : ∀ (l : List PartD) (i : Nat), idxD l i = -1 → fullD l = l
  | [], _, _ => rfl
  | p :: l, i, h => by
    rw [idxD] at h
    by_cases hk : p.m = 0
    · rw [if_pos hk] at h; omega
    · rw [if_neg hk] at h
      unfold fullD
      rw [List.filter_cons, if_pos (by rw [decide_eq_false hk]; rfl)]
      congr 1
      exact idxD_none l (i + 1) h
theorem idxD_some : ∀ (l : List PartD) (i : Nat), idxD l i ≠ -1 → ∃ j : Nat, j < l.length ∧ idxD l i = ((i + j : Nat) : Int) ∧ fullD (l.take (j + 1)) = l.take j
  | [], _, h => absurd rfl h
  | p :: l, i, h => by
    rw [idxD] at h ⊢
    by_cases hk : p.m = 0
    · refine ⟨0, by simp, by rw [if_pos hk]; simp, ?_⟩
      unfold fullD
      rw [List.take_succ_cons, List.take_zero, List.filter_cons, if_neg (by rw [decide_eq_true hk]; simp)]
      rfl
    · rw [if_neg hk] at h ⊢
      obtain ⟨j, h1, h2, h3⟩ := idxD_some l (i + 1) h
      refine ⟨j + 1, by simp; omega, by rw [h2]; congr 1; omega, ?_⟩
      unfold fullD at h3 ⊢
      rw [List.take_succ_cons, List.filter_cons, if_pos (by rw [decide_eq_false hk]; rfl), h3]
      rfl
theorem fullD_next {l : List PartD} {j : Nat} {p : PartD} (h : l[j]? = some p) : fullD (l.take (j + 1)) = fullD (l.take j) ++ (if p.m = 0 then [] else [p]) := by
  unfold fullD
  rw [List.take_add_one, h, List.filter_append]
  congr 1
  by_cases hk : p.m = 0
  · rw [if_pos hk]
    show List.filter _ [p] = []
    rw [List.filter_cons, if_neg (by rw [decide_eq_true hk]; simp)]
    rfl
  · rw [if_neg hk]
    show List.filter _ [p] = [p]
    rw [List.filter_cons, if_pos (by rw [decide_eq_false hk]; rfl)]
    rfl
set_option maxHeartbeats 8000000 in
set_option maxRecDepth 100000 in
set_option linter.unusedSimpArgs false in
theorem same_full (p : PartD) (w : World) : Calls Tryz.prog 41 #[.agg #[.int .i64 p.code, .slice p.A p.m p.c]] w (RetW (.bool (decide (p.m = 0))) w) := by
  have HG := Lib.hid (Sort.alloc_eq_grow w (.cells #[.int .i64 p.code, .slice p.A p.m p.c] 43 (0, 0)))
  have hq := heap_alloc_new w (.cells #[.int .i64 p.code, .slice p.A p.m p.c] 43 (0, 0))
  obtain ⟨E, hEE⟩ : ∃ E, E = RetW (.bool (decide (p.m = 0))) w := ⟨_, rfl⟩
  rw [← hEE]
  have HEE := Lib.hid hEE
  clear hEE
  go_enter Tryz.func41, Tryz.ntmps41
  go_wp2_with fail
  generalize w.alloc (.cells #[.int .i64 p.code, .slice p.A p.m p.c] 43 (0, 0)) = w1 at *
  obtain ⟨q, hqe⟩ : ∃ q, q = w.heap.size := ⟨_, rfl⟩
  rw [← hqe] at hq ⊢
  have x1 := xat hq 1
  simp only [List.getElem?_toArray, List.getElem?_cons_zero, List.getElem?_cons_succ] at x1
  go_wp2
  rw [HEE.out]
  refine ⟨?_, 0, _, HG.out⟩
  refine congrArg Ending.returned (congrArg Value.bool (a₁ := ((p.m : Int) == 0)) ?_)
  rw [Bool.eq_iff_iff]
  simp
set_option maxHeartbeats 8000000 in
set_option maxRecDepth 100000 in
set_option linter.unusedSimpArgs false in
theorem idx_full (B g cap m : Nat) (xs : List PartD) (w : World) (hm : m = xs.length) (h : PRow B g cap xs w) :
    Calls Tryz.prog 52 #[.slice (some ⟨g, 0, none⟩) m cap, .func (.func 41) #[] #[]] w (RetW (.int .i64 (idxD xs 0)) w) := by
  have hcap := h.len2
  unfold maxLen at hcap
  rw [← hm] at hcap
  obtain ⟨hcp1, hcp2⟩ := hcap
  have hgl : g < w.heap.size := (OwnT.lt h g rfl).2
  obtain ⟨I, hI⟩ : ∃ I, I = idxD xs 0 := ⟨_, rfl⟩
  rw [← hI]
  obtain ⟨E, hEE⟩ : ∃ E, E = RetW (.int .i64 I) w := ⟨_, rfl⟩
  rw [← hEE]
  have HEE := Lib.hid hEE
  have HI := Lib.hid (show idxD (xs.drop 0) 0 = I from hI.symm)
  have HAt := Lib.hid h
  have HM := Lib.hid hm
  clear hI hEE h hm
  go_enter Tryz.func52, Tryz.ntmps52
  go_wp2_with fail
  go_loopg [8] m (fun gk v8 wr => ∃ i : Nat, i + gk = m ∧ v8 = .int .i64 i ∧ Hid (idxD (xs.drop i) i = I) ∧ Hid (∃ q os, wr = Sort.grow (w.drewN q) os))
  case atStart => exact ⟨0, by omega, by go_num, HI, Lib.hid ⟨0, #[], by rw [Sort.grow_empty]; rfl⟩⟩
  case round =>
    obtain ⟨i, hig, rfl, HIx, HW⟩ := hrel
    clear HI
    rcases hd : xs.drop i with _ | ⟨x, rest⟩
    · have hi2 : i = m := by have := drop_nil hd; have := HM.out; omega
      have hIv : I = -1 := by have := HIx.out; rw [hd] at this; exact this.symm
      have HIv := Lib.hid hIv
      have k1 : ¬ (i : Int) < m := by omega
      clear hd HIx hIv
      go_wp2
      rw [HEE.out, HIv.out]
      exact ⟨rfl, HW.out⟩
    · obtain ⟨hlt, hx, hr⟩ := drop_consA hd
      have hbw : Below w.heap.size w wr := by obtain ⟨q, os, e⟩ := HW.out; rw [e]; exact below_grown w q os
      have hrx : (xs.map PartD.cells)[i]? = some x.cells := by rw [List.getElem?_map, hx]; rfl
      have d0 : wr.cell? ⟨g, i * 2, none⟩ = some (.int .i64 x.code) := (hbw.cell (p := ⟨g, i * 2, none⟩) hgl).trans (OwnT.cellAt HAt.out rfl hrx (k := 0) rfl)
      have d1 : wr.cell? ⟨g, i * 2 + 1, none⟩ = some (.slice x.A x.m x.c) := (hbw.cell (p := ⟨g, i * 2 + 1, none⟩) hgl).trans (OwnT.cellAt HAt.out rfl hrx (k := 1) rfl)
      have HC := Lib.hid (same_full x wr)
      have k1 : (i : Int) < m := by have := HM.out; omega
      have k2 : (0 : Int) ≤ i := by omega
      have HIn := Lib.hid (show (if x.m = 0 then (i : Int) else idxD rest (i + 1)) = I by have := HIx.out; rw [hd] at this; exact this)
      have HRe := Lib.hid hr
      obtain ⟨bb, hbb⟩ : ∃ bb, bb = decide (x.m = 0) := ⟨_, rfl⟩
      rw [← hbb] at HC
      have HBB := Lib.hid hbb
      clear hd hx hr hbw hrx hbb HIx
      go_wp2_with fail
      refine HC.out.mono ?_
      rintro e w5 ⟨rfl, q, os, he⟩
      have HW5 := Lib.hid (show ∃ q os, w5 = Sort.grow (w.drewN q) os by
        obtain ⟨q0, os0, e0⟩ := HW.out
        exact ⟨q0 + q, os0 ++ os, by rw [he, e0, grow_draws, Sort.grow_grow, World.drewN_drewN]⟩)
      clear he HC HW d0 d1
      cases bb
      · have HIx2 := Lib.hid (show idxD (xs.drop (i + 1)) (i + 1) = I by
          rw [HRe.out, ← HIn.out, if_neg]
          exact of_decide_eq_false HBB.out.symm)
        clear HIn HRe HBB
        go_wp2
        go_roundg (gk - 1)
        case measure => omega
        case rel => exact ⟨i + 1, by omega, by go_num, HIx2, HW5⟩
      · have HIv := Lib.hid (show I = (i : Int) by
          rw [← HIn.out, if_pos]
          exact of_decide_eq_true HBB.out.symm)
        clear HIn HRe HBB
        go_wp2
        rw [HEE.out, HIv.out]
        exact ⟨rfl, HW5.out⟩
def DelPP (B g cap : Nat) (d' : List PartD) (w : World) (e : Ending) (w' : World) : Prop := e = .returned (.slice (some ⟨g, 0, none⟩) d'.length cap) ∧ PRow B g cap d' w' ∧ RGr (some g) (some g) w w'
set_option maxHeartbeats 32000000 in
set_option maxRecDepth 100000 in
set_option linter.unusedSimpArgs false in
theorem deleteP_any (B g cap : Nat) (d : List PartD) (n : Nat) (w : World) (hn : n = d.length) (h : PRow B g cap d w) (hs : n ≤ 1000000000000) :
    Calls Tryz.prog 40 #[.slice (some ⟨g, 0, none⟩) n cap, .func (.func 41) #[] #[]] w (DelPP B g cap (fullD d) w) := by
  obtain ⟨E, hEE⟩ : ∃ E, E = DelPP B g cap (fullD d) w := ⟨_, rfl⟩
  rw [← hEE]
  have HEE := Lib.hid hEE
  have HIx := Lib.hid (idx_full B g cap n d w hn h)
  have HO0 := Lib.hid h
  have HN := Lib.hid hn
  have HI1 := Lib.hid (fun h => idxD_none d 0 h)
  have HI2 := Lib.hid (fun h => idxD_some d 0 h)
  have hcap := h.len2
  unfold maxLen at hcap
  rw [← hn] at hcap
  obtain ⟨hcp1, hcp2⟩ := hcap
  generalize idxD d 0 = I at *
  clear h hEE hn
  go_enter Tryz.func40, Tryz.ntmps40
  go_wp2_with fail
  refine HIx.out.mono ?_
  rintro e w1 ⟨rfl, q, os, he⟩
  have HB1 := Lib.hid (show Below w.heap.size w w1 by rw [he]; exact below_grown w q os)
  have HO1 := Lib.hid (HO0.out.under HB1.out)
  clear he HIx HO0
  by_cases hI : I = -1
  · have HV := Lib.hid (HI1.out hI)
    subst hI
    clear HI1 HI2
    go_wp2
    rw [HEE.out, HV.out]
    exact ⟨by rw [← HN.out]; rfl, HO1.out, RGr.under HB1.out⟩
  obtain ⟨i0, hi0, hIe, hk0⟩ := HI2.out hI
  rw [Nat.zero_add] at hIe
  subst hIe
  have HR1 := Lib.hid (RGr.under (o := some g) HB1.out)
  have HK0 := Lib.hid hk0
  have hi0n : i0 < n := by rw [HN.out]; exact hi0
  clear HI1 HI2 HB1 hk0 hi0
  have e0 : ((i0 : Int) == -1) = false := by rw [beq_eq_false_iff_ne]; omega
  go_wp2_with fail
  go_loopg [5, 6] (n - (i0 + 1)) (fun gk v5 v6 wr => ∃ (i j : Nat) (D : List PartD), j + gk = n ∧ i < j ∧ v5 = .int .i64 i ∧ v6 = .int .i64 j ∧ Hid (D.length = n ∧ D.take i = fullD (d.take j) ∧ D.drop j = d.drop j) ∧ Hid (PRow B g cap D wr) ∧ Hid (RGr (some g) (some g) w wr))
  case atStart => exact ⟨i0, i0 + 1, d, by omega, Nat.lt_succ_self _, rfl, by go_num, Lib.hid ⟨HN.out.symm, HK0.out.symm, rfl⟩, HO1, HR1⟩
  case round =>
    obtain ⟨i, j, D, hjg, hij, rfl, rfl, HL, HO, HR⟩ := hrel
    clear HO1 HR1 HK0
    rcases hd : d.drop j with _ | ⟨p, rest⟩
    · have hj2 : j = n := by have := drop_nil hd; have := HN.out; omega
      subst hj2
      obtain ⟨hl1, hl2, hl3⟩ := HL.out
      have hO : OwnT 43 2 B (D.map PartD.cells) (.slice (some ⟨g, 0, none⟩) (D.map PartD.cells).length cap) wr := by have := HO.out; unfold PRow at this; rw [List.length_map]; exact this
      obtain ⟨w5, hrun, ho5, hg5, -⟩ := run_ownClear (P := Tryz.prog) Tryz.underlying25 infoPart rfl (by decide) hO (j := i) (by rw [List.length_map]; omega) 0 (cap - i) (some ⟨g, i * 2, none⟩) (fun _ => rfl)
      have hX : fullD d = D.take i := by rw [hl2, List.take_of_length_le (by rw [HN.out]; exact Nat.le_refl _)]
      have hXl : (fullD d).length = i := by rw [hX, List.length_take]; omega
      rw [List.length_map, hl1] at hrun
      have HF := Lib.hid (show PRow B g cap (fullD d) w5 by
        unfold PRow
        rw [hXl, hX, List.map_take]
        exact ho5)
      have HXl := Lib.hid hXl
      have HR5 := Lib.hid (HR.out.trans (RGr.of hg5 (.inl rfl)))
      have k1 : ¬ (j : Int) < j := by omega
      have k2 : (0 : Int) ≤ i := by omega
      have k3 : (i : Int) ≤ j := by omega
      have k4 : (i : Int) ≤ cap := by omega
      clear hd hl1 hl2 hl3 hO ho5 hg5 hX hXl HL HO HR
      go_wp2
      rw [HEE.out]
      exact ⟨by rw [HXl.out], HF.out, HR5.out⟩
    · obtain ⟨hlt, hx, hr⟩ := drop_consA hd
      obtain ⟨hl1, hl2, hl3⟩ := HL.out
      have hDj : D[j]? = some p := by
        have h1 := congrArg (·[0]?) hl3
        simp only [List.getElem?_drop, Nat.add_zero] at h1
        rw [h1, hx]
      have hO : OwnT 43 2 B (D.map PartD.cells) (.slice (some ⟨g, 0, none⟩) n cap) wr := by have := HO.out; unfold PRow at this; rw [hl1] at this; exact this
      have hrj : (D.map PartD.cells)[j]? = some p.cells := by rw [List.getElem?_map, hDj]; rfl
      have d0 : wr.cell? ⟨g, j * 2, none⟩ = some (.int .i64 p.code) := OwnT.cellAt hO rfl hrj (k := 0) rfl
      have d1 : wr.cell? ⟨g, j * 2 + 1, none⟩ = some (.slice p.A p.m p.c) := OwnT.cellAt hO rfl hrj (k := 1) rfl
      have hb2 : Below wr.heap.size wr (wr.alloc (.cells #[.int .i64 p.code, .slice p.A p.m p.c] 43 (0, 0))) := (Below.refl _ _).alloc (Nat.le_refl _) _
      have hq := heap_alloc_new wr (.cells #[.int .i64 p.code, .slice p.A p.m p.c] 43 (0, 0))
      have HC := Lib.hid (same_full p (wr.alloc (.cells #[.int .i64 p.code, .slice p.A p.m p.c] 43 (0, 0))))
      obtain ⟨bb, hbb⟩ : ∃ bb, bb = decide (p.m = 0) := ⟨_, rfl⟩
      rw [← hbb] at HC
      have HBB := Lib.hid (show bb = decide (p.m = 0) from hbb)
      have HOw := Lib.hid hO
      have HB2 := Lib.hid hb2
      have HKn := Lib.hid (fullD_next hx)
      have k1 : (j : Int) < n := by have := HN.out; omega
      have k2 : (0 : Int) ≤ j := by omega
      have HJn := Lib.hid (show j < n by have := HN.out; omega)
      clear hd hr hDj hO hrj hbb hb2 hlt hl1 hl2 hl3 HO
      go_wp2_with fail
      generalize wr.alloc (.cells #[.int .i64 p.code, .slice p.A p.m p.c] 43 (0, 0)) = w2 at *
      obtain ⟨q, hqe⟩ : ∃ q, q = wr.heap.size := ⟨_, rfl⟩
      rw [← hqe] at hq ⊢
      have HQe := Lib.hid hqe
      have HQ := Lib.hid hq
      clear hqe hq d0 d1
      refine HC.out.mono ?_
      rintro e w5 ⟨rfl, q5, os5, he⟩
      have hb5 : Below w2.heap.size w2 w5 := by rw [he]; exact below_grown w2 q5 os5
      have hq5 := (hb5.block q (xlt HQ.out)).trans HQ.out
      have x0 := xat hq5 0
      have x1 := xat hq5 1
      simp only [List.getElem?_toArray, List.getElem?_cons_zero, List.getElem?_cons_succ] at x0 x1
      have hb25 : Below wr.heap.size wr w5 := HB2.out.trans (hb5.mono HB2.out.size)
      have hO5 := HOw.out.below hb25
      obtain ⟨V1, V5, s0, s1, ho9, hg9, -⟩ := stores_two Tryz.prog hO5 (g := g) rfl (j := i) (by rw [List.length_map, HL.out.1]; have := HJn.out; omega) (.int .i64 p.code) (.slice p.A p.m p.c) (fun u hu => PartD.one p u hu)
      have HO5 := Lib.hid (show PRow B g cap D w5 by unfold PRow; rw [HL.out.1]; exact hO5)
      have HR5 := Lib.hid (HR.out.trans (RGr.under (o := some g) hb25))
      have HO9 := Lib.hid (show PRow B g cap (D.set i p) V5 by unfold PRow; rw [List.length_set, HL.out.1, List.map_set]; exact ho9)
      have HR9 := Lib.hid (HR5.out.trans (RGr.of hg9 (.inl rfl)))
      clear he HC hb5 hq5 hb25 hO5 ho9 hg9 HOw HB2 HQ HQe HR
      generalize (.int .i64 p.code : Value) = f0 at *
      generalize (.slice p.A p.m p.c : Value) = f1 at *
      cases bb
      · have HL2 := Lib.hid (show (D.set i p).length = n ∧ (D.set i p).take (i + 1) = fullD (d.take (j + 1)) ∧ (D.set i p).drop (j + 1) = d.drop (j + 1) by
          obtain ⟨h1, h2, h3⟩ := HL.out
          have h4 : i < D.length := by rw [h1]; have := HJn.out; omega
          refine ⟨by rw [List.length_set]; exact h1, ?_, ?_⟩
          · rw [HKn.out, if_neg (of_decide_eq_false HBB.out.symm), set_parts h4, ← h2]
            rw [List.take_append, List.length_take, Nat.min_eq_left (Nat.le_of_lt h4), List.take_take, Nat.min_eq_right (Nat.le_succ i), Nat.add_sub_cancel_left]
            rfl
          · rw [List.drop_set_of_lt (by omega), ← List.drop_drop, ← List.drop_drop, h3])
        have f1 : (0 : Int) ≤ i := by omega
        have f2 : (i : Int) < n := by have := HJn.out; omega
        clear HL HKn HBB HO5 HR5
        go_wp2
        go_roundg (gk - 1)
        case measure => omega
        case rel => exact ⟨i + 1, j + 1, D.set i p, by omega, by omega, by go_num, by go_num, HL2, HO9, HR9⟩
      · have HL2 := Lib.hid (show D.length = n ∧ D.take i = fullD (d.take (j + 1)) ∧ D.drop (j + 1) = d.drop (j + 1) by
          obtain ⟨h1, h2, h3⟩ := HL.out
          refine ⟨h1, by rw [HKn.out, if_pos (of_decide_eq_true HBB.out.symm), List.append_nil]; exact h2, by rw [← List.drop_drop, ← List.drop_drop, h3]⟩)
        clear HL HKn HBB HO9 HR9
        go_wp2
        go_roundg (gk - 1)
        case measure => omega
        case rel => exact ⟨i, j + 1, D, by omega, by omega, rfl, by go_num, HL2, HO5, HR5⟩
end Go.Proofs.YtjkiehmjffgnlaaGreatDoor
namespace Go.Proofs.YtjkiehmjffgnlaaGreatDoor
set_option linter.unusedVariables false
set_option linter.unusedSimpArgs false
open Go.RowKit

set_option maxHeartbeats 8000000 in
set_option maxRecDepth 100000 in
set_option linter.unusedSimpArgs false in
theorem full_any (B g cap : Nat) (d : List PartD) (n : Nat) (w : World) (hn : n = d.length) (h : PRow B g cap d w) (hs : n ≤ 1000000000000) :
    Calls Tryz.prog 21 #[.slice (some ⟨g, 0, none⟩) n cap] w (DelPP B g cap (fullD d) w) := by
  obtain ⟨E, hEE⟩ : ∃ E, E = DelPP B g cap (fullD d) w := ⟨_, rfl⟩
  rw [← hEE]
  have HEE := Lib.hid hEE
  have HC := Lib.hid (deleteP_any B g cap d n w hn h hs)
  clear hEE h hn
  go_enter Tryz.func21, Tryz.ntmps21
  go_wp2_with fail
  refine HC.out.mono ?_
  rintro e w5 ⟨rfl, h1, h2⟩
  have H1 := Lib.hid h1
  have H2 := Lib.hid h2
  clear h1 h2 HC
  go_wp2
  rw [HEE.out]
  exact ⟨rfl, H1.out, H2.out⟩
end Go.Proofs.YtjkiehmjffgnlaaGreatDoor
namespace Go.Proofs.YtjkiehmjffgnlaaGreatDoor
set_option linter.unusedVariables false
set_option linter.unusedSimpArgs false
open Go.RowKit

theorem tolds_one {w : World} {b : Nat} {v : Value} {l : List PartT} (h : w.heap[b]? = some (.cells #[.string ⟨#[]⟩, v] 72 (0, 0))) (hp : PartsP anyB w v l) : ToldsP anyB w (.slice (some ⟨b, 0, none⟩) 1 1) [⟨[], l⟩] :=
  many_row (rows := [[.string ⟨#[]⟩, v]]) (xs := [(⟨[], l⟩ : ToldT)]) h (fun r hr => by rw [List.mem_singleton.1 hr]; rfl) rfl (show 1 ≤ maxLen by unfold maxLen; decide) (fun j r x h1 h2 => by
    match j, h1, h2 with
    | 0, h1, h2 => injection h1 with h1; injection h2 with h2; subst h1 h2; exact ⟨v, rfl, hp⟩
    | j + 1, h1, h2 => simp at h1) trivial
set_option maxHeartbeats 16000000 in
set_option maxRecDepth 100000 in
set_option linter.unusedSimpArgs false in
theorem sparts_any (l : List PartT) (A B : Option Addr) (m c n d : Nat) (w : World) (h1 : PartsP anyB w (.slice A m c) l) (h2 : PartsP anyB w (.slice B n d) l) : Calls Tryz.prog 11 #[.slice A m c, .slice B n d] w (Ret (.bool true) w) := by
  obtain ⟨wa, hwa⟩ : ∃ wa, wa = w.alloc (.cells #[.string ⟨#[]⟩, .slice A m c] 72 (0, 0)) := ⟨_, rfl⟩
  obtain ⟨wb, hwb⟩ : ∃ wb, wb = wa.alloc (.cells #[.string ⟨#[]⟩, .slice B n d] 72 (0, 0)) := ⟨_, rfl⟩
  have ha : Below w.heap.size w wa := by rw [hwa]; exact (Below.refl _ _).alloc (Nat.le_refl _) _
  have hb : Below wa.heap.size wa wb := by rw [hwb]; exact (Below.refl _ _).alloc (Nat.le_refl _) _
  have qa : wa.heap[w.heap.size]? = some (.cells #[.string ⟨#[]⟩, .slice A m c] 72 (0, 0)) := by rw [hwa]; exact heap_alloc_new w _
  have qb : wb.heap[wa.heap.size]? = some (.cells #[.string ⟨#[]⟩, .slice B n d] 72 (0, 0)) := by rw [hwb]; exact heap_alloc_new wa _
  have hab : Below w.heap.size w wb := ha.trans (hb.mono ha.size)
  have hqa : wb.heap[w.heap.size]? = some (.cells #[.string ⟨#[]⟩, .slice A m c] 72 (0, 0)) := (hb.block _ (xlt qa)).trans qa
  have HC := Lib.hid (msame_any [⟨[], l⟩] (some ⟨w.heap.size, 0, none⟩) (some ⟨wa.heap.size, 0, none⟩) 1 1 wb (tolds_one hqa (h1.under hab)) (tolds_one qb (h2.under hab)))
  have HAB := Lib.hid hab
  have hsz : wa.heap.size = w.heap.size + 1 := by rw [hwa]; simp
  obtain ⟨E, hEE⟩ : ∃ E, E = Ret (.bool true) w := ⟨_, rfl⟩
  rw [← hEE]
  have HEE := Lib.hid hEE
  rw [hsz] at HC
  rw [hwb, hwa] at HC HAB
  clear ha hb qa qb hab hqa h1 h2 hEE hsz hwb hwa
  go_enter Tryz.func11, Tryz.ntmps11
  go_wp2_with fail
  refine HC.out.mono ?_
  rintro e w5 ⟨rfl, hb5⟩
  have HF := Lib.hid (show Below w.heap.size w w5 from HAB.out.trans (hb5.mono HAB.out.size))
  clear HC HAB hb5
  go_wp2
  rw [HEE.out]
  exact ⟨rfl, HF.out⟩
set_option maxHeartbeats 16000000 in
set_option maxRecDepth 100000 in
set_option linter.unusedSimpArgs false in
theorem sprops_any (l : List NodeT) (A B : Option Addr) (m c n d : Nat) (w : World) (h1 : NodesP anyB w (.slice A m c) l) (h2 : NodesP anyB w (.slice B n d) l) : Calls Tryz.prog 10 #[.slice A m c, .slice B n d] w (Ret (.bool true) w) := by
  obtain ⟨hl1, hkc, hkm, hkn⟩ := kid_at h1
  obtain ⟨hl2, hkd, hkm2, hkn2⟩ := kid_at h2
  unfold maxLen at hkm hkm2
  have HKn := Lib.hid hkn
  have HKn2 := Lib.hid hkn2
  have hmn : n = m := by rw [hl1, hl2]
  have HL := Lib.hid hl1
  subst hmn
  obtain ⟨E, hEE⟩ : ∃ E, E = Ret (.bool true) w := ⟨_, rfl⟩
  rw [← hEE]
  have HEE := Lib.hid hEE
  clear h1 h2 hkn hkn2 hl1 hl2 hEE
  go_enter Tryz.func10, Tryz.ntmps10
  go_wp2_with fail
  go_loopg [5] n (fun gk v5 wr => ∃ j : Nat, j + gk = n ∧ v5 = .int .i64 j ∧ Hid (Below w.heap.size w wr))
  case atStart => exact ⟨0, by omega, rfl, Lib.hid (Below.refl _ _)⟩
  case round =>
    obtain ⟨j, hjg, rfl, HBw3⟩ := hrel
    rcases Nat.lt_or_ge j n with hlt3 | hge3
    case inr =>
      have k1 : ¬ (j : Int) < n := by omega
      go_wp2
      rw [HEE.out]
      exact ⟨rfl, HBw3.out⟩
    have j1 : (j : Int) < n := by omega
    have j2 : (0 : Int) ≤ j := by omega
    obtain ⟨x, hx3⟩ : ∃ x, l[j]? = some x := ⟨_, List.getElem?_eq_getElem (by rw [← HL.out]; exact hlt3)⟩
    obtain ⟨b5, o5, aA5, ac5, kA5, kc5, rfl, hbl5, u0, u1, u2, u3, u4, ha5, hk5⟩ := HKn.out j x hx3
    obtain ⟨b6, o6, aA6, ac6, kA6, kc6, rfl, hbl6, v0, v1, v2, v3, v4, ha6, hk6⟩ := HKn2.out j x hx3
    have m0 := (HBw3.out.cell (p := ⟨b5, o5 + j * 5, none⟩) hbl5).trans u0
    have m1 := (HBw3.out.cell (p := ⟨b5, o5 + j * 5 + 1, none⟩) hbl5).trans u1
    have m2 := (HBw3.out.cell (p := ⟨b5, o5 + j * 5 + 2, none⟩) hbl5).trans u2
    have m3 := (HBw3.out.cell (p := ⟨b5, o5 + j * 5 + 3, none⟩) hbl5).trans u3
    have m4 := (HBw3.out.cell (p := ⟨b5, o5 + j * 5 + 4, none⟩) hbl5).trans u4
    have n0 := (HBw3.out.cell (p := ⟨b6, o6 + j * 5, none⟩) hbl6).trans v0
    have n1 := (HBw3.out.cell (p := ⟨b6, o6 + j * 5 + 1, none⟩) hbl6).trans v1
    have n2 := (HBw3.out.cell (p := ⟨b6, o6 + j * 5 + 2, none⟩) hbl6).trans v2
    have n3 := (HBw3.out.cell (p := ⟨b6, o6 + j * 5 + 3, none⟩) hbl6).trans v3
    have n4 := (HBw3.out.cell (p := ⟨b6, o6 + j * 5 + 4, none⟩) hbl6).trans v4
    have HSm := Lib.hid (xsame_any (node_of ha5 hk5) _ (node_of ha6 hk6) _ (below_draws HBw3.out 1))
    have HBD3 := Lib.hid (below_draws HBw3.out 1)
    clear u0 u1 u2 u3 u4 v0 v1 v2 v3 v4 ha5 hk5 ha6 hk6 hx3 HKn HKn2
    go_upto_region 6 with (fail)
    first | go_region_with (go_at_call 29; refine HSm.out.mono ?_; rintro e w5 ⟨rfl, hb5⟩) | fail
    all_goals
      go_wp2
      go_roundg (n - (j + 1))
      case measure => omega
      case rel => exact ⟨j + 1, by omega, by go_num, Lib.hid (HBD3.out.trans (hb5.mono HBD3.out.size))⟩
end Go.Proofs.YtjkiehmjffgnlaaGreatDoor
namespace Go.Proofs.YtjkiehmjffgnlaaGreatDoor
set_option linter.unusedVariables false
set_option linter.unusedSimpArgs false
open Go.RowKit

def bareD (k : KeyT) : NodeD := ⟨bareN k, none, 0, 0, none, 0, 0⟩
def hasD (d : List NodeD) (k : KeyT) : Bool := d.any fun p => decide (keyD p = k)
def putD (d : List NodeD) (k : KeyT) : List NodeD := if hasD d k then d else d ++ [bareD k]
theorem putD_map (d : List NodeD) (k : KeyT) : (putD d k).map (·.x) = addK (d.map (·.x)) k := by
  have h : hasK (d.map (·.x)) k = hasD d k := by unfold hasK hasD; rw [List.any_map]; rfl
  unfold putD addK
  rw [h]
  cases hasD d k
  · rw [if_neg (by decide), if_neg (by decide), List.map_append]; rfl
  · rw [if_pos rfl, if_pos rfl]
def PutP (B : Nat) (v : Value) (d' : List NodeD) (w : World) (e : Ending) (w' : World) : Prop := ∃ v', e = .returned v' ∧ KRow B v' d' w' ∧ RGr v.ownBlock v'.ownBlock w w'
theorem KRow.slice {B : Nat} {v : Value} {d : List NodeD} {w : World} (h : KRow B v d w) : ∃ A cap, v = .slice A d.length cap ∧ d.length ≤ cap ∧ cap ≤ maxLen ∧ (d ≠ [] → ∃ g, A = some ⟨g, 0, none⟩) := by
  rcases h.form with ⟨rfl, rfl⟩ | ⟨g, cap, rfl, hr⟩
  · exact ⟨none, 0, rfl, Nat.le_refl _, Nat.zero_le _, fun h => absurd rfl h⟩
  · obtain ⟨h1, h2⟩ := hr.len
    exact ⟨_, cap, rfl, h1, h2, fun _ => ⟨g, rfl⟩⟩
set_option maxHeartbeats 16000000 in
set_option maxRecDepth 100000 in
set_option linter.unusedSimpArgs false in
theorem put_any (B : Nat) (v : Value) (d : List NodeD) (k : KeyT) (w : World) (h : KRow B v d w) (hB : B ≤ w.heap.size) (hs : d.length ≤ 1000000000) :
    Calls Tryz.prog 26 #[v, .string ⟨k.1.toArray⟩, .string ⟨k.2.toArray⟩] w (PutP B v (putD d k) w) := by
  have hba : Below w.heap.size w (w.alloc (.cells #[.string ⟨#[]⟩, .string ⟨k.1.toArray⟩, .string ⟨k.2.toArray⟩, .slice none 0 0, .slice none 0 0] 46 (0, 0))) := (Below.refl _ _).alloc (Nat.le_refl _) _
  have hq := heap_alloc_new w (.cells #[.string ⟨#[]⟩, .string ⟨k.1.toArray⟩, .string ⟨k.2.toArray⟩, .slice none 0 0, .slice none 0 0] 46 (0, 0))
  obtain ⟨v1, w1, run1, o1, b1, g1, p1⟩ := run_appT elemN 22 (OwnT.below h hba) (some ⟨w.heap.size, 0, none⟩) 1 1 (news := [(bareD k).cells]) rfl (Nat.le_refl _) (fun r hr => by rw [List.mem_singleton.1 hr]; rfl) (fun _ => ⟨_, 0, rfl, fun j r hr c u hu => by
      match j, hr with
      | 0, hr =>
        injection hr with hr
        subst hr
        rw [Nat.zero_mul, Nat.zero_add, Nat.zero_add]
        simp only [World.cell?, hq]
        rw [← hu]
        simp [bareD, NodeD.cells, bareN, NodeT.text, NodeT.space, NodeT.name]
      | j + 1, hr => simp at hr⟩) (fun r hr u hu => by rw [List.mem_singleton.1 hr] at hu; exact encD.one _ u hu) (by rw [List.length_map]; omega) (Nat.le_trans hB hba.size)
  have HF := Lib.hid (show PutP B v (d ++ [bareD k]) w (.returned v1) w1 from ⟨v1, rfl, by unfold KRow; rw [List.map_append]; exact o1, (RGr.under hba).trans (RGr.of g1 (p1.imp id fun e => ⟨_, e, by have := hba.size; omega⟩))⟩)
  have HO := Lib.hid h
  obtain ⟨A, cap, rfl, hc1, hc2, hA⟩ := h.slice
  unfold maxLen at hc2
  have HR := Lib.hid run1
  have HA := Lib.hid hA
  obtain ⟨ks, kn⟩ := k
  obtain ⟨n, hn⟩ : ∃ n, n = d.length := ⟨_, rfl⟩
  rw [← hn] at HR HO HF hc1 hs ⊢
  obtain ⟨E, hEE⟩ : ∃ E, E = PutP B (.slice A n cap) (putD d (ks, kn)) w := ⟨_, rfl⟩
  rw [← hEE]
  have HEE := Lib.hid hEE
  have HN := Lib.hid hn
  clear hba hq run1 o1 b1 g1 p1 hA hEE hn h
  go_enter Tryz.func26, Tryz.ntmps26
  go_wp2_with fail
  go_loopg [7] n (fun gk v7 wr => ∃ i : Nat, i + gk = n ∧ v7 = .int .i64 i ∧ wr = w ∧ Hid (∀ p ∈ d.take i, keyD p ≠ (ks, kn)))
  case atStart => exact ⟨0, by omega, rfl, rfl, Lib.hid fun p hp => by cases hp⟩
  case round =>
    obtain ⟨i, hig, rfl, rfl, HNo⟩ := hrel
    rcases hd : d.drop i with _ | ⟨p, rest⟩
    · have hi2 : i = n := by have := drop_nil hd; have := HN.out; omega
      have k1 : ¬ (i : Int) < n := by omega
      have HH := Lib.hid (show putD d (ks, kn) = d ++ [bareD (ks, kn)] by
        unfold putD
        rw [if_neg]
        unfold hasD
        rw [Bool.not_eq_true, List.any_eq_false]
        intro p hp
        rw [decide_eq_true_eq]
        exact HNo.out p (by rw [List.take_of_length_le (by have := HN.out; omega)]; exact hp))
      clear hd HNo HO
      go_wp2_with (at_builtin; refine wpList_app_run (by rfl) _ _ rfl rfl rfl HR.out ?_)
      rw [HEE.out, HH.out]
      exact HF.out
    · obtain ⟨hlt, hx, hr⟩ := drop_consA hd
      obtain ⟨g, rfl⟩ := HA.out (by intro e; rw [e] at hlt; simp at hlt)
      have hrj : (d.map NodeD.cells)[i]? = some p.cells := by rw [List.getElem?_map, hx]; rfl
      have d1 : wr.cell? ⟨g, i * 5 + 1, none⟩ = some (.string ⟨p.x.space.toArray⟩) := OwnT.cellAt HO.out rfl hrj (k := 1) rfl
      have d2 : wr.cell? ⟨g, i * 5 + 2, none⟩ = some (.string ⟨p.x.name.toArray⟩) := OwnT.cellAt HO.out rfl hrj (k := 2) rfl
      have k1 : (i : Int) < n := by have := HN.out; omega
      have k2 : (0 : Int) ≤ i := by omega
      obtain ⟨c1, hc1'⟩ : ∃ c1, (p.x.space == ks) = c1 := ⟨_, rfl⟩
      obtain ⟨c2, hc2'⟩ : ∃ c2, (p.x.name == kn) = c2 := ⟨_, rfl⟩
      have HC := Lib.hid (show decide (keyD p = (ks, kn)) = (c1 && c2) by
        rw [← hc1', ← hc2', Bool.eq_iff_iff, Bool.and_eq_true, decide_eq_true_eq, beq_iff_eq, beq_iff_eq]
        exact Prod.ext_iff)
      have HIn := Lib.hid (show d.take (i + 1) = d.take i ++ [p] by rw [List.take_add_one, hx]; rfl)
      have HMem := Lib.hid (List.mem_of_getElem? hx)
      have HJ := Lib.hid (show i < n by have := HN.out; omega)
      clear hd hx hr hrj hlt
      have HNext := Lib.hid (fun (h : (c1 && c2) = false) => show ∀ q ∈ d.take (i + 1), keyD q ≠ (ks, kn) from fun q hq => by
        rw [HIn.out] at hq
        rcases List.mem_append.1 hq with hq | hq
        · exact HNo.out q hq
        · rw [List.mem_singleton.1 hq]
          have := HC.out
          rw [h] at this
          exact of_decide_eq_false this)
      have HHit := Lib.hid (fun (h : (c1 && c2) = true) => show putD d (ks, kn) = d by
        unfold putD hasD
        rw [if_pos (List.any_eq_true.2 ⟨p, HMem.out, by rw [HC.out]; exact h⟩)])
      clear HIn HMem HC HNo
      cases c1
      · have HNx := Lib.hid (HNext.out (by rfl))
        clear HNext HHit hc2'
        go_wp2
        go_roundg (gk - 1)
        case measure => omega
        case rel => exact ⟨i + 1, by omega, by go_num, rfl, HNx⟩
      · cases c2
        · have HNx := Lib.hid (HNext.out (by rfl))
          clear HNext HHit
          go_wp2
          go_roundg (gk - 1)
          case measure => omega
          case rel => exact ⟨i + 1, by omega, by go_num, rfl, HNx⟩
        · have HH := Lib.hid (HHit.out (by rfl))
          clear HNext HHit
          go_wp2
          rw [HEE.out, HH.out]
          exact ⟨_, rfl, HO.out, RGr.refl _ _⟩
end Go.Proofs.YtjkiehmjffgnlaaGreatDoor
namespace Go.Proofs.YtjkiehmjffgnlaaGreatDoor
set_option linter.unusedVariables false
set_option linter.unusedSimpArgs false
open Go.RowKit

set_option maxHeartbeats 16000000 in
set_option maxRecDepth 100000 in
set_option linter.unusedSimpArgs false in
theorem rprot_any (s n : List UInt8) (w : World) : Calls Tryz.prog 27 #[.agg #[.string ⟨s.toArray⟩, .string ⟨n.toArray⟩]] w (Ret (.bool (protK (s, n))) w) := by
  have T := Lib.hid (two_alloc w (.cells #[.string ⟨s.toArray⟩, .string ⟨n.toArray⟩] 52 (0, 0)) (.cells (liveNames.map fun x => Value.string ⟨x.toArray⟩).toArray 9 (0, 0)))
  obtain ⟨E, hEE⟩ : ∃ E, E = Ret (.bool (protK (s, n))) w := ⟨_, rfl⟩
  rw [← hEE]
  have HEE := Lib.hid hEE
  have HP := Lib.hid (show protK (s, n) = (decide (n ∈ liveNames) && decide (s = wDav)) from rfl)
  clear hEE
  go_enter Tryz.func27, Tryz.ntmps27
  go_wp2_with fail
  go_loopg [4] 5 (fun gk v4 wr => ∃ i : Nat, i + gk = 5 ∧ v4 = .int .i64 i ∧ Hid (n ∉ liveNames.take i ∨ s ≠ wDav) ∧ Hid (Below w.heap.size w wr ∧ wr.heap[w.heap.size]? = some (.cells #[.string ⟨s.toArray⟩, .string ⟨n.toArray⟩] 52 (0, 0)) ∧ wr.heap[w.heap.size + 1]? = some (.cells (liveNames.map fun x => Value.string ⟨x.toArray⟩).toArray 9 (0, 0))))
  case atStart => exact ⟨0, by omega, rfl, Lib.hid (.inl (by simp)), Lib.hid T.out⟩
  case round =>
    obtain ⟨i, hig, rfl, HNo, HW⟩ := hrel
    clear T
    obtain ⟨hb, hq1, hq2⟩ := HW.out
    rcases Nat.lt_or_ge i 5 with hlt | hge
    case inr =>
      have hi5 : i = 5 := by omega
      subst hi5
      have HV := Lib.hid (show protK (s, n) = false by
        rw [HP.out, Bool.and_eq_false_iff]
        rcases HNo.out with h | h
        · exact .inl (decide_eq_false h)
        · exact .inr (decide_eq_false h))
      have HB := Lib.hid hb
      clear hb hq1 hq2 HW HNo
      go_wp2
      rw [HEE.out, HV.out]
      exact ⟨rfl, HB.out⟩
    obtain ⟨nm, hnm⟩ : ∃ nm, liveNames[i]? = some nm := ⟨_, List.getElem?_eq_getElem hlt⟩
    have d1 : wr.cell? ⟨w.heap.size + 1, i, none⟩ = some (.string ⟨nm.toArray⟩) := by
      have h := xat hq2 i
      rw [List.getElem?_toArray, List.getElem?_map, hnm] at h
      exact h
    have x0 := xat hq1 0
    have x1 := xat hq1 1
    simp only [List.getElem?_toArray, List.getElem?_cons_zero, List.getElem?_cons_succ] at x0 x1
    have k1 : (i : Int) < 5 := by omega
    have k2 : (0 : Int) ≤ i := by omega
    have HIn := Lib.hid (show liveNames.take (i + 1) = liveNames.take i ++ [nm] by rw [List.take_add_one, hnm]; rfl)
    have HMem := Lib.hid (List.mem_of_getElem? hnm)
    obtain ⟨c1, hc1⟩ : ∃ c1, (nm == n) = c1 := ⟨_, rfl⟩
    obtain ⟨c2, hc2⟩ : ∃ c2, (s == [68, 65, 86, 58]) = c2 := ⟨_, rfl⟩
    have HC1 := Lib.hid hc1
    have HC2 := Lib.hid hc2
    have HWd := Lib.hid (⟨below_draws hb 1, hq1, hq2⟩ : Below w.heap.size w wr.drew ∧ wr.drew.heap[w.heap.size]? = some (.cells #[.string ⟨s.toArray⟩, .string ⟨n.toArray⟩] 52 (0, 0)) ∧ wr.drew.heap[w.heap.size + 1]? = some (.cells (liveNames.map fun x => Value.string ⟨x.toArray⟩).toArray 9 (0, 0)))
    clear hb hq1 hq2 hnm HW
    cases c1
    · have HN2 := Lib.hid (show n ∉ liveNames.take (i + 1) ∨ s ≠ wDav by
        rcases HNo.out with h | h
        · refine .inl ?_
          rw [HIn.out]
          intro h2
          rcases List.mem_append.1 h2 with h2 | h2
          · exact h h2
          · have := List.mem_singleton.1 h2
            subst this
            have := HC1.out
            simp at this
        · exact .inr h)
      clear HNo HIn HMem hc2
      go_upto_region 5 with (fail)
      go_big_region
      all_goals go_wp2
      go_roundg (gk - 1)
      case measure => omega
      case rel => exact ⟨i + 1, by omega, by go_num, HN2, HWd⟩
    · cases c2
      · have HN2 := Lib.hid (show n ∉ liveNames.take (i + 1) ∨ s ≠ wDav from .inr (by intro e; have h := HC2.out; rw [e] at h; exact absurd h (by decide)))
        clear HNo HIn HMem
        go_upto_region 5 with (fail)
        go_big_region
        all_goals go_wp2
        go_roundg (gk - 1)
        case measure => omega
        case rel => exact ⟨i + 1, by omega, by go_num, HN2, HWd⟩
      · have HV := Lib.hid (show protK (s, n) = true by
          have h1 : nm = n := by simpa using HC1.out
          have h2 : s = wDav := beq_iff_eq.1 HC2.out
          rw [HP.out, ← h1, decide_eq_true HMem.out, decide_eq_true h2]; rfl)
        clear HNo HIn HMem
        go_upto_region 5 with (fail)
        go_big_region
        all_goals go_wp2
        rw [HEE.out, HV.out]
        exact ⟨rfl, HWd.out.1⟩
end Go.Proofs.YtjkiehmjffgnlaaGreatDoor
namespace Go.Proofs.YtjkiehmjffgnlaaGreatDoor
set_option linter.unusedVariables false
set_option linter.unusedSimpArgs false
open Go.RowKit

def KPart (B : Nat) (v : Value) (d : List PartD) (w : World) : Prop := OwnT 43 2 B (d.map PartD.cells) v w
theorem app_part {B : Nat} {v : Value} {d : List PartD} (p : PartD) {w : World} (h : KPart B v d w) (hB : B ≤ w.heap.size) (hl : d.length ≤ 1000000000) :
    ∃ v1 w1, (Builtin.append_ #[25, 25] 25 #[v, .slice (some ⟨w.heap.size, 0, none⟩) 1 1]).run Tryz.prog (w.alloc (.cells #[.int .i64 p.code, .slice p.A p.m p.c] 43 (0, 0))) = .ok v1 w1 ∧ KPart B v1 (d ++ [p]) w1 ∧ Below B w w1 := by
  have hba : Below w.heap.size w (w.alloc (.cells #[.int .i64 p.code, .slice p.A p.m p.c] 43 (0, 0))) := (Below.refl _ _).alloc (Nat.le_refl _) _
  have hq := heap_alloc_new w (.cells #[.int .i64 p.code, .slice p.A p.m p.c] 43 (0, 0))
  obtain ⟨v1, w1, run1, o1, b1, -, -⟩ := run_appT elemPt 25 (OwnT.below h hba) (some ⟨w.heap.size, 0, none⟩) 1 1 (news := [p.cells]) rfl (Nat.le_refl _) (fun r hr => by rw [List.mem_singleton.1 hr]; rfl) (fun _ => ⟨_, 0, rfl, fun j r hr c u hu => by
      match j, hr with
      | 0, hr =>
        injection hr with hr
        subst hr
        rw [Nat.zero_mul, Nat.zero_add, Nat.zero_add]
        simp only [World.cell?, hq]
        rw [← hu]
        simp [PartD.cells]
      | j + 1, hr => simp at hr⟩) (fun r hr u hu => by rw [List.mem_singleton.1 hr] at hu; exact PartD.one _ u hu) (by rw [List.length_map]; omega) (Nat.le_trans hB hba.size)
  exact ⟨v1, w1, run1, by unfold KPart; rw [List.map_append]; exact o1, ⟨b1.os.trans hba.os, b1.tape.trans hba.tape, b1.output.trans hba.output, Nat.le_trans hba.size b1.size, fun k hk => (b1.block k hk).trans (hba.block k (by omega))⟩⟩
def PartsR (B : Nat) (d : List PartD) (w : World) (e : Ending) (w' : World) : Prop := ∃ v', e = .returned v' ∧ KPart B v' d w' ∧ Below B w w'
set_option maxHeartbeats 16000000 in
set_option maxRecDepth 100000 in
set_option linter.unusedSimpArgs false in
theorem parts_any (p q : PartD) (w : World) : Calls Tryz.prog 28 #[.int .i64 p.code, .slice p.A p.m p.c, .int .i64 q.code, .slice q.A q.m q.c] w (PartsR w.heap.size (fullD [p, q]) w) := by
  have h0 : KPart w.heap.size (.slice none 0 0) [] w := OwnT.nil _ _ _ _
  obtain ⟨E, hEE⟩ : ∃ E, E = PartsR w.heap.size (fullD [p, q]) w := ⟨_, rfl⟩
  rw [← hEE]
  have HEE := Lib.hid hEE
  clear hEE
  by_cases hp : p.m = 0
  · have k1 : ¬ (0 : Int) < (p.m : Int) := by omega
    by_cases hq : q.m = 0
    · have k2 : ¬ (0 : Int) < (q.m : Int) := by omega
      have HF := Lib.hid (show fullD [p, q] = [] by unfold fullD; rw [List.filter_cons, if_neg (by rw [decide_eq_true hp]; simp), List.filter_cons, if_neg (by rw [decide_eq_true hq]; simp)]; rfl)
      have H0 := Lib.hid h0
      clear hp hq h0
      go_enter Tryz.func28, Tryz.ntmps28
      go_wp2
      rw [HEE.out, HF.out]
      exact ⟨_, rfl, H0.out, Below.refl _ _⟩
    · have k2 : (0 : Int) < (q.m : Int) := by omega
      have HF := Lib.hid (show fullD [p, q] = [q] by unfold fullD; rw [List.filter_cons, if_neg (by rw [decide_eq_true hp]; simp), List.filter_cons, if_pos (by rw [decide_eq_false hq]; rfl)]; rfl)
      obtain ⟨v1, w1, run1, o1, b1⟩ := app_part q h0 (Nat.le_refl _) (by simp)
      have HR := Lib.hid run1
      have HO := Lib.hid o1
      have HB := Lib.hid b1
      clear hp hq h0 run1 o1 b1
      go_enter Tryz.func28, Tryz.ntmps28
      go_wp2_with (at_builtin; refine wpList_app_run (by rfl) _ _ rfl rfl rfl HR.out ?_)
      rw [HEE.out, HF.out]
      exact ⟨_, rfl, HO.out, HB.out⟩
  · have k1 : (0 : Int) < (p.m : Int) := by omega
    obtain ⟨v1, w1, run1, o1, b1⟩ := app_part p h0 (Nat.le_refl _) (by simp)
    have HR := Lib.hid run1
    by_cases hq : q.m = 0
    · have k2 : ¬ (0 : Int) < (q.m : Int) := by omega
      have HF := Lib.hid (show fullD [p, q] = [p] by unfold fullD; rw [List.filter_cons, if_pos (by rw [decide_eq_false hp]; rfl), List.filter_cons, if_neg (by rw [decide_eq_true hq]; simp)]; rfl)
      have HO := Lib.hid o1
      have HB := Lib.hid b1
      clear hp hq h0 run1 o1 b1
      go_enter Tryz.func28, Tryz.ntmps28
      go_wp2_with (at_builtin; refine wpList_app_run (by rfl) _ _ rfl rfl rfl HR.out ?_)
      rw [HEE.out, HF.out]
      exact ⟨_, rfl, HO.out, HB.out⟩
    · have k2 : (0 : Int) < (q.m : Int) := by omega
      have HF := Lib.hid (show fullD [p, q] = [p, q] by unfold fullD; rw [List.filter_cons, if_pos (by rw [decide_eq_false hp]; rfl), List.filter_cons, if_pos (by rw [decide_eq_false hq]; rfl)]; rfl)
      obtain ⟨v2, w2, run2, o2, b2⟩ := app_part q o1 b1.size (by simp)
      have HR2 := Lib.hid run2
      have HO := Lib.hid o2
      have HB := Lib.hid (show Below w.heap.size w w2 from b1.trans b2)
      clear hp hq h0 run1 o1 b1 run2 o2 b2
      go_enter Tryz.func28, Tryz.ntmps28
      go_wp2_with (at_builtin; first | refine wpList_app_run (by rfl) _ _ rfl rfl rfl HR.out ?_ | refine wpList_app_run (by rfl) _ _ rfl rfl rfl HR2.out ?_)
      rw [HEE.out, HF.out]
      exact ⟨_, rfl, HO.out, HB.out⟩
end Go.Proofs.YtjkiehmjffgnlaaGreatDoor
namespace Go.Proofs.YtjkiehmjffgnlaaGreatDoor
set_option linter.unusedVariables false
set_option linter.unusedSimpArgs false
open Go.RowKit

theorem step_app_run {P : Program} {t : TypeId} {ops : Array Oper} {o : Oper} {a : Act} {K : Act → World → Prop} {Q : Exit → Act → World → Prop} {X : Prop} {w w' : World} {u v v' : Value} (hgd : o.guard = none) (s x : Operand)
    (ho : o.op = .call { callee := .builtin .append, args := #[s, x], argTypes := #[t, t] }) (hs : a.eval s = v) (hx : a.eval x = u) (hrun : (Builtin.append_ #[t, t] o.type #[v, u]).run P w = .ok v' w')
    (h : K (a.put o.dst v') w') : if Region.wanted o (yielded ops a.tmps) = true then Oper.wp P o a w K Q else X := by
  have hw : Region.wanted o (yielded ops a.tmps) = true := by simp [Region.wanted, hgd]
  rw [if_pos hw]
  unfold Oper.wp execOp
  simp only [ho, resolve, invoke, builtin, Sem.run_bind, Sem.run_pure, Result.andThen_ok, List.map_toArray, List.map_cons, List.map_nil, hs, hx, hrun]
  exact h
def zeroD : NodeD := ⟨.mk [] [] [] [] [], none, 0, 0, none, 0, 0⟩
theorem add_ready {B : Nat} {v : Value} {d : List NodeD} {w : World} {z : Nat} (h : KRow B v d w) (hB : B ≤ w.heap.size) (hz : w.heap[z]? = some (.cells #[.string ⟨#[]⟩, .string ⟨#[]⟩, .string ⟨#[]⟩, .slice none 0 0, .slice none 0 0] 46 (0, 0))) (hl : d.length ≤ 1000000000) :
    ∃ g cap w1, (Builtin.append_ #[22, 22] 22 #[v, .slice (some ⟨z, 0, none⟩) 1 1]).run Tryz.prog w = .ok (.slice (some ⟨g, 0, none⟩) (d.length + 1) cap) w1 ∧ KRow B (.slice (some ⟨g, 0, none⟩) (d.length + 1) cap) (d ++ [zeroD]) w1 ∧ d.length + 1 ≤ cap ∧ cap ≤ maxLen ∧ RGr v.ownBlock (some g) w w1 ∧
      ∀ (p : NodeD) (w2 : World), KRow B (.slice (some ⟨g, 0, none⟩) (d.length + 1) cap) (d ++ [zeroD]) w2 → ∀ f0 f1 f2 f3 f4 : Value, p.cells = [f0, f1, f2, f3, f4] → ∃ W1 W2 W3 W4 W5, (store ⟨g, d.length * 5, none⟩ f0).run Tryz.prog w2 = .ok () W1 ∧ (store ⟨g, d.length * 5 + 1, none⟩ f1).run Tryz.prog W1 = .ok () W2 ∧ (store ⟨g, d.length * 5 + 2, none⟩ f2).run Tryz.prog W2 = .ok () W3 ∧
        (store ⟨g, d.length * 5 + 3, none⟩ f3).run Tryz.prog W3 = .ok () W4 ∧ (store ⟨g, d.length * 5 + 4, none⟩ f4).run Tryz.prog W4 = .ok () W5 ∧ KRow B (.slice (some ⟨g, 0, none⟩) (d.length + 1) cap) (d ++ [p]) W5 ∧ RGr (some g) (some g) w2 W5 := by
  obtain ⟨v1, w1, run1, o1, b1, g1, p1⟩ := run_appT elemN 22 h (some ⟨z, 0, none⟩) 1 1 (news := [zeroD.cells]) rfl (Nat.le_refl _) (fun r hr => by rw [List.mem_singleton.1 hr]; rfl) (fun _ => ⟨_, 0, rfl, fun j r hr c u hu => by
      match j, hr with
      | 0, hr =>
        injection hr with hr
        subst hr
        rw [Nat.zero_mul, Nat.zero_add, Nat.zero_add]
        simp only [World.cell?, hz]
        rw [← hu]
        simp [zeroD, NodeD.cells, NodeT.text, NodeT.space, NodeT.name]
      | j + 1, hr => simp at hr⟩) (fun r hr u hu => by rw [List.mem_singleton.1 hr] at hu; exact encD.one _ u hu) (by rw [List.length_map]; omega) hB
  have ho : KRow B v1 (d ++ [zeroD]) w1 := by unfold KRow; rw [List.map_append]; exact o1
  rcases ho.form with ⟨-, he⟩ | ⟨g, cap, rfl, hr⟩
  · simp at he
  have hlen : (d ++ [zeroD]).length = d.length + 1 := by rw [List.length_append]; rfl
  obtain ⟨hc1, hc2⟩ := hr.len
  rw [hlen] at ho run1 hc1
  refine ⟨g, cap, w1, run1, ho, hc1, hc2, RGr.of g1 (p1.imp id fun e => ⟨_, e, Nat.le_refl _⟩), fun p w2 hb f0 f1 f2 f3 f4 hp => ?_⟩
  obtain ⟨V1, V2, V3, V4, V5, s0, s1, s2, s3, s4, ho9, hg9, -⟩ := stores_five Tryz.prog hb (g := g) rfl (j := d.length) (by rw [List.length_map, hlen]; exact Nat.lt_succ_self _) f0 f1 f2 f3 f4 (fun u hu => encD.one p u (by show u ∈ p.cells; rw [hp]; exact hu))
  refine ⟨V1, V2, V3, V4, V5, s0, s1, s2, s3, s4, ?_, RGr.of hg9 (.inl rfl)⟩
  unfold KRow
  rw [← hp] at ho9
  have e : (d ++ [p]).map NodeD.cells = ((d ++ [zeroD]).map NodeD.cells).set d.length p.cells := by
    rw [List.map_append, List.map_append, List.set_append_right _ _ (by rw [List.length_map]; exact Nat.le_refl _), List.length_map, Nat.sub_self]
    rfl
  rw [e]
  exact ho9
end Go.Proofs.YtjkiehmjffgnlaaGreatDoor
namespace Go.Proofs.YtjkiehmjffgnlaaGreatDoor
set_option linter.unusedVariables false
set_option linter.unusedSimpArgs false
open Go.RowKit

theorem ActS.start {w w' w3 : World} {l : LockT} {A : Option Addr} {c : Nat} {v : Value} {d : List NodeD} (h0 : w'.heap[w.heap.size]? = some (.cells (lockCells l A c).toArray 48 (0, 0)))
    (h1 : w'.heap[w.heap.size + 1]? = some (.cells #[.string ⟨#[]⟩, .string ⟨#[]⟩, .string ⟨#[]⟩, .slice none 0 0, .slice none 0 0] 46 (0, 0))) (hb : Below w.heap.size w w') (hk : KRow w'.heap.size v d w3) (hn : ∀ p ∈ d, NodeP (fun k => w'.heap.size ≤ k ∧ some k ≠ v.ownBlock) w3 p.cells p.x) (hb3 : Below w'.heap.size w' w3) : ActS w w.heap.size l A c v (d.map (·.x)) w3 := by
  have hs := xlt h1
  refine ⟨(hb3.block _ (xlt h0)).trans h0, (hb3.block _ (xlt h1)).trans h1, ⟨d.map NodeD.cells, hk.mono (by omega), by simp, fun j r x hr hx => ?_⟩, hb.trans (hb3.mono hb.size), rfl⟩
  rw [List.getElem?_map] at hr hx
  cases hj : d[j]? with
  | none => rw [hj] at hr; cases hr
  | some p =>
    rw [hj] at hr hx
    injection hr with hr
    injection hx with hx
    subst hr hx
    exact (hn p (List.mem_of_getElem? hj)).move (Moves.same _ fun k hk _ => ⟨by omega, hk.2⟩)
theorem parse_made (s : List UInt8) (w : World) (hs : s.length ≤ 2 ^ 63 - 1) (hE : XEnv w) : Calls Tryz.prog 49 #[.string ⟨s.toArray⟩] w (fun e w' => Below w.heap.size w w' ∧ ∃ av kv, e = .returned (.tuple #[.agg #[.string ⟨(outN (parseX s)).text.toArray⟩, .string ⟨(outN (parseX s)).space.toArray⟩, .string ⟨(outN (parseX s)).name.toArray⟩, av, kv], .int .i64 (outE (parseX s))]) ∧
    AttrsP (w.heap.size ≤ ·) w' av (outN (parseX s)).attrs ∧ NodesP (w.heap.size ≤ ·) w' kv (outN (parseX s)).kids) := by
  refine (xparse_any s w hs hE).mono ?_
  rintro e w' ⟨hb, h⟩
  refine ⟨hb, ?_⟩
  cases hx : parseX s with
  | error k =>
    rw [hx] at h
    exact ⟨.slice none 0 0, .slice none 0 0, h, TabP.nil _ _ _ _, TabP.nil _ _ _ _⟩
  | ok n =>
    rw [hx] at h
    obtain ⟨av, kv, rfl, ha, hk⟩ := h
    exact ⟨av, kv, rfl, ha, hk⟩
theorem node_one {w : World} {P : Nat → Prop} {t s n : List UInt8} {av kv : Value} {ats : List AttrT} {ks : List NodeT} (ha : AttrsP P w av ats) (hk : NodesP P w kv ks) : ∀ u ∈ [(.string ⟨t.toArray⟩ : Value), .string ⟨s.toArray⟩, .string ⟨n.toArray⟩, av, kv], u.oneCell' = true := by
  obtain ⟨aA, ac, rfl⟩ := tab_shape ha.1
  obtain ⟨kA, kc, rfl⟩ := tab_shape hk.1
  intro u hu
  simp only [List.mem_cons, List.not_mem_nil, or_false] at hu
  rcases hu with rfl | rfl | rfl | rfl | rfl <;> rfl
theorem ldav_vals (nm : List UInt8) (kA : Option Addr) (m kc : Nat) (w : World) : Calls Tryz.prog 35 #[.string ⟨nm.toArray⟩, .slice kA m kc] w (fun e w' => ∃ f0 f1 f2 f3 f4, e = .returned (.agg #[f0, f1, f2, f3, f4]) ∧ [f0, f1, f2, f3, f4] = [.string ⟨#[]⟩, .string ⟨#[68, 65, 86, 58]⟩, .string ⟨nm.toArray⟩, .slice none 0 0, .slice kA m kc] ∧ w' = w.alloc (.cells #[.string ⟨#[]⟩, .string ⟨#[68, 65, 86, 58]⟩, .string ⟨nm.toArray⟩, .slice none 0 0, .slice kA m kc] 46 (0, 0))) := by
  refine (ldav_ex nm kA m kc w).mono ?_
  rintro e w' ⟨rfl, rfl⟩
  exact ⟨_, _, _, _, _, rfl, rfl, rfl⟩
theorem act_vals {w0 w w1 : World} {q m kc : Nat} {kA : Option Addr} {xs : List NodeT} {nm : List UInt8} {f0 f1 f2 f3 f4 : Value} (hf : [f0, f1, f2, f3, f4] = [.string ⟨#[]⟩, .string ⟨#[68, 65, 86, 58]⟩, .string ⟨nm.toArray⟩, .slice none 0 0, .slice kA m kc]) (hq : q = w0.heap.size) (hz : w.heap[q + 1]? = some (.cells #[.string ⟨#[]⟩, .string ⟨#[]⟩, .string ⟨#[]⟩, .slice none 0 0, .slice none 0 0] 46 (0, 0))) (hlo : Below q w0 w) (hN : NodesP (fun k => q + 1 < k) w (.slice kA m kc) xs)
    (h : w1 = w.alloc (.cells #[.string ⟨#[]⟩, .string ⟨#[68, 65, 86, 58]⟩, .string ⟨nm.toArray⟩, .slice none 0 0, .slice kA m kc] 46 (0, 0))) :
    ∃ W1 W2 W3 W4 W5, (store ⟨q + 1, 0, none⟩ f0).run Tryz.prog w1 = .ok () W1 ∧ (store ⟨q + 1, 1, none⟩ f1).run Tryz.prog W1 = .ok () W2 ∧ (store ⟨q + 1, 2, none⟩ f2).run Tryz.prog W2 = .ok () W3 ∧ (store ⟨q + 1, 3, none⟩ f3).run Tryz.prog W3 = .ok () W4 ∧ (store ⟨q + 1, 4, none⟩ f4).run Tryz.prog W4 = .ok () W5 ∧
      W5.heap[q + 1]? = some (.cells #[f0, f1, f2, f3, f4] 46 (0, 0)) ∧ ActP w0 (.returned (.agg #[f0, f1, f2, f3, f4])) W5 ∧ Below (q + 1) w W5 := by
  simp only [List.cons.injEq, and_true] at hf
  obtain ⟨rfl, rfl, rfl, rfl, rfl⟩ := hf
  exact act_final hq hz hlo hN h
def depthW (b : Bool) : List UInt8 := if b then [105, 110, 102, 105, 110, 105, 116, 121] else [48]
set_option maxHeartbeats 32000000 in
set_option maxRecDepth 100000 in
set_option linter.unusedSimpArgs false in
theorem active_any (l : LockT) (A : Option Addr) (c : Nat) (now : Int) (w : World) (h : Strs w (.slice A l.path.length c) l.path) (hf : Fits l.path) (ho : l.owner.length ≤ 2 ^ 63 - 1) (hd0 : -9223372036854775808 ≤ l.upto - now) (hd1 : l.upto - now ≤ 9223372036854775807) (hE : MEnv w) :
    Calls Tryz.prog 37 #[.agg (lockCells l A c).toArray, .int .i64 now] w (ActP w) := by
  obtain ⟨hb0, hq0, hq1⟩ := two_alloc w (.cells (lockCells l A c).toArray 48 (0, 0)) (.cells #[.string ⟨#[]⟩, .string ⟨#[]⟩, .string ⟨#[]⟩, .slice none 0 0, .slice none 0 0] 46 (0, 0))
  have HQ0 := Lib.hid hq0
  have HQ1 := Lib.hid hq1
  have HB0 := Lib.hid hb0
  have HS := Lib.hid h
  have HF := Lib.hid hf
  have HE := Lib.hid hE
  have HD0 := Lib.hid hd0
  have HD1 := Lib.hid hd1
  obtain ⟨E, hEE⟩ : ∃ E, E = ActP w := ⟨_, rfl⟩
  rw [← hEE]
  have HEE := Lib.hid hEE
  clear hEE hb0 hq0 hq1 h hf hE hd0 hd1
  obtain ⟨tk, path, dp, ex, ow, up⟩ := l
  replace HS : Hid (Strs w (.slice A path.length c) path) := HS
  replace HF : Hid (Fits path) := HF
  replace HD0 : Hid (-9223372036854775808 ≤ up - now) := HD0
  replace HD1 : Hid (up - now ≤ 9223372036854775807) := HD1
  replace ho : ow.length ≤ 2 ^ 63 - 1 := ho
  replace HQ0 : Hid (((w.alloc (.cells #[.string ⟨tk.toArray⟩, .slice A path.length c, .bool dp, .bool ex, .string ⟨ow.toArray⟩, .int .i64 up] 48 (0, 0))).alloc (.cells #[.string ⟨#[]⟩, .string ⟨#[]⟩, .string ⟨#[]⟩, .slice none 0 0, .slice none 0 0] 46 (0, 0))).heap[w.heap.size]? = some (.cells #[.string ⟨tk.toArray⟩, .slice A path.length c, .bool dp, .bool ex, .string ⟨ow.toArray⟩, .int .i64 up] 48 (0, 0))) := HQ0
  replace HQ1 : Hid (((w.alloc (.cells #[.string ⟨tk.toArray⟩, .slice A path.length c, .bool dp, .bool ex, .string ⟨ow.toArray⟩, .int .i64 up] 48 (0, 0))).alloc (.cells #[.string ⟨#[]⟩, .string ⟨#[]⟩, .string ⟨#[]⟩, .slice none 0 0, .slice none 0 0] 46 (0, 0))).heap[w.heap.size + 1]? = some (.cells #[.string ⟨#[]⟩, .string ⟨#[]⟩, .string ⟨#[]⟩, .slice none 0 0, .slice none 0 0] 46 (0, 0))) := HQ1
  replace HB0 : Hid (Below w.heap.size w ((w.alloc (.cells #[.string ⟨tk.toArray⟩, .slice A path.length c, .bool dp, .bool ex, .string ⟨ow.toArray⟩, .int .i64 up] 48 (0, 0))).alloc (.cells #[.string ⟨#[]⟩, .string ⟨#[]⟩, .string ⟨#[]⟩, .slice none 0 0, .slice none 0 0] 46 (0, 0)))) := HB0
  show Calls Tryz.prog 37 #[.agg #[.string ⟨tk.toArray⟩, .slice A path.length c, .bool dp, .bool ex, .string ⟨ow.toArray⟩, .int .i64 up], .int .i64 now] w E
  obtain ⟨L, hL⟩ : ∃ L : LockT, L = ⟨tk, path, dp, ex, ow, up⟩ := ⟨_, rfl⟩
  have HL := Lib.hid hL
  clear hL
  go_enter Tryz.func37, Tryz.ntmps37
  go_upto_if 12 with (fail)
  have x0 := xat HQ0.out 0
  have x1 := xat HQ0.out 1
  have x2 := xat HQ0.out 2
  have x3 := xat HQ0.out 3
  have x4 := xat HQ0.out 4
  have x5 := xat HQ0.out 5
  simp only [List.getElem?_toArray, List.getElem?_cons_zero, List.getElem?_cons_succ] at x0 x1 x2 x3 x4 x5
  generalize (w.alloc (.cells #[.string ⟨tk.toArray⟩, .slice A path.length c, .bool dp, .bool ex, .string ⟨ow.toArray⟩, .int .i64 up] 48 (0, 0))).alloc (.cells #[.string ⟨#[]⟩, .string ⟨#[]⟩, .string ⟨#[]⟩, .slice none 0 0, .slice none 0 0] 46 (0, 0)) = W at *
  obtain ⟨q1, hq1⟩ : ∃ q1, q1 = w.heap.size + 1 := ⟨_, rfl⟩
  rw [← hq1] at HQ1 ⊢
  obtain ⟨q, hq⟩ : ∃ q, q = w.heap.size := ⟨_, rfl⟩
  rw [← hq] at HQ0 HB0 x0 x1 x2 x3 x4 x5 ⊢
  have HLk := Lib.hid (fun (v : Value) (ks : List NodeT) (w' : World) (h : ActS w q L A c v ks w') => show w'.heap[q]? = some (.cells #[.string ⟨tk.toArray⟩, .slice A path.length c, .bool dp, .bool ex, .string ⟨ow.toArray⟩, .int .i64 up] 48 (0, 0)) from by
    have h1 := h.lk; rw [HL.out] at h1; exact h1)
  have HQL := Lib.hid (show W.heap[q]? = some (.cells (lockCells L A c).toArray 48 (0, 0)) from by rw [HL.out]; exact HQ0.out)
  have HQq := Lib.hid hq
  have HQq1 := Lib.hid (show q1 = q + 1 by rw [hq]; exact hq1)
  clear hq hq1
  go_cut [5] (fun v wc => v = .string ⟨(depthW dp).toArray⟩ ∧ wc = W)
  case first =>
    cases dp
    all_goals
      go_wp2
      go_meet
      exact ⟨rfl, rfl⟩
  case rest =>
  obtain ⟨rfl, rfl⟩ := hcut
  go_wp2_with fail
  refine (lscope_any ex wc).mono ?_
  rintro e w3 ⟨v3, d, rfl, hdx, hk, hn, hb⟩
  have S3 : ActS w q L A c v3 (scopeN ex) w3 := by
    have h0 := HQL.out
    have h1 := HQ1.out
    have h2 := HB0.out
    rw [HQq1.out] at h1
    rw [HQq.out] at h0 h1 h2 ⊢
    exact hdx ▸ ActS.start h0 h1 h2 hk hn hb
  clear hdx hk hn hb x0 x1 x2 x3 x4 x5 HQ0 HQL HQ1 HB0
  go_wp2_with fail
  refine (ltext_any _ _ w3).mono ?_
  rintro e w4 hm
  obtain ⟨f0, f1, f2, f3, f4, rfl, hn4, hb4, h14⟩ := hm.vals
  obtain ⟨v5, w5, run5, S5⟩ := (S3.under hb4).app 22 (S3.node hn4) h14 (by cases ex <;> decide)
  obtain ⟨ks5, hl5, S5⟩ : ∃ ks5 : List NodeT, ks5.length ≤ 4 ∧ ActS w q L A c v5 ks5 w5 := ⟨_, by cases ex <;> simp [scopeN], S5⟩
  have HR5 := Lib.hid run5
  have HS5 := Lib.hid S5
  have y4 := xat (HLk.out _ _ _ S5) 4
  simp only [List.getElem?_toArray, List.getElem?_cons_zero, List.getElem?_cons_succ] at y4
  clear hm hn4 hb4 h14 run5 S5 S3
  have HP5 := Lib.hid (parse_made ow w5 ho (HE.out.below (HQq.out ▸ HS5.out.lo)).x)
  go_wp2_with (first | (at_builtin; refine wpList_app_run (by rfl) _ _ rfl rfl rfl HR5.out ?_) | fail)
  refine HP5.out.mono ?_
  rintro e w6 ⟨hb6, av, kv, rfl, ha6, hk6⟩
  obtain ⟨aA, ac, rfl⟩ := tab_shape ha6.1
  obtain ⟨kA, kc, rfl⟩ := tab_shape hk6.1
  have HS6 := Lib.hid (HS5.out.under hb6)
  obtain ⟨X, hX⟩ : ∃ X, X = parseX ow := ⟨_, rfl⟩
  rw [← hX] at ha6 hk6 ⊢
  have HX := Lib.hid hX
  clear hX y4 HR5 HP5
  have HB6 := Lib.hid hb6
  have HA6 := Lib.hid ha6
  have HK6 := Lib.hid hk6
  have h1n := node_one (t := (outN X).text) (s := (outN X).space) (n := (outN X).name) ha6 hk6
  clear ha6 hk6 hb6
  have hba : Below w6.heap.size w6 (w6.alloc (.cells #[.string ⟨(outN X).text.toArray⟩, .string ⟨(outN X).space.toArray⟩, .string ⟨(outN X).name.toArray⟩, .slice aA (outN X).attrs.length ac, .slice kA (outN X).kids.length kc] 46 (0, 0))) := (Below.refl _ _).alloc (Nat.le_refl _) _
  have hza := heap_alloc_new w6 (.cells #[.string ⟨(outN X).text.toArray⟩, .string ⟨(outN X).space.toArray⟩, .string ⟨(outN X).name.toArray⟩, .slice aA (outN X).attrs.length ac, .slice kA (outN X).kids.length kc] 46 (0, 0))
  go_upto_if 27 with (fail)
  generalize w6.alloc (.cells #[.string ⟨(outN X).text.toArray⟩, .string ⟨(outN X).space.toArray⟩, .string ⟨(outN X).name.toArray⟩, .slice aA (outN X).attrs.length ac, .slice kA (outN X).kids.length kc] 46 (0, 0)) = w7 at *
  obtain ⟨q7, hq7⟩ : ∃ q7, q7 = w6.heap.size := ⟨_, rfl⟩
  rw [← hq7] at hza ⊢
  clear hq7
  have HS7 := Lib.hid (HS6.out.under hba)
  have HB7 := Lib.hid hba
  have HZ7 := Lib.hid hza
  have z0 := xat hza 0
  have z1 := xat hza 1
  have z2 := xat hza 2
  have z3 := xat hza 3
  have z4 := xat hza 4
  simp only [List.getElem?_toArray, List.getElem?_cons_zero, List.getElem?_cons_succ] at z0 z1 z2 z3 z4
  clear hba hza
  go_cut [6] (fun v wc => ∃ ks, ks.length ≤ 10 ∧ Hid (ActS w q L A c v ks wc))
  case first =>
    rcases X with k | n
    · have hk0 : ¬ k = 0 := by rcases parse_err HX.out.symm with rfl | rfl | rfl <;> decide
      rw [show outE (Except.error k : Except Int NodeT) = k from rfl]
      go_wp2
      go_meet
      exact ⟨ks5, by omega, HS7⟩
    · rw [show outE (Except.ok n : Except Int NodeT) = 0 from rfl]
      rw [show outN (Except.ok n : Except Int NodeT) = n from rfl] at *
      have HPb := Lib.hid (parse_bulk HX.out.symm)
      have HWr := Lib.hid (xwrite_any n (.slice aA n.attrs.length ac) (.slice kA n.kids.length kc) w7 ((HA6.out.move (Moves.same _ fun _ _ _ => trivial)).under HB7.out) ((HK6.out.move (Moves.same _ fun _ _ _ => trivial)).under HB7.out) HPb.out.1 (HE.out.below (HQq.out ▸ HS7.out.lo)).x HPb.out.2)
      go_wp2_with fail
      refine HWr.out.mono ?_
      rintro e w8 ⟨hb8, hw⟩
      obtain ⟨S, K, hS⟩ : ∃ (S : List UInt8) (K : Int), e = .returned (.tuple #[.string ⟨S.toArray⟩, .int .i64 K]) := by
        cases hwx : writeX n with
        | error k => rw [hwx] at hw; exact ⟨[], k, hw⟩
        | ok s => rw [hwx] at hw; exact ⟨s, 0, hw⟩
      subst hS
      have HS8 := Lib.hid (HS7.out.under hb8)
      have hz8 := (hb8.block _ (xlt HZ7.out)).trans HZ7.out
      have z0 := xat hz8 0
      have z1 := xat hz8 1
      have z2 := xat hz8 2
      have z3 := xat hz8 3
      have z4 := xat hz8 4
      have y4 := xat (HLk.out _ _ _ HS8.out) 4
      simp only [List.getElem?_toArray, List.getElem?_cons_zero, List.getElem?_cons_succ] at z0 z1 z2 z3 z4 y4
      obtain ⟨v9, w9, run9, S9⟩ := HS8.out.app (x := n) 22 (f0 := .string ⟨n.text.toArray⟩) (f1 := .string ⟨n.space.toArray⟩) (f2 := .string ⟨n.name.toArray⟩) (f3 := .slice aA n.attrs.length ac) (f4 := .slice kA n.kids.length kc) (by
        have h9 := HB6.out.size
        have h8 := HB7.out.size
        have hnd : NodeP (fun k => w5.heap.size ≤ k) w6 [.string ⟨n.text.toArray⟩, .string ⟨n.space.toArray⟩, .string ⟨n.name.toArray⟩, .slice aA n.attrs.length ac, .slice kA n.kids.length kc] n := node_of HA6.out HK6.out
        exact HS5.out.node ((hnd.move (Moves.below HB7.out fun k hk _ => hk)).move (Moves.below hb8 fun k hk _ => hk))) h1n (by omega)
      have HR9 := Lib.hid run9
      have HS9 := Lib.hid S9
      clear hw hb8 hz8 run9 S9 HWr HPb
      obtain ⟨eq, heq⟩ : ∃ eq, (S == ow) = eq := ⟨_, rfl⟩
      cases eq
      · go_wp2
        go_meet
        exact ⟨ks5, by omega, HS8⟩
      · go_wp2_with (at_builtin; refine wpList_app_run (by rfl) _ _ rfl rfl rfl HR9.out ?_)
        go_meet
        exact ⟨_, by rw [List.length_append]; simp only [List.length_cons, List.length_nil]; omega, HS9⟩
  case rest =>
  obtain ⟨ks, hkl, HSr⟩ := hcut
  clear z0 z1 z2 z3 z4 HZ7 HB7 HS7 HA6 HK6 h1n HB6 HS6 HS5 HX hl5
  have y := HLk.out _ _ _ HSr.out
  have y0 := xat y 0
  have y1 := xat y 1
  have y5 := xat y 5
  simp only [List.getElem?_toArray, List.getElem?_cons_zero, List.getElem?_cons_succ] at y0 y1 y5
  obtain ⟨D, hDe⟩ : ∃ D, D = Lib.itoa (up - now) := ⟨_, rfl⟩
  have hDl : D.length ≤ 21 := by rw [hDe]; exact Lib.itoa_length_le _ HD0.out HD1.out
  have hDs : ¬ 9223372036854775807 < 7 + D.length := by omega
  have HFm := Lib.hid (fun (wa : World) (h : LkS wc q tk (.slice A path.length c) up wa) => (show Calls Tryz.prog 46 #[.int .i64 (up - now), .int .i64 10] wa (Ret (.string ⟨D.toArray⟩) wa) from by
    rw [hDe]
    exact lfmt_any (up - now) wa HD0.out HD1.out (HE.out.below (HQq.out ▸ (HSr.out.lo.trans (h.2.2.2.mono (Nat.le_succ _)))))))
  have HUt := Lib.hid (fun (wa : World) (h : LkS wc q tk (.slice A path.length c) up wa) => (show Calls Tryz.prog 51 #[.slice A path.length c] wa (Ret (.string ⟨(UriN.textS path).toArray⟩) wa) from by
    have hb : Below w.heap.size w wa := HQq.out ▸ (HSr.out.lo.trans (h.2.2.2.mono (Nat.le_succ _)))
    exact UriN.text_any (.slice A path.length c) path wa (HS.out.below hb (Nat.le_refl _)) HF.out (HE.out.below hb).x.env))
  obtain ⟨UT, hUT⟩ : ∃ UT, UT = UriN.textS path := ⟨_, rfl⟩
  rw [← hUT] at HUt
  have hsub : IntKind.i64.wrap (up - now) = up - now := IntWalk.i64_in _ (by have := HD0.out; have := HD1.out; omega)
  have hS0 : wc.drew.cell? ⟨q, 0, none⟩ = some (.string ⟨tk.toArray⟩) ∧ wc.drew.cell? ⟨q, 1, none⟩ = some (.slice A path.length c) ∧ wc.drew.cell? ⟨q, 5, none⟩ = some (.int .i64 up) ∧ Below (q + 1) wc wc.drew := ⟨y0, y1, y5, below_draws (Below.refl _ _) 1⟩
  have Hk := Lib.hid (fun (wa wb : World) (h : LkS wc q tk (.slice A path.length c) up wa) (hb : Below (q + 1) wa wb) => (show wb.cell? ⟨q, 0, none⟩ = some (.string ⟨tk.toArray⟩) ∧ wb.cell? ⟨q, 1, none⟩ = some (.slice A path.length c) ∧ wb.cell? ⟨q, 5, none⟩ = some (.int .i64 up) ∧ Below (q + 1) wc wb from h.keep hb))
  have HSz := Lib.hid (show q + 2 ≤ wc.heap.size from HSr.out.size)
  have HMn := Lib.hid (fun (wa wb : World) (h : LkS wc q tk (.slice A path.length c) up wa) (hb : Below wa.heap.size wa wb) => show Below (q + 1) wa wb ∧ Below wc.drew.heap.size wa wb from by
    have h1 := h.2.2.2.size
    have h2 := HSr.out.size
    exact ⟨hb.mono (by omega), hb.mono h1⟩)
  have Hka := Lib.hid (fun (wa : World) (o : Obj) (h : LkS wc q tk (.slice A path.length c) up wa) => (show (wa.alloc o).cell? ⟨q, 0, none⟩ = some (.string ⟨tk.toArray⟩) ∧ (wa.alloc o).cell? ⟨q, 1, none⟩ = some (.slice A path.length c) ∧ (wa.alloc o).cell? ⟨q, 5, none⟩ = some (.int .i64 up) ∧ Below (q + 1) wc (wa.alloc o) from h.keep ((Below.refl _ _).alloc (by have := h.2.2.2.size; have := HSr.out.size; omega) o)))
  clear y0 y1 y5 y hDe hUT HF HS HL HLk
  have HQ1 := Lib.hid (show q1 = q + 1 from HQq1.out)
  have hq1' := HQq1.out
  subst hq1'
  have HAp := Lib.hid (fun (w : World) (hb : Below wc.heap.size wc w) (a0 a1 a2 a3 a4 b0 b1 b2 b3 b4 c0 c1 c2 c3 c4 : Value) (x y z : NodeT) (hx : NodeP (fun k => wc.heap.size ≤ k) w [a0, a1, a2, a3, a4] x) (hy : NodeP (fun k => wc.heap.size ≤ k) w [b0, b1, b2, b3, b4] y) (hz : NodeP (fun k => wc.heap.size ≤ k) w [c0, c1, c2, c3, c4] z) => HSr.out.app3 22 hkl hb hx hy hz)
  have hd0 := below_draws (Below.refl wc.heap.size wc) 1
  go_wp2_with fail
  go_region_held3 (fun w' => w'.cell? ⟨q, 0, none⟩ = some (.string ⟨tk.toArray⟩) ∧ w'.cell? ⟨q, 1, none⟩ = some (.slice A path.length c) ∧ w'.cell? ⟨q, 5, none⟩ = some (.int .i64 up) ∧ Below (q + 1) wc w')
    (first | with_reducible exact hs20 | with_reducible exact hs19 | with_reducible exact hs18 | with_reducible exact hS0 | with_reducible exact hs11 | with_reducible exact hs12 | with_reducible exact hs13 | with_reducible exact hs14 | with_reducible exact hs15 | with_reducible exact hs16 | with_reducible exact hs17 | exact Hka.out w17 _ hs17 | exact Hka.out w16 _ hs16 | exact Hka.out w13 _ hs13)
    (first
      | (have _h := hs18; go_at_call 35; refine (ldav_vals [97, 99, 116, 105, 118, 101, 108, 111, 99, 107] _ _ _ _).mono ?_; rintro e w19 ⟨g0, g1, g2, g3, g4, rfl, hf, hw19⟩; obtain ⟨W1, W2, W3, W4, W5, s0, s1, s2, s3, s4, hW, hA, hk5⟩ := act_vals (nm := [97, 99, 116, 105, 118, 101, 108, 111, 99, 107]) hf HQq.out hz18 hlo18 hN18 hw19; have hk19 : Below (q + 1) w18 w19 := (by rw [hw19]; exact (Below.refl _ _).alloc (Nat.le_of_lt (xlt hz18)) _); have hs19 := Hk.out _ _ hs18 hk19; have hs20 := Hk.out _ _ hs18 hk5; clear hw19 hf)
      | (have _h := hs17; obtain ⟨kA8, m8, kc8, w18, xs8, hrun, hz18, hlo18, hN18, hk18⟩ := HAp.out w17 hr17 a0 a1 a2 a3 a4 _ _ _ _ _ _ _ _ _ _ _ _ _ hna hnd hne; refine step_app_run rfl (.tmp 41) (.tmp 60) rfl (by rfl) (by rfl) hrun ?_; have hs18 := Hk.out _ _ hs17 hk18; clear hrun)
      | (have _h := hs16; go_at_call 35; refine (ldav_ex [108, 111, 99, 107, 114, 111, 111, 116] _ _ _ _).mono ?_; rintro e w17 ⟨rfl, hw17⟩; obtain ⟨hb17, hne⟩ := dav_made [108, 111, 99, 107, 114, 111, 111, 116] (B := wc.heap.size) hr16.size (hnc.move (Moves.same _ fun k hk _ => Nat.le_trans hr15.size hk)) hw17; clear hw17; have hk17 := (HMn.out _ _ hs16 hb17).1; have hs17 := Hk.out _ _ hs16 hk17; have hr17 : Below wc.heap.size wc w17 := hr16.trans (hb17.mono hr16.size); replace hna := hna.move (Q := fun k => wc.heap.size ≤ k) (Moves.below hb17 fun k hk _ => hk); replace hnd := hnd.move (Q := fun k => wc.heap.size ≤ k) (Moves.below hb17 fun k hk _ => hk))
      | (have _h := hs15; go_at_call 44; refine (ltext_any [104, 114, 101, 102] UT w15).mono ?_; rintro e w16 hm16; obtain ⟨c0, c1, c2, c3, c4, rfl, hnc, hb16, h1c⟩ := hm16.vals; have hk16 := (HMn.out _ _ hs15 hb16).1; have hs16 := Hk.out _ _ hs15 hk16; have hr16 : Below wc.heap.size wc w16 := hr15.trans (hb16.mono hr15.size); replace hna := hna.move (Q := fun k => wc.heap.size ≤ k) (Moves.below hb16 fun k hk _ => hk); replace hnd := hnd.move (Q := fun k => wc.heap.size ≤ k) (Moves.below hb16 fun k hk _ => hk))
      | (have _h := hs14; go_at_call 51; refine (HUt.out w14 hs14).mono ?_; rintro e w15 ⟨rfl, hb15⟩; have hk15 := (HMn.out _ _ hs14 hb15).1; have hs15 := Hk.out _ _ hs14 hk15; have hr15 : Below wc.heap.size wc w15 := hr14.trans (hb15.mono hr14.size); replace hna := hna.move (Q := fun k => wc.heap.size ≤ k) (Moves.below hb15 fun k hk _ => hk); replace hnd := hnd.move (Q := fun k => wc.heap.size ≤ k) (Moves.below hb15 fun k hk _ => hk))
      | (have _h := hs13; go_at_call 35; refine (ldav_ex [108, 111, 99, 107, 116, 111, 107, 101, 110] _ _ _ _).mono ?_; rintro e w14 ⟨rfl, hw14⟩; obtain ⟨hb14, hnd⟩ := dav_made [108, 111, 99, 107, 116, 111, 107, 101, 110] (B := wc.heap.size) hr13.size (hnb.move (Moves.same _ fun k hk _ => Nat.le_trans hr12.size hk)) hw14; clear hw14; have hk14 := (HMn.out _ _ hs13 hb14).1; have hs14 := Hk.out _ _ hs13 hk14; have hr14 : Below wc.heap.size wc w14 := hr13.trans (hb14.mono hr13.size); replace hna := hna.move (Q := fun k => wc.heap.size ≤ k) (Moves.below hb14 fun k hk _ => hk))
      | (have _h := hs12; go_at_call 44; refine (ltext_any [104, 114, 101, 102] tk w12).mono ?_; rintro e w13 hm13; obtain ⟨b0, b1, b2, b3, b4, rfl, hnb, hb13, h1b⟩ := hm13.vals; have hk13 := (HMn.out _ _ hs12 hb13).1; have hs13 := Hk.out _ _ hs12 hk13; have hr13 : Below wc.heap.size wc w13 := hr12.trans (hb13.mono hr12.size); replace hna := hna.move (Q := fun k => wc.heap.size ≤ k) (Moves.below hb13 fun k hk _ => hk))
      | (have _h := hs11; go_at_call 44; refine (ltext_any [116, 105, 109, 101, 111, 117, 116] _ w11).mono ?_; rintro e w12 hm12; obtain ⟨a0, a1, a2, a3, a4, rfl, hna, hb12, h1a⟩ := hm12.vals; have hk12 := (HMn.out _ _ hs11 hb12).1; have hs12 := Hk.out _ _ hs11 hk12; have hr12 : Below wc.heap.size wc w12 := hr11.trans (hb12.mono hr11.size); replace hna := hna.move (Q := fun k => wc.heap.size ≤ k) (Moves.same _ fun k hk _ => Nat.le_trans hr11.size hk))
      | (go_at_call 46; refine (HFm.out _ hS0).mono ?_; rintro e w11 ⟨rfl, hb11⟩; have hk11 := (HMn.out _ _ hS0 hb11).1; have hs11 := Hk.out _ _ hS0 hk11; have hr11 : Below wc.heap.size wc w11 := hd0.trans hb11))
  all_goals
    have HW := Lib.hid hW
    have HA := Lib.hid hA
    clear hW hA hs11 hs12 hs13 hs14 hs15 hs16 hs17 hs18 hs19 hs20
    go_wp2
    refine bodyPost_ret (results_c1 rfl _ _ _ _ _ _ rfl HW.out Tryz.underlying46 rfl (by kernel_rfl)) rfl ?_
    rw [HEE.out]
    exact HA.out
end Go.Proofs.YtjkiehmjffgnlaaGreatDoor
namespace Go.Proofs.YtjkiehmjffgnlaaGreatDoor
set_option linter.unusedVariables false
set_option linter.unusedSimpArgs false
open Go.RowKit

def countC (now : Int) (p : List (List UInt8)) (ls : List LockT) : Nat := (ls.filter fun l => decide (now < l.upto) && coversL l p).length
theorem countC_at {now : Int} {p : List (List UInt8)} {ls : List LockT} {i : Nat} {l : LockT} (h : ls[i]? = some l) : countC now p (ls.take (i + 1)) = countC now p (ls.take i) + (if decide (now < l.upto) && coversL l p then 1 else 0) := by
  unfold countC
  rw [List.take_add_one, h, Option.toList_some, List.filter_append, List.length_append]
  congr 1
  rw [List.filter_cons]
  split <;> rfl
def Locks (w : World) (v : Value) (ls : List LockT) : Prop := Tab 6 LockR w v ls
def lockOk (l : LockT) : Prop := Fits l.path ∧ l.owner.length ≤ 2 ^ 63 - 1 ∧ l.upto ≤ 2305843009213693952
theorem lock_at {w : World} {A : Option Addr} {n cap : Nat} {ls : List LockT} (h : Locks w (.slice A n cap) ls) : n = ls.length ∧ n ≤ cap ∧ cap ≤ maxLen ∧ ∀ j l, ls[j]? = some l → ∃ b o pA pc, A = some ⟨b, o, none⟩ ∧ b < w.heap.size ∧ w.cell? ⟨b, o + j * 6, none⟩ = some (.string ⟨l.token.toArray⟩) ∧
    w.cell? ⟨b, o + j * 6 + 1, none⟩ = some (.slice pA l.path.length pc) ∧ w.cell? ⟨b, o + j * 6 + 2, none⟩ = some (.bool l.deep) ∧ w.cell? ⟨b, o + j * 6 + 3, none⟩ = some (.bool l.excl) ∧ w.cell? ⟨b, o + j * 6 + 4, none⟩ = some (.string ⟨l.owner.toArray⟩) ∧ w.cell? ⟨b, o + j * 6 + 5, none⟩ = some (.int .i64 l.upto) ∧
    Strs w (.slice pA l.path.length pc) l.path := by
  obtain ⟨A', cap', hv, h1, h2, hc⟩ := h
  injection hv with e1 e2 e3
  subst e1 e2 e3
  refine ⟨rfl, h1, h2, fun j l hj => ?_⟩
  obtain ⟨b, o, hA, hb, cs, hl, hcell, pA, pc, rfl, hn⟩ := hc j l hj
  exact ⟨b, o, pA, pc, hA, hb, hcell 0 _ rfl, hcell 1 _ rfl, hcell 2 _ rfl, hcell 3 _ rfl, hcell 4 _ rfl, hcell 5 _ rfl, hn⟩
structure DiS (w0 : World) (q6 q : Nat) (kv : Value) (ks : List NodeT) (w : World) : Prop where
  zr : w.heap[q6]? = some (.cells #[.string ⟨#[]⟩, .string ⟨#[]⟩, .string ⟨#[]⟩, .slice none 0 0, .slice none 0 0] 46 (0, 0))
  at_ : w.heap[q]? = some (.cells #[.string ⟨#[]⟩, .string ⟨#[68, 65, 86, 58]⟩, .string ⟨#[108, 111, 99, 107, 100, 105, 115, 99, 111, 118, 101, 114, 121]⟩, .slice none 0 0, kv] 46 (0, 0))
  row : RowG 46 5 NodeP (fun k => q < k) (q + 1) w kv ks
  lo : Below q6 w0 w
  hq6 : q6 = w0.heap.size
  hq : q6 < q
section
variable {w0 w w' : World} {q6 q : Nat} {kv v' : Value} {ks : List NodeT}
theorem DiS.size (h : DiS w0 q6 q kv ks w) : q + 1 ≤ w.heap.size := xlt h.at_
theorem DiS.under (h : DiS w0 q6 q kv ks w) (hb : Below w.heap.size w w') : DiS w0 q6 q kv ks w' := by
  have h1 := h.size
  have h2 := h.hq
  exact ⟨(hb.block _ (xlt h.zr)).trans h.zr, (hb.block _ (xlt h.at_)).trans h.at_, h.row.under mov_nodeL hb, h.lo.trans (hb.mono (by omega)), h.hq6, h.hq⟩
theorem DiS.app (h : DiS w0 q6 q kv ks w) {w1 : World} (hb1 : Below w.heap.size w w1) {f0 f1 f2 f3 f4 : Value} {x : NodeT} (hy : NodeP (fun k => w.heap.size ≤ k) w1 [f0, f1, f2, f3, f4] x) (h1 : ∀ u ∈ [f0, f1, f2, f3, f4], u.oneCell' = true) (hl : ks.length ≤ 1000000000) :
    ∃ kA kc w', (Builtin.append_ #[22, 22] 22 #[kv, .slice (some ⟨w1.heap.size, 0, none⟩) 1 1]).run Tryz.prog (w1.alloc (.cells #[f0, f1, f2, f3, f4] 46 (0, 0))) = .ok (.slice kA (ks.length + 1) kc) w' ∧
      w'.cell? ⟨q, 4, none⟩ = some kv ∧ w'.frozen? ⟨q, 4, none⟩ = false ∧ DiS w0 q6 q (.slice kA (ks.length + 1) kc) (ks ++ [x]) (w'.setCell ⟨q, 4, none⟩ (.slice kA (ks.length + 1) kc)) := by
  have hs := h.size
  have hs1 := hb1.size
  have h2 := h.under hb1
  have hqq := h.hq
  have hy2 : NodeP (fun k => q < k ∧ some k ≠ kv.ownBlock) w1 [f0, f1, f2, f3, f4] x := hy.move (Moves.same _ fun k hk _ => ⟨by omega, fun e => by have := (h.row.lt k e.symm).2; omega⟩)
  obtain ⟨v', w', hrun, hr, hb, hg, hn⟩ := lrun_appG elemN mov_nodeL 22 h2.row #[f0, f1, f2, f3, f4] x hy2 rfl h1 (by omega) h2.size
  obtain ⟨kA, kc, rfl, -, -⟩ := hr.form
  have hle : (ks ++ [x]).length = ks.length + 1 := by rw [List.length_append]; rfl
  rw [hle] at hr hrun hn
  have hat := (hg.block q (by omega) (fun e => by have := (h.row.lt q e.symm).1; omega)).trans h2.at_
  have hzr := (hg.block q6 (by omega) (fun e => by have := (h.row.lt q6 e.symm).1; omega)).trans h2.zr
  refine ⟨kA, kc, w', hrun, xat hat 4, by simp [World.frozen?, hat], ?_⟩
  refine ⟨?_, heap_setCell_same w' q 4 _ _ _ hat, hr.step mov_nodeL (xgrown_cell w' q 4 _) (fun h => Nat.lt_irrefl _ h) (fun e => by have := (hr.lt _ e).1; omega), (h2.lo.trans (hb.mono (by omega))).setCell (p := ⟨q, 4, none⟩) (by show q6 ≤ q; omega) _, h.hq6, hqq⟩
  exact (heap_setCell_other w' _ q6 _ (by show q6 ≠ q; omega)).trans hzr
end
def DiscP (n : Nat) (w : World) (e : Ending) (w' : World) : Prop := ∃ (f0 f1 f2 f3 f4 : Value) (ks : List NodeT), e = .returned (.agg #[f0, f1, f2, f3, f4]) ∧ ks.length = n ∧ NodeP (fun b => w.heap.size ≤ b) w' [f0, f1, f2, f3, f4] (davN [108, 111, 99, 107, 100, 105, 115, 99, 111, 118, 101, 114, 121] ks) ∧ Below w.heap.size w w' ∧ ∀ u ∈ [f0, f1, f2, f3, f4], u.oneCell' = true
theorem disc_final {w0 w : World} {q6 q kc : Nat} {kA : Option Addr} {ks : List NodeT} (h : DiS w0 q6 q (.slice kA ks.length kc) ks w) {f0 f1 f2 f3 f4 : Value} (hf : [f0, f1, f2, f3, f4] = [.string ⟨#[]⟩, .string ⟨#[68, 65, 86, 58]⟩, .string ⟨#[108, 111, 99, 107, 100, 105, 115, 99, 111, 118, 101, 114, 121]⟩, .slice none 0 0, .slice kA ks.length kc]) :
    ∃ W1 W2 W3 W4 W5, (store ⟨q6, 0, none⟩ f0).run Tryz.prog w = .ok () W1 ∧ (store ⟨q6, 1, none⟩ f1).run Tryz.prog W1 = .ok () W2 ∧ (store ⟨q6, 2, none⟩ f2).run Tryz.prog W2 = .ok () W3 ∧ (store ⟨q6, 3, none⟩ f3).run Tryz.prog W3 = .ok () W4 ∧ (store ⟨q6, 4, none⟩ f4).run Tryz.prog W4 = .ok () W5 ∧
      W5.heap[q6]? = some (.cells #[f0, f1, f2, f3, f4] 46 (0, 0)) ∧ DiscP ks.length w0 (.returned (.agg #[f0, f1, f2, f3, f4])) W5 := by
  simp only [List.cons.injEq, and_true] at hf
  obtain ⟨rfl, rfl, rfl, rfl, rfl⟩ := hf
  have hqq := h.hq
  have h6 := h.hq6
  have hzl := xlt h.zr
  obtain ⟨W1, W2, W3, W4, W5, s0, s1, s2, s3, s4, hW, hR⟩ := node_store Tryz.prog h.zr (.string ⟨#[]⟩) (.string ⟨#[68, 65, 86, 58]⟩) (.string ⟨#[108, 111, 99, 107, 100, 105, 115, 99, 111, 118, 101, 114, 121]⟩) (.slice none 0 0) (.slice kA ks.length kc) (fun u hu => encD.one (⟨davN [108, 111, 99, 107, 100, 105, 115, 99, 111, 118, 101, 114, 121] [], none, 0, 0, kA, ks.length, kc⟩ : NodeD) u hu)
  refine ⟨W1, W2, W3, W4, W5, s0, s1, s2, s3, s4, hW, ⟨_, _, _, _, _, ks, rfl, rfl, ?_, ?_, fun u hu => encD.one (⟨davN [108, 111, 99, 107, 100, 105, 115, 99, 111, 118, 101, 114, 121] [], none, 0, 0, kA, ks.length, kc⟩ : NodeD) u hu⟩⟩
  · obtain ⟨rows, g1, g2, g3⟩ := h.row
    have hN : NodesP (fun k => q < k) w (.slice kA ks.length kc) ks := ⟨OwnT.tab g1 g2 (fun j x r hx hr => (g3 j r x hr hx).move (Moves.same _ fun k hk _ => hk.1)), fun _ k hk => by have := (OwnT.lt g1 k hk).1; omega⟩
    exact dav_node (hN.move ⟨hR.size, fun k hk hlt => ⟨by omega, hR.block k hlt (fun e => by injection e with e; omega)⟩⟩)
  · rw [← h6]
    exact h.lo.trans (hR.low (fun k e => by injection e with e; omega) (by omega))
end Go.Proofs.YtjkiehmjffgnlaaGreatDoor
namespace Go.Proofs.YtjkiehmjffgnlaaGreatDoor
set_option linter.unusedVariables false
set_option linter.unusedSimpArgs false
open Go.RowKit

structure AGr (pb : Nat) (o o' : Option Nat) (w w' : World) : Prop where
  os : w'.os = w.os
  tape : w'.tape = w.tape
  output : w'.output = w.output
  size : w.heap.size ≤ w'.heap.size
  block : ∀ k, k < w.heap.size → k ≠ pb → some k ≠ o → w'.heap[k]? = w.heap[k]?
  row : o' = o ∨ ∃ k, o' = some k ∧ w.heap.size ≤ k
def AddP (B pb : Nat) (code : Int) (v : Value) (d' : List NodeD) (w : World) (e : Ending) (w' : World) : Prop :=
  e = .returned (.tuple #[]) ∧ ∃ v', KRow B v' d' w' ∧ w'.heap[pb]? = some (.cells #[.int .i64 code, v'] 43 (0, 0)) ∧ AGr pb v.ownBlock v'.ownBlock w w'
set_option maxHeartbeats 16000000 in
set_option maxRecDepth 100000 in
set_option linter.unusedSimpArgs false in
theorem add_hit (B pb : Nat) (code : Int) (v : Value) (d : List NodeD) (k : KeyT) (w : World) (h : KRow B v d w) (hh : HangD w d) (hp : w.heap[pb]? = some (.cells #[.int .i64 code, v] 43 (0, 0))) (hk : hasD d k = true) (hs : d.length ≤ 1000000000) :
    Calls Tryz.prog 18 #[.pointer (some ⟨pb, 0, none⟩), .agg #[.string ⟨k.1.toArray⟩, .string ⟨k.2.toArray⟩]] w (AddP B pb code v (putD d k) w) := by
  have hba : Below w.heap.size w (w.alloc (.cells #[.string ⟨k.1.toArray⟩, .string ⟨k.2.toArray⟩] 52 (0, 0))) := (Below.refl _ _).alloc (Nat.le_refl _) _
  have hq := heap_alloc_new w (.cells #[.string ⟨k.1.toArray⟩, .string ⟨k.2.toArray⟩] 52 (0, 0))
  have hpa := (hba.block pb (xlt hp)).trans hp
  obtain ⟨A, cap, rfl, hc1, hc2, hA⟩ := h.slice
  have hT : Tab 5 (NodeP anyB) w (.slice A d.length cap) (d.map (·.x)) := by
    rcases h.form with ⟨hv, rfl⟩ | ⟨g, c, hv, hr⟩
    · injection hv with h1 h2 h3
      subst h1 h3
      exact Tab.nil _ _ _
    · rw [hv]; exact hr.tab hh
  have hTa : Tab 5 (NodeP anyB) (w.alloc (.cells #[.string ⟨k.1.toArray⟩, .string ⟨k.2.toArray⟩] 52 (0, 0))) (.slice A d.length cap) (d.map (·.x)) := hT.below hba (Nat.le_refl _) fun cs x hx => hx.under hba
  have HC := Lib.hid (contains_add (d.map (·.x)) A d.length cap _ hTa k w.heap.size hq)
  have hk2 : hasK (d.map (·.x)) k = true := by rw [← hk]; unfold hasK hasD; rw [List.any_map]; rfl
  rw [hk2] at HC
  have HH := Lib.hid (show putD d k = d by unfold putD; rw [if_pos hk])
  have HO := Lib.hid h
  have HP := Lib.hid hp
  have HBa := Lib.hid hba
  obtain ⟨E, hEE⟩ : ∃ E, E = AddP B pb code (.slice A d.length cap) (putD d k) w := ⟨_, rfl⟩
  rw [← hEE]
  have HEE := Lib.hid hEE
  have x1 := xat hpa 1
  simp only [List.getElem?_toArray, List.getElem?_cons_zero, List.getElem?_cons_succ] at x1
  obtain ⟨ks, kn⟩ := k
  clear hT hTa hk2 hk hEE h hh hp hq hpa hba hA
  go_enter Tryz.func18, Tryz.ntmps18
  go_wp2_with fail
  refine HC.out.mono ?_
  rintro e w5 ⟨rfl, q, os, he⟩
  have HB := Lib.hid (show Below w.heap.size w w5 from HBa.out.trans ((he ▸ below_grown _ q os).mono HBa.out.size))
  clear he HC x1
  go_wp2
  go_end0
  rw [HEE.out, HH.out]
  exact ⟨rfl, _, HO.out.below HB.out, (HB.out.block pb (xlt HP.out)).trans HP.out, ⟨HB.out.os, HB.out.tape, HB.out.output, HB.out.size, fun k hk _ _ => HB.out.block k hk, .inl rfl⟩⟩
end Go.Proofs.YtjkiehmjffgnlaaGreatDoor
namespace Go.Proofs.YtjkiehmjffgnlaaGreatDoor
set_option linter.unusedVariables false
set_option linter.unusedSimpArgs false
open Go.RowKit

theorem step_app_ex {P : Program} {t : TypeId} {ops : Array Oper} {o : Oper} {a : Act} {K : Act → World → Prop} {Q : Exit → Act → World → Prop} {X : Prop} {w : World} {u v : Value} (hgd : o.guard = none) (s x : Operand)
    (ho : o.op = .call { callee := .builtin .append, args := #[s, x], argTypes := #[t, t] }) (hs : a.eval s = v) (hx : a.eval x = u) (h : ∃ v' w', (Builtin.append_ #[t, t] o.type #[v, u]).run P w = .ok v' w' ∧ K (a.put o.dst v') w') : if Region.wanted o (yielded ops a.tmps) = true then Oper.wp P o a w K Q else X := by
  obtain ⟨v', w', hrun, hk⟩ := h
  exact step_app_run hgd s x ho hs hx hrun hk
theorem add_end {B pb : Nat} {code : Int} {v v' : Value} {d' : List NodeD} {w w10 W : World} (hr : KRow B v' d' W) (hp : W.heap[pb]? = some (.cells #[.int .i64 code, v'] 43 (0, 0))) (h1 : RGr v.ownBlock v'.ownBlock w w10) (hs : w10.heap.size ≤ W.heap.size) (ho : W.os = w10.os ∧ W.tape = w10.tape ∧ W.output = w10.output)
    (hb : ∀ k, k < w10.heap.size → k ≠ pb → some k ≠ v'.ownBlock → W.heap[k]? = w10.heap[k]?) : AddP B pb code v d' w (.returned (.tuple #[])) W :=
  ⟨rfl, v', hr, hp, ⟨ho.1.trans h1.os, ho.2.1.trans h1.tape, ho.2.2.trans h1.output, Nat.le_trans h1.size hs, fun k hk hne hno => (hb k (Nat.lt_of_lt_of_le hk h1.size) hne (row_offL h1.row hno hk)).trans (h1.block k hk hno), h1.row⟩⟩
theorem add_laid {B pb : Nat} {code : Int} {A : Option Addr} {cap : Nat} {d : List NodeD} {k : KeyT} {w w9 : World} {z : Nat} (h : KRow B (.slice A d.length cap) d w) (hp : w.heap[pb]? = some (.cells #[.int .i64 code, .slice A d.length cap] 43 (0, 0))) (hB : B ≤ w.heap.size) (hpv : some pb ≠ (Value.slice A d.length cap).ownBlock) (hs : d.length ≤ 1000000000) (hb : Below w.heap.size w w9)
    (hz : w9.heap[z]? = some (.cells #[.string ⟨#[]⟩, .string ⟨#[]⟩, .string ⟨#[]⟩, .slice none 0 0, .slice none 0 0] 46 (0, 0))) (f0 f1 f2 f3 f4 : Value) (hf : (bareD k).cells = [f0, f1, f2, f3, f4]) :
    ∃ g cp w10 V1 V2 V3 V4 V5 U1 U2 U3 U4 U5, (Builtin.append_ #[22, 22] 22 #[.slice A d.length cap, .slice (some ⟨z, 0, none⟩) 1 1]).run Tryz.prog w9 = .ok (.slice (some ⟨g, 0, none⟩) (d.length + 1) cp) w10 ∧ d.length + 1 ≤ cp ∧ cp ≤ maxLen ∧
      w10.cell? ⟨pb, 1, none⟩ = some (.slice A d.length cap) ∧ w10.frozen? ⟨pb, 1, none⟩ = false ∧ (store ⟨g, d.length * 5, none⟩ f0).run Tryz.prog w10 = .ok () V1 ∧ (store ⟨g, d.length * 5 + 1, none⟩ f1).run Tryz.prog V1 = .ok () V2 ∧ (store ⟨g, d.length * 5 + 2, none⟩ f2).run Tryz.prog V2 = .ok () V3 ∧ (store ⟨g, d.length * 5 + 3, none⟩ f3).run Tryz.prog V3 = .ok () V4 ∧ (store ⟨g, d.length * 5 + 4, none⟩ f4).run Tryz.prog V4 = .ok () V5 ∧ V5.cell? ⟨pb, 1, none⟩ = some (.slice A d.length cap) ∧ V5.frozen? ⟨pb, 1, none⟩ = false ∧ (store ⟨g, d.length * 5, none⟩ f0).run Tryz.prog (w10.setCell ⟨pb, 1, none⟩ (.slice (some ⟨g, 0, none⟩) (d.length + 1) cp)) = .ok () U1 ∧ (store ⟨g, d.length * 5 + 1, none⟩ f1).run Tryz.prog U1 = .ok () U2 ∧ (store ⟨g, d.length * 5 + 2, none⟩ f2).run Tryz.prog U2 = .ok () U3 ∧ (store ⟨g, d.length * 5 + 3, none⟩ f3).run Tryz.prog U3 = .ok () U4 ∧ (store ⟨g, d.length * 5 + 4, none⟩ f4).run Tryz.prog U4 = .ok () U5 ∧
      AddP B pb code (.slice A d.length cap) (d ++ [bareD k]) w (.returned (.tuple #[])) (V5.setCell ⟨pb, 1, none⟩ (.slice (some ⟨g, 0, none⟩) (d.length + 1) cp)) ∧ AddP B pb code (.slice A d.length cap) (d ++ [bareD k]) w (.returned (.tuple #[])) U5 := by
  obtain ⟨g, cp, w10, hrun, ho, hgc, hgm, hr, hst⟩ := add_ready (z := z) (h.below hb) (Nat.le_trans hB hb.size) hz hs
  have hR10 : RGr (Value.slice A d.length cap).ownBlock (some g) w w10 := (RGr.under hb).trans hr
  have hgp : pb ≠ g := fun e2 => hR10.row.elim (fun e => hpv (by rw [e2]; exact e)) fun ⟨n, e, hn⟩ => by
    injection e with e
    have := xlt hp
    omega
  have hgl : g < w10.heap.size := (OwnT.lt ho g rfl).2
  obtain ⟨V1, V2, V3, V4, V5, s0, s1, s2, s3, s4, ho2, hr2⟩ := hst (bareD k) w10 ho f0 f1 f2 f3 f4 hf
  have hp10 := (hR10.block pb (xlt hp) hpv).trans hp
  have hpl := xlt hp10
  have y10 := xat hp10 1
  simp only [List.getElem?_toArray, List.getElem?_cons_zero, List.getElem?_cons_succ] at y10
  have f10 : w10.frozen? ⟨pb, 1, none⟩ = false := by simp [World.frozen?, hp10]
  have hpg : some pb ≠ some g := fun e => hgp (by injection e)
  have hpV := (hr2.block pb hpl hpg).trans hp10
  have yV := xat hpV 1
  simp only [List.getElem?_toArray, List.getElem?_cons_zero, List.getElem?_cons_succ] at yV
  have fV : V5.frozen? ⟨pb, 1, none⟩ = false := by simp [World.frozen?, hpV]
  have hs10 := setCell_eq_setRow w10 pb 1 _ _ (0, 0) (.slice (some ⟨g, 0, none⟩) (d.length + 1) cp) hp10
  have hg10 := grown_setRow w10 pb ((#[.int .i64 code, .slice A d.length cap] : Array Value).setIfInBounds 1 (.slice (some ⟨g, 0, none⟩) (d.length + 1) cp))
  rw [← hs10] at hg10
  obtain ⟨U1, U2, U3, U4, U5, t0, t1, t2, t3, t4, ho3, hr3⟩ := hst (bareD k) _ (OwnT.grown ho hg10 (fun b hb => by injection hb with hb; rw [← hb]; intro e; injection e with e; exact hgp e.symm)) f0 f1 f2 f3 f4 hf
  have hsV := setCell_eq_setRow V5 pb 1 _ _ (0, 0) (.slice (some ⟨g, 0, none⟩) (d.length + 1) cp) hpV
  have hgV := grown_setRow V5 pb ((#[.int .i64 code, .slice A d.length cap] : Array Value).setIfInBounds 1 (.slice (some ⟨g, 0, none⟩) (d.length + 1) cp))
  rw [← hsV] at hgV
  have hsame := heap_setCell_same w10 pb 1 _ _ (.slice (some ⟨g, 0, none⟩) (d.length + 1) cp) hp10
  refine ⟨g, cp, w10, V1, V2, V3, V4, V5, U1, U2, U3, U4, U5, hrun, hgc, hgm, y10, f10, s0, s1, s2, s3, s4, yV, fV, t0, t1, t2, t3, t4, ?_, ?_⟩
  · refine add_end (v' := (.slice (some ⟨g, 0, none⟩) (d.length + 1) cp)) (w10 := w10) (OwnT.grown ho2 hgV (fun b hb => by injection hb with hb; rw [← hb]; intro e; injection e with e; exact hgp e.symm)) (heap_setCell_same V5 pb 1 _ _ (.slice (some ⟨g, 0, none⟩) (d.length + 1) cp) hpV) hR10 (Nat.le_trans hr2.size hgV.size) ⟨hgV.os.trans hr2.os, hgV.tape.trans hr2.tape, hgV.output.trans hr2.output⟩ (fun k hk hne hno => ?_)
    exact (hgV.block k (Nat.lt_of_lt_of_le hk hr2.size) (fun e => hne (by injection e))).trans (hr2.block k hk hno)
  · have hs1 := hg10.size
    refine add_end (v' := (.slice (some ⟨g, 0, none⟩) (d.length + 1) cp)) (w10 := w10) ho3 ((hr3.block pb (Nat.lt_of_lt_of_le hpl hs1) hpg).trans hsame) hR10 (Nat.le_trans hs1 hr3.size) ⟨hr3.os.trans hg10.os, hr3.tape.trans hg10.tape, hr3.output.trans hg10.output⟩ (fun k hk hne hno => ?_)
    exact (hr3.block k (Nat.lt_of_lt_of_le hk hs1) hno).trans (hg10.block k hk (fun e => hne (by injection e)))
end Go.Proofs.YtjkiehmjffgnlaaGreatDoor
namespace Go.Proofs.YtjkiehmjffgnlaaGreatDoor
set_option linter.unusedVariables false
set_option linter.unusedSimpArgs false
open Go.RowKit

set_option maxHeartbeats 16000000 in
set_option maxRecDepth 100000 in
set_option linter.unusedSimpArgs false in
theorem add_miss (B pb : Nat) (code : Int) (v : Value) (d : List NodeD) (k : KeyT) (w : World) (h : KRow B v d w) (hh : HangD w d) (hp : w.heap[pb]? = some (.cells #[.int .i64 code, v] 43 (0, 0))) (hk : hasD d k = false) (hB : B ≤ w.heap.size) (hpv : some pb ≠ v.ownBlock) (hs : d.length ≤ 1000000000) :
    Calls Tryz.prog 18 #[.pointer (some ⟨pb, 0, none⟩), .agg #[.string ⟨k.1.toArray⟩, .string ⟨k.2.toArray⟩]] w (AddP B pb code v (putD d k) w) := by
  have hba : Below w.heap.size w (w.alloc (.cells #[.string ⟨k.1.toArray⟩, .string ⟨k.2.toArray⟩] 52 (0, 0))) := (Below.refl _ _).alloc (Nat.le_refl _) _
  have hq := heap_alloc_new w (.cells #[.string ⟨k.1.toArray⟩, .string ⟨k.2.toArray⟩] 52 (0, 0))
  have hpa := (hba.block pb (xlt hp)).trans hp
  obtain ⟨A, cap, rfl, hc1, hc2, hA⟩ := h.slice
  have hT : Tab 5 (NodeP anyB) w (.slice A d.length cap) (d.map (·.x)) := by
    rcases h.form with ⟨hv, rfl⟩ | ⟨g, c, hv, hr⟩
    · injection hv with h1 h2 h3
      subst h1 h3
      exact Tab.nil _ _ _
    · rw [hv]; exact hr.tab hh
  have hTa : Tab 5 (NodeP anyB) (w.alloc (.cells #[.string ⟨k.1.toArray⟩, .string ⟨k.2.toArray⟩] 52 (0, 0))) (.slice A d.length cap) (d.map (·.x)) := hT.below hba (Nat.le_refl _) fun cs x hx => hx.under hba
  have HC := Lib.hid (contains_add (d.map (·.x)) A d.length cap _ hTa k w.heap.size hq)
  have hk2 : hasK (d.map (·.x)) k = false := by rw [← hk]; unfold hasK hasD; rw [List.any_map]; rfl
  rw [hk2] at HC
  have HH := Lib.hid (show putD d k = d ++ [bareD k] by unfold putD; rw [if_neg (by rw [hk]; decide)])
  have HQ := Lib.hid hq
  have HBa := Lib.hid hba
  have HLd := Lib.hid (fun (w9 : World) (z : Nat) (hb : Below w.heap.size w w9) (hz : w9.heap[z]? = some (.cells #[.string ⟨#[]⟩, .string ⟨#[]⟩, .string ⟨#[]⟩, .slice none 0 0, .slice none 0 0] 46 (0, 0))) (f0 f1 f2 f3 f4 : Value) (hf : (bareD k).cells = [f0, f1, f2, f3, f4]) => add_laid (k := k) h hp hB hpv hs hb hz f0 f1 f2 f3 f4 hf)
  have HP := Lib.hid hp
  obtain ⟨E, hEE⟩ : ∃ E, E = AddP B pb code (.slice A d.length cap) (putD d k) w := ⟨_, rfl⟩
  rw [← hEE]
  have HEE := Lib.hid hEE
  have x1 := xat hpa 1
  simp only [List.getElem?_toArray, List.getElem?_cons_zero, List.getElem?_cons_succ] at x1
  obtain ⟨ks, kn⟩ := k
  clear hT hTa hk2 hk hEE h hh hp hq hpa hba hA hpv hB
  unfold maxLen at hc2
  go_enter Tryz.func18, Tryz.ntmps18
  go_wp2_with fail
  refine HC.out.mono ?_
  rintro e w5 ⟨rfl, q, os, he⟩
  have hb5 := he ▸ below_grown _ q os
  have hB5 : Below w.heap.size w w5 := HBa.out.trans (hb5.mono HBa.out.size)
  have hq5 := (hb5.block _ (xlt HQ.out)).trans HQ.out
  have hp5 := (hB5.block pb (xlt HP.out)).trans HP.out
  have HB5 := Lib.hid (show Below w.heap.size w w5.drew from hB5.trans (below_draws (Below.refl _ _) 1))
  have y2 : w5.drew.cell? ⟨pb, 1, none⟩ = some (.slice A d.length cap) := xat hp5 1
  obtain ⟨qp, hqp⟩ : ∃ qp, qp = w.heap.size := ⟨_, rfl⟩
  rw [← hqp] at hq5 ⊢
  clear hqp
  have z2 : w5.drew.cell? ⟨qp, 0, none⟩ = some (.string ⟨ks.toArray⟩) := xat hq5 0
  have z3 : w5.drew.cell? ⟨qp, 1, none⟩ = some (.string ⟨kn.toArray⟩) := xat hq5 1
  have hpl := xlt hp5
  have hql := xlt hq5
  have HKA := Lib.hid (fun (w9 : World) (h : ∃ q os, w9 = Sort.grow (w5.drew.drewN q) os) => (show Below w5.heap.size w5.drew w9 from by
    obtain ⟨q9, os9, rfl⟩ := h
    exact below_grown w5.drew q9 os9))
  have HKB := Lib.hid (fun (w9 : World) (h : ∃ q os, w9 = Sort.grow ((w5.alloc (.cells #[.string ⟨#[]⟩, .string ⟨#[]⟩, .string ⟨#[]⟩, .slice none 0 0, .slice none 0 0] 46 (0, 0))).drew.drewN q) os) => (show Below w5.heap.size w5.drew w9 ∧ w9.heap[w5.heap.size]? = some (.cells #[.string ⟨#[]⟩, .string ⟨#[]⟩, .string ⟨#[]⟩, .slice none 0 0, .slice none 0 0] 46 (0, 0)) from by
    obtain ⟨q9, os9, rfl⟩ := h
    have h1 : Below w5.drew.heap.size w5.drew (w5.alloc (.cells #[.string ⟨#[]⟩, .string ⟨#[]⟩, .string ⟨#[]⟩, .slice none 0 0, .slice none 0 0] 46 (0, 0))).drew := (Below.refl w5.drew.heap.size w5.drew).alloc (Nat.le_refl _) _
    have h2 := below_grown (w5.alloc (.cells #[.string ⟨#[]⟩, .string ⟨#[]⟩, .string ⟨#[]⟩, .slice none 0 0, .slice none 0 0] 46 (0, 0))).drew q9 os9
    have h3 := heap_alloc_new w5 (.cells #[.string ⟨#[]⟩, .string ⟨#[]⟩, .string ⟨#[]⟩, .slice none 0 0, .slice none 0 0] 46 (0, 0))
    exact ⟨h1.trans (h2.mono h1.size), (h2.block _ (xlt h3)).trans h3⟩))
  have HAA := Lib.hid (fun (w9 : World) (h : Below w5.heap.size w5.drew w9) => (show Below w.heap.size w (w9.alloc (.cells #[.string ⟨#[]⟩, .string ⟨#[]⟩, .string ⟨#[]⟩, .slice none 0 0, .slice none 0 0] 46 (0, 0))) ∧ (w9.alloc (.cells #[.string ⟨#[]⟩, .string ⟨#[]⟩, .string ⟨#[]⟩, .slice none 0 0, .slice none 0 0] 46 (0, 0))).heap[w9.heap.size]? = some (.cells #[.string ⟨#[]⟩, .string ⟨#[]⟩, .string ⟨#[]⟩, .slice none 0 0, .slice none 0 0] 46 (0, 0)) from
    ⟨(HB5.out.trans (h.mono HB5.out.size)).alloc (Nat.le_trans HB5.out.size h.size) _, heap_alloc_new w9 _⟩))
  have HAB := Lib.hid (fun (w9 : World) (h : Below w5.heap.size w5.drew w9) => (show Below w.heap.size w w9 from HB5.out.trans (h.mono HB5.out.size)))
  have HY := Lib.hid (fun (w9 : World) (h : Below w5.heap.size w5.drew w9) => (show w9.cell? ⟨pb, 1, none⟩ = some (.slice A d.length cap) ∧ (w9.alloc (.cells #[.string ⟨#[]⟩, .string ⟨#[]⟩, .string ⟨#[]⟩, .slice none 0 0, .slice none 0 0] 46 (0, 0))).cell? ⟨pb, 1, none⟩ = some (.slice A d.length cap) from
    ⟨(h.cell (p := ⟨pb, 1, none⟩) hpl).trans y2, ((h.alloc h.size _).cell (p := ⟨pb, 1, none⟩) hpl).trans y2⟩))
  have hyA : (w5.alloc (.cells #[.string ⟨#[]⟩, .string ⟨#[]⟩, .string ⟨#[]⟩, .slice none 0 0, .slice none 0 0] 46 (0, 0))).cell? ⟨pb, 1, none⟩ = some (.slice A d.length cap) := (((Below.refl w5.drew.heap.size w5.drew).alloc (Nat.le_refl _) _).cell (p := ⟨pb, 1, none⟩) hpl).trans y2
  have hzA : (w5.alloc (.cells #[.string ⟨#[]⟩, .string ⟨#[]⟩, .string ⟨#[]⟩, .slice none 0 0, .slice none 0 0] 46 (0, 0))).cell? ⟨qp, 0, none⟩ = some (.string ⟨ks.toArray⟩) := (((Below.refl w5.drew.heap.size w5.drew).alloc (Nat.le_refl _) _).cell (p := ⟨qp, 0, none⟩) hql).trans z2
  have hzB : (w5.alloc (.cells #[.string ⟨#[]⟩, .string ⟨#[]⟩, .string ⟨#[]⟩, .slice none 0 0, .slice none 0 0] 46 (0, 0))).cell? ⟨qp, 1, none⟩ = some (.string ⟨kn.toArray⟩) := (((Below.refl w5.drew.heap.size w5.drew).alloc (Nat.le_refl _) _).cell (p := ⟨qp, 1, none⟩) hql).trans z3
  clear he HC x1 hb5 hB5 HBa HQ hq5 hp5 HP hpl hql
  go_upto_region 2 with (fail)
  obtain ⟨f0, f1, f2, f3, f4, hfc, hbare⟩ : ∃ f0 f1 f2 f3 f4, (bareD (ks, kn)).cells = [f0, f1, f2, f3, f4] ∧ ∀ w, Calls Tryz.prog 32 #[.agg #[.string ⟨ks.toArray⟩, .string ⟨kn.toArray⟩]] w (RetW (.agg #[f0, f1, f2, f3, f4]) w) := ⟨_, _, _, _, _, rfl, bare_any ks kn⟩
  have HFc := Lib.hid hfc
  have HBare := Lib.hid hbare
  clear hfc hbare
  have hlt : (d.length : Int) < (d.length : Int) + 1 := by omega
  go_region_law (first
    | (revert HB9; intro HB9; refine step_app_ex rfl (.tmp 14) (.tmp 18) rfl (by rfl) (by rfl) ?_
       first
       | (revert HZ9; intro HZ9; obtain ⟨g, cp, w10, V1, V2, V3, V4, V5, U1, U2, U3, U4, U5, hrun, hg1, hg2, y10, f10, s0, s1, s2, s3, s4, yV, fV, t0, t1, t2, t3, t4, hE1, hE2⟩ := HLd.out w9 w5.heap.size (HAB.out w9 HB9.out) HZ9.out f0 f1 f2 f3 f4 HFc.out
          refine ⟨_, _, hrun, ?_⟩)
       | (obtain ⟨g, cp, w10, V1, V2, V3, V4, V5, U1, U2, U3, U4, U5, hrun, hg1, hg2, y10, f10, s0, s1, s2, s3, s4, yV, fV, t0, t1, t2, t3, t4, hE1, hE2⟩ := HLd.out _ w9.heap.size (HAA.out w9 HB9.out).1 (HAA.out w9 HB9.out).2 f0 f1 f2 f3 f4 HFc.out
          refine ⟨_, _, hrun, ?_⟩)
       have HE1 := Lib.hid hE1
       have HE2 := Lib.hid hE2
       unfold maxLen at hg2
       clear hrun hE1 hE2)
    | (go_simp; go_at_call 32; refine (HBare.out _).mono ?_; rintro e w9 ⟨rfl, hq9⟩
       first
       | (have h9 : Below w5.heap.size w5.drew w9 ∧ w9.heap[w5.heap.size]? = some (.cells #[.string ⟨#[]⟩, .string ⟨#[]⟩, .string ⟨#[]⟩, .slice none 0 0, .slice none 0 0] 46 (0, 0)) := (by with_reducible exact HKB.out w9 hq9); have HZ9 := Lib.hid h9.2; have HB9 := Lib.hid h9.1; clear h9)
       | (have HB9 := Lib.hid (show Below w5.heap.size w5.drew w9 from (by with_reducible exact HKA.out w9 hq9)))
       obtain ⟨yA, yB⟩ := HY.out w9 HB9.out
       clear hq9))
  all_goals
    go_wp2
    go_end0
    rw [HEE.out, HH.out]
    first
    | exact HE1.out
    | exact HE2.out
end Go.Proofs.YtjkiehmjffgnlaaGreatDoor
namespace Go.Proofs.YtjkiehmjffgnlaaGreatDoor
set_option linter.unusedVariables false
set_option linter.unusedSimpArgs false
open Go.RowKit

theorem add_any (B pb : Nat) (code : Int) (v : Value) (d : List NodeD) (k : KeyT) (w : World) (h : KRow B v d w) (hh : HangD w d) (hp : w.heap[pb]? = some (.cells #[.int .i64 code, v] 43 (0, 0))) (hB : B ≤ w.heap.size) (hpv : some pb ≠ v.ownBlock) (hs : d.length ≤ 1000000000) :
    Calls Tryz.prog 18 #[.pointer (some ⟨pb, 0, none⟩), .agg #[.string ⟨k.1.toArray⟩, .string ⟨k.2.toArray⟩]] w (AddP B pb code v (putD d k) w) := by
  cases hk : hasD d k with
  | true => exact add_hit B pb code v d k w h hh hp hk hs
  | false => exact add_miss B pb code v d k w h hh hp hk hB hpv hs
end Go.Proofs.YtjkiehmjffgnlaaGreatDoor
namespace Go.Proofs.YtjkiehmjffgnlaaGreatDoor
set_option linter.unusedVariables false
set_option linter.unusedSimpArgs false
open Go.RowKit

theorem bare_node (Q : Nat → Prop) (w : World) (k : KeyT) : NodeP Q w (bareD k).cells (bareD k).x :=
  NodeP.of (t := []) (s := k.1) (n := k.2) (ats := []) (ks := []) (TabP.nil _ _ _ _) (TabP.nil _ _ _ _)
theorem bare_put {d : List NodeD} {k : KeyT} (h : ∀ p ∈ d, ∃ k, p = bareD k) : ∀ p ∈ putD d k, ∃ k, p = bareD k := fun p hp => by
  unfold putD at hp
  split at hp
  · exact h p hp
  · rcases List.mem_append.1 hp with hp | hp
    · exact h p hp
    · rw [List.mem_singleton] at hp; exact ⟨k, hp⟩
theorem bare_hang {d : List NodeD} (h : ∀ p ∈ d, ∃ k, p = bareD k) (w : World) : HangD w d := fun p hp => by
  obtain ⟨k, rfl⟩ := h p hp
  exact bare_node _ _ _
structure Prt where
  b : Nat
  code : Int
  v : Value
  d : List NodeD
def updP (P : Fin 3 → Prt) (i : Fin 3) (x : Prt) : Fin 3 → Prt := fun j => if j = i then x else P j
theorem updP_same (P : Fin 3 → Prt) (i : Fin 3) (x : Prt) : updP P i x i = x := if_pos rfl
theorem updP_ne (P : Fin 3 → Prt) {i j : Fin 3} (h : j ≠ i) (x : Prt) : updP P i x j = P j := if_neg h
structure PSt (B : Nat) (P : Fin 3 → Prt) (v : Value) (d : List NodeD) (w0 w : World) : Prop where
  row : ∀ i, KRow B (P i).v (P i).d w
  cell : ∀ i, w.heap[(P i).b]? = some (.cells #[.int .i64 (P i).code, (P i).v] 43 (0, 0))
  bge : ∀ i, B ≤ (P i).b
  bne : ∀ i j, i ≠ j → (P i).b ≠ (P j).b
  offb : ∀ i j, (P j).v.ownBlock ≠ some (P i).b
  offv : ∀ i j, i ≠ j → ∀ k, (P i).v.ownBlock = some k → (P j).v.ownBlock ≠ some k
  now : KRow B v d w
  nob : ∀ i, v.ownBlock ≠ some (P i).b
  nov : ∀ i k, v.ownBlock = some k → (P i).v.ownBlock ≠ some k
  bare : ∀ i, ∀ p ∈ (P i).d, ∃ k, p = bareD k
  low : LowD B w d
  base : Below B w0 w
theorem PSt.size {B : Nat} {P : Fin 3 → Prt} {v : Value} {d : List NodeD} {w0 w : World} (h : PSt B P v d w0 w) : B ≤ w.heap.size := by
  have h1 := h.bge 0
  have h2 := xlt (h.cell 0)
  omega
theorem PSt.add {B : Nat} {P : Fin 3 → Prt} {v : Value} {d : List NodeD} {w0 w : World} (h : PSt B P v d w0 w) (i : Fin 3) {k : KeyT} {e : Ending} {w' : World} (ha : AddP B (P i).b (P i).code (P i).v (putD (P i).d k) w e w') :
    e = .returned (.tuple #[]) ∧ ∃ x, PSt B (updP P i ⟨(P i).b, (P i).code, x, putD (P i).d k⟩) v d w0 w' := by
  obtain ⟨he, x, hr, hp, hg⟩ := ha
  refine ⟨he, x, ?_⟩
  have hnew : ∀ k, x.ownBlock = some k → (P i).v.ownBlock = some k ∨ w.heap.size ≤ k := fun k hk => hg.row.imp (fun e => by rw [← e]; exact hk) fun ⟨j, e, hs⟩ => by rw [e] at hk; injection hk with hk; omega
  have hb : ∀ j, (P j).b < w.heap.size := fun j => xlt (h.cell j)
  have kb : ∀ j, j ≠ i → w'.heap[(P j).b]? = w.heap[(P j).b]? := fun j hj => hg.block _ (hb j) (h.bne j i hj) (fun e => h.offb j i e.symm)
  have kv : ∀ j, j ≠ i → ∀ g, (P j).v.ownBlock = some g → w'.heap[g]? = w.heap[g]? := fun j hj g e => hg.block g ((h.row j).lt g e).2 (fun e2 => h.offb i j (by rw [e, e2])) (fun e2 => h.offv i j hj.symm g e2.symm e)
  have kn : ∀ g, v.ownBlock = some g → w'.heap[g]? = w.heap[g]? := fun g e => hg.block g (h.now.lt g e).2 (fun e2 => h.nob i (by rw [e, e2])) (fun e2 => h.nov i g e e2.symm)
  have hsz := h.size
  have kB : Below B w w' := ⟨hg.os, hg.tape, hg.output, hg.size, fun k hk => hg.block k (by omega) (by have := h.bge i; omega) (fun e => by have := ((h.row i).lt k e.symm).1; omega)⟩
  have hbq : ∀ j, (updP P i ⟨(P i).b, (P i).code, x, putD (P i).d k⟩ j).b = (P j).b := fun j => by
    by_cases hj : j = i
    · rw [hj, updP_same]
    · rw [updP_ne P hj]
  refine ⟨fun j => ?_, fun j => ?_, fun j => ?_, fun j l hjl => ?_, fun a j => ?_, fun a j hne c => ?_, h.now.keep kn, fun a => ?_, fun a c e => ?_, fun a => ?_, h.low.below kB, h.base.trans kB⟩
  · by_cases hj : j = i
    · rw [hj, updP_same]; exact hr
    · rw [updP_ne P hj]; exact (h.row j).keep (kv j hj)
  · by_cases hj : j = i
    · rw [hj, updP_same]; exact hp
    · rw [updP_ne P hj]; exact (kb j hj).trans (h.cell j)
  · rw [hbq]; exact h.bge j
  · rw [hbq, hbq]; exact h.bne j l hjl
  · rw [hbq]
    by_cases hj : j = i
    · rw [hj, updP_same]
      intro e
      rcases hnew _ e with e | e
      · exact h.offb a i e
      · have := hb a; omega
    · rw [updP_ne P hj]; exact h.offb a j
  · by_cases ha : a = i
    · have hj : j ≠ i := fun e => hne (ha.trans e.symm)
      rw [ha, updP_same, updP_ne P hj]
      intro e e2
      rcases hnew c e with e | e
      · exact h.offv i j hj.symm c e e2
      · have := ((h.row j).lt c e2).2; omega
    · rw [updP_ne P ha]
      by_cases hj : j = i
      · rw [hj, updP_same]
        intro e e2
        rcases hnew c e2 with e2 | e2
        · exact h.offv a i ha c e e2
        · have := ((h.row a).lt c e).2; omega
      · rw [updP_ne P hj]; exact h.offv a j hne c
  · rw [hbq]; exact h.nob a
  · by_cases ha : a = i
    · rw [ha, updP_same]
      intro e2
      rcases hnew c e2 with e2 | e2
      · exact h.nov i c e e2
      · have := (h.now.lt c e).2; omega
    · rw [updP_ne P ha]; exact h.nov a c e
  · by_cases ha : a = i
    · rw [ha, updP_same]; exact bare_put (h.bare i)
    · rw [updP_ne P ha]; exact h.bare a
theorem PSt.next {B : Nat} {P : Fin 3 → Prt} {v v' : Value} {d d' : List NodeD} {w0 w w' : World} (h : PSt B P v d w0 w) (hr : KRow B v' d' w') (hg : RGr v.ownBlock v'.ownBlock w w') (hl : LowD B w' d') : PSt B P v' d' w0 w' := by
  have hnew : ∀ k, v'.ownBlock = some k → v.ownBlock = some k ∨ w.heap.size ≤ k := fun k hk => hg.row.imp (fun e => by rw [← e]; exact hk) fun ⟨j, e, hs⟩ => by rw [e] at hk; injection hk with hk; omega
  have hb : ∀ j, (P j).b < w.heap.size := fun j => xlt (h.cell j)
  have hsz := h.size
  refine ⟨fun j => (h.row j).keep fun g e => hg.block g ((h.row j).lt g e).2 (fun e2 => h.nov j g e2.symm e), fun j => (hg.block _ (hb j) (fun e => h.nob j e.symm)).trans (h.cell j), h.bge, h.bne, h.offb, h.offv, hr, fun a e => ?_, fun a c e e2 => ?_, h.bare, hl, h.base.trans (hg.low (fun k e => (h.now.lt k e).1) hsz)⟩
  · rcases hnew _ e with e | e
    · exact h.nob a e
    · have := hb a; omega
  · rcases hnew c e with e | e
    · exact h.nov a c e e2
    · have := ((h.row a).lt c e2).2; omega
theorem PSt.under {B : Nat} {P : Fin 3 → Prt} {v : Value} {d : List NodeD} {w0 w w' : World} (h : PSt B P v d w0 w) (hb : Below w.heap.size w w') : PSt B P v d w0 w' :=
  h.next (h.now.below hb) (RGr.under hb) (h.low.below (hb.mono h.size))
structure Kept (P : Fin 3 → Prt) (v : Value) (w : World) (k : Nat) (o : Obj) : Prop where
  at_ : w.heap[k]? = some o
  offp : ∀ i, (P i).b ≠ k
  offr : ∀ i, (P i).v.ownBlock ≠ some k
  offn : v.ownBlock ≠ some k
theorem PSt.fresh {B : Nat} {P : Fin 3 → Prt} {v : Value} {d : List NodeD} {w0 w w' : World} (h : PSt B P v d w0 w) {k : Nat} {o : Obj} (hk : w.heap.size ≤ k) (ha : w'.heap[k]? = some o) : Kept P v w' k o :=
  ⟨ha, fun i e => by have := xlt (h.cell i); omega, fun i e => by have := ((h.row i).lt k e).2; omega, fun e => by have := (h.now.lt k e).2; omega⟩
theorem Kept.under {P : Fin 3 → Prt} {v : Value} {w w' : World} {k : Nat} {o : Obj} (h : Kept P v w k o) (hb : Below w.heap.size w w') : Kept P v w' k o := ⟨(hb.block k (xlt h.at_)).trans h.at_, h.offp, h.offr, h.offn⟩
theorem Kept.add {B : Nat} {P : Fin 3 → Prt} {v : Value} {w : World} {c : Nat} {o : Obj} (h : Kept P v w c o) (i : Fin 3) {d' : List NodeD} {e : Ending} {w' : World} (ha : AddP B (P i).b (P i).code (P i).v d' w e w') :
    ∃ x, KRow B x d' w' ∧ w'.heap[(P i).b]? = some (.cells #[.int .i64 (P i).code, x] 43 (0, 0)) ∧ Kept (updP P i ⟨(P i).b, (P i).code, x, d'⟩) v w' c o := by
  obtain ⟨he, x, hr, hp, hg⟩ := ha
  refine ⟨x, hr, hp, (hg.block c (xlt h.at_) (fun e => h.offp i e.symm) (fun e => h.offr i e.symm)).trans h.at_, fun j => ?_, fun j e => ?_, h.offn⟩
  · by_cases hj : j = i
    · rw [hj, updP_same]; exact h.offp i
    · rw [updP_ne P hj]; exact h.offp j
  · by_cases hj : j = i
    · rw [hj, updP_same] at e
      rcases hg.row with e2 | ⟨g, e2, hs⟩
      · exact h.offr i (e2.symm.trans e)
      · have := xlt h.at_
        have e3 := e2.symm.trans e
        injection e3 with e3
        omega
    · rw [updP_ne P hj] at e; exact h.offr j e
theorem Kept.next {P : Fin 3 → Prt} {v v' : Value} {w w' : World} {k : Nat} {o : Obj} (h : Kept P v w k o) (hg : RGr v.ownBlock v'.ownBlock w w') : Kept P v' w' k o := by
  refine ⟨(hg.block k (xlt h.at_) (fun e => h.offn e.symm)).trans h.at_, h.offp, h.offr, fun e => ?_⟩
  rcases hg.row with e2 | ⟨g, e2, hs⟩
  · exact h.offn (e2.symm.trans e)
  · have := xlt h.at_
    have e3 := e2.symm.trans e
    injection e3 with e3
    omega
theorem PSt.add2 {B : Nat} {P : Fin 3 → Prt} {v : Value} {d : List NodeD} {w0 w : World} (h : PSt B P v d w0 w) (i : Fin 3) {k : KeyT} {e : Ending} {w' : World} (ha : AddP B (P i).b (P i).code (P i).v (putD (P i).d k) w e w') :
    e = .returned (.tuple #[]) ∧ ∃ P', PSt B P' v d w0 w' ∧ (∀ c o, Kept P v w c o → Kept P' v w' c o) ∧ (∀ j, (P' j).b = (P j).b ∧ (P' j).code = (P j).code) ∧ (P' i).d = putD (P i).d k ∧ ∀ j, j ≠ i → P' j = P j := by
  obtain ⟨he, x, hs⟩ := h.add i ha
  refine ⟨he, _, hs, fun c o hk => ?_, fun j => ?_, by rw [updP_same], fun j hj => updP_ne P hj _⟩
  · obtain ⟨y, -, hy, hk2⟩ := hk.add i ha
    have hc := hs.cell i
    rw [updP_same] at hc
    have e2 := hc.symm.trans hy
    injection e2 with e2
    injection e2 with e2
    have e3 : x = y := by have h := congrArg Array.toList e2; simpa using h
    rw [e3]
    exact hk2
  · by_cases hj : j = i
    · rw [hj, updP_same]; exact ⟨rfl, rfl⟩
    · rw [updP_ne P hj]; exact ⟨rfl, rfl⟩
end Go.Proofs.YtjkiehmjffgnlaaGreatDoor
