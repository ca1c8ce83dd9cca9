import Derived.Test.YtjkiehmjffgnlaaGreatDoorXmlZ48
import Derived.Test.YtjkiehmjffgnlaaGreatDoorXmlZ30
import Derived.Test.YtjkiehmjffgnlaaGreatDoorXmlZ35
import Derived.Test.YtjkiehmjffgnlaaGreatDoorXmlZ31
import Derived.Test.YtjkiehmjffgnlaaGreatDoorXmlZ22
namespace Go.Proofs.YtjkiehmjffgnlaaGreatDoor
set_option linter.unusedVariables false
set_option linter.unusedSimpArgs false
open Go.RowKit

theorem infoZ : (Tryz.prog.info? 46).map (fun i => (i.zero, i.size)) = some (some (.agg #[.string ⟨#[]⟩, .string ⟨#[]⟩, .string ⟨#[]⟩, .slice none 0 0, .slice none 0 0]), 5) := by kernel_rfl
/-- a row, read asz a list of trees' cells (nothing is said of what hangs on them). -/
def keyD (p : NodeD) : KeyT := keyN p.x
def keepD (k : KeyT) (l : List NodeD) : List NodeD := l.filter fun p => !decide (keyD p = k)
theorem idx_none (k : KeyT) : ∀ (l : List NodeD) (i : Nat), idxFrom k (l.map (·.x)) i = -1 → keepD k l = l
  | [], _, _ => rfl
  | p :: l, i, h => by
    rw [List.map_cons, idxFrom] at h
    by_cases hk : keyN p.x = k
    · rw [if_pos hk] at h; omega
    · rw [if_neg hk] at h
      unfold keepD
      rw [List.filter_cons, if_pos (by show (!decide (keyN p.x = k)) = true; rw [decide_eq_false hk]; rfl)]
      congr 1
      exact idx_none k l (i + 1) h
theorem idx_some (k : KeyT) : ∀ (l : List NodeD) (i : Nat), idxFrom k (l.map (·.x)) i ≠ -1 → ∃ j : Nat, j < l.length ∧ idxFrom k (l.map (·.x)) i = ((i + j : Nat) : Int) ∧ keepD k (l.take (j + 1)) = l.take j
  | [], _, h => absurd rfl h
  | p :: l, i, h => by
    rw [List.map_cons, idxFrom] at h ⊢
    by_cases hk : keyN p.x = k
    · refine ⟨0, by simp, by rw [if_pos hk]; simp, ?_⟩
      unfold keepD
      rw [List.take_succ_cons, List.take_zero, List.filter_cons, if_neg (by show ¬ (!decide (keyN p.x = k)) = true; rw [decide_eq_true hk]; simp)]
      rfl
    · rw [if_neg hk] at h ⊢
      obtain ⟨j, h1, h2, h3⟩ := idx_some k l (i + 1) h
      refine ⟨j + 1, by simp; omega, by rw [h2]; congr 1; omega, ?_⟩
      unfold keepD at h3 ⊢
      rw [List.take_succ_cons, List.filter_cons, if_pos (by show (!decide (keyN p.x = k)) = true; rw [decide_eq_false hk]; rfl), h3]
      rfl
theorem keep_next (k : KeyT) {l : List NodeD} {j : Nat} {p : NodeD} (h : l[j]? = some p) : keepD k (l.take (j + 1)) = keepD k (l.take j) ++ (if keyD p = k then [] else [p]) := by
  unfold keepD
  rw [List.take_add_one, h, List.filter_append]
  congr 1
  by_cases hk : keyD p = k
  · rw [if_pos hk]
    show List.filter _ [p] = []
    rw [List.filter_cons, if_neg (by rw [decide_eq_true hk]; simp)]
    rfl
  · rw [if_neg hk]
    show List.filter _ [p] = [p]
    rw [List.filter_cons, if_pos (by rw [decide_eq_false hk]; rfl)]
    rfl
def HangD (w : World) (d : List NodeD) : Prop := ∀ p ∈ d, NodeP anyB w p.cells p.x
theorem NRow.tab {B g cap : Nat} {d : List NodeD} {w : World} (h : NRow NodeD.cells B g cap d w) (hh : HangD w d) : Tab 5 (NodeP anyB) w (.slice (some ⟨g, 0, none⟩) d.length cap) (d.map (·.x)) :=
  OwnT.tab h (by rw [List.length_map, List.length_map]) fun j x r hx hr => by
    rw [List.getElem?_map] at hx hr
    obtain ⟨p, hp, rfl⟩ := Option.map_eq_some_iff.1 hx
    rw [hp] at hr
    injection hr with hr
    subst hr
    exact hh p (List.mem_of_getElem? hp)
def DelP (B g cap : Nat) (d' : List NodeD) (w : World) (e : Ending) (w' : World) : Prop := e = .returned (.slice (some ⟨g, 0, none⟩) d'.length cap) ∧ NRow NodeD.cells B g cap d' w' ∧ RGr (some g) (some g) w w'
set_option maxHeartbeats 32000000 in
set_option maxRecDepth 100000 in
set_option linter.unusedSimpArgs false in
theorem deleteN_any (B g cap : Nat) (d : List NodeD) (k : KeyT) (pb n : Nat) (w : World) (hn : n = d.length) (h : NRow NodeD.cells B g cap d w) (hh : HangD w d) (hp : w.heap[pb]? = some (.cells #[.string ⟨k.1.toArray⟩, .string ⟨k.2.toArray⟩] 52 (0, 0))) (hpg : pb ≠ g) (hs : n ≤ 1000000000000) :
    Calls Tryz.prog 19 #[.slice (some ⟨g, 0, none⟩) n cap, .func (.func 20) #[] #[.pointer (some ⟨pb, 0, none⟩)]] w (DelP B g cap (keepD k d) w) := by
  obtain ⟨E, hEE⟩ : ∃ E, E = DelP B g cap (keepD k d) w := ⟨_, rfl⟩
  rw [← hEE]
  have HEE := Lib.hid hEE
  have HIx := Lib.hid (idx_patch (d.map (·.x)) (some ⟨g, 0, none⟩) n cap w (by rw [hn]; exact h.tab hh) k pb hp)
  have HO0 := Lib.hid h
  have HN := Lib.hid hn
  have HP := Lib.hid hp
  have HPG := Lib.hid hpg
  have HI1 := Lib.hid (fun h => idx_none k d 0 h)
  have HI2 := Lib.hid (fun h => idx_some k d 0 h)
  have hcap := h.len
  unfold maxLen at hcap
  rw [← hn] at hcap
  obtain ⟨hcp1, hcp2⟩ := hcap
  generalize idxFrom k (d.map (·.x)) 0 = I at *
  clear h hEE hn hp hh hpg
  go_enter Tryz.func19, Tryz.ntmps19
  go_wp2_with fail
  refine HIx.out.mono ?_
  rintro e w1 ⟨rfl, q, os, he⟩
  have HB1 := Lib.hid (show Below w.heap.size w w1 by rw [he]; exact below_grown w q os)
  have HO1 := Lib.hid (HO0.out.under HB1.out)
  clear he HIx HO0
  by_cases hI : I = -1
  · have HV := Lib.hid (HI1.out hI)
    subst hI
    clear HI1 HI2
    go_wp2
    rw [HEE.out, HV.out]
    exact ⟨by rw [← HN.out]; rfl, HO1.out, RGr.under HB1.out⟩
  obtain ⟨i0, hi0, hIe, hk0⟩ := HI2.out hI
  rw [Nat.zero_add] at hIe
  subst hIe
  have HR1 := Lib.hid (RGr.under (o := some g) HB1.out)
  have HK0 := Lib.hid hk0
  have hi0n : i0 < n := by rw [HN.out]; exact hi0
  clear HI1 HI2 HB1 hk0 hi0
  have e0 : ((i0 : Int) == -1) = false := by rw [beq_eq_false_iff_ne]; omega
  go_wp2_with fail
  go_loopg [5, 6] (n - (i0 + 1)) (fun gk v5 v6 wr => ∃ (i j : Nat) (D : List NodeD), j + gk = n ∧ i < j ∧ v5 = .int .i64 i ∧ v6 = .int .i64 j ∧ Hid (D.length = n ∧ D.take i = keepD k (d.take j) ∧ D.drop j = d.drop j) ∧ Hid (NRow NodeD.cells B g cap D wr) ∧ Hid (RGr (some g) (some g) w wr))
  case atStart => exact ⟨i0, i0 + 1, d, by omega, Nat.lt_succ_self _, rfl, by go_num, Lib.hid ⟨HN.out.symm, HK0.out.symm, rfl⟩, HO1, HR1⟩
  case round =>
    obtain ⟨i, j, D, hjg, hij, rfl, rfl, HL, HO, HR⟩ := hrel
    clear HO1 HR1 HK0
    rcases hd : d.drop j with _ | ⟨p, rest⟩
    · have hj2 : j = n := by have := drop_nil hd; have := HN.out; omega
      subst hj2
      obtain ⟨hl1, hl2, hl3⟩ := HL.out
      have hO : OwnT 46 5 B (D.map NodeD.cells) (.slice (some ⟨g, 0, none⟩) (D.map NodeD.cells).length cap) wr := by have := HO.out; unfold NRow at this; rw [List.length_map]; exact this
      obtain ⟨w5, hrun, ho5, hg5, -⟩ := run_ownClear (P := Tryz.prog) Tryz.underlying22 infoZ rfl (by decide) hO (j := i) (by rw [List.length_map]; omega) 0 (cap - i) (some ⟨g, i * 5, none⟩) (fun _ => rfl)
      have hX : keepD k d = D.take i := by rw [hl2, List.take_of_length_le (by rw [HN.out]; exact Nat.le_refl _)]
      have hXl : (keepD k d).length = i := by rw [hX, List.length_take]; omega
      rw [List.length_map, hl1] at hrun
      have HF := Lib.hid (show NRow NodeD.cells B g cap (keepD k d) w5 by
        unfold NRow
        rw [hXl, hX, List.map_take]
        exact ho5)
      have HXl := Lib.hid hXl
      have HR5 := Lib.hid (HR.out.trans (RGr.of hg5 (.inl rfl)))
      have k1 : ¬ (j : Int) < j := by omega
      have k2 : (0 : Int) ≤ i := by omega
      have k3 : (i : Int) ≤ j := by omega
      have k4 : (i : Int) ≤ cap := by omega
      clear hd hl1 hl2 hl3 hO ho5 hg5 hX hXl HL HO HR
      go_wp2
      rw [HEE.out]
      exact ⟨by rw [HXl.out], HF.out, HR5.out⟩
    · obtain ⟨hlt, hx, hr⟩ := drop_consA hd
      obtain ⟨hl1, hl2, hl3⟩ := HL.out
      have hDj : D[j]? = some p := by
        have h1 := congrArg (·[0]?) hl3
        simp only [List.getElem?_drop, Nat.add_zero] at h1
        rw [h1, hx]
      have hO : OwnT 46 5 B (D.map NodeD.cells) (.slice (some ⟨g, 0, none⟩) n cap) wr := by have := HO.out; unfold NRow at this; rw [hl1] at this; exact this
      have hrj : (D.map NodeD.cells)[j]? = some p.cells := by rw [List.getElem?_map, hDj]; rfl
      have d0 : wr.cell? ⟨g, j * 5, none⟩ = some (.string ⟨p.x.text.toArray⟩) := OwnT.cellAt hO rfl hrj (k := 0) rfl
      have d1 : wr.cell? ⟨g, j * 5 + 1, none⟩ = some (.string ⟨p.x.space.toArray⟩) := OwnT.cellAt hO rfl hrj (k := 1) rfl
      have d2 : wr.cell? ⟨g, j * 5 + 2, none⟩ = some (.string ⟨p.x.name.toArray⟩) := OwnT.cellAt hO rfl hrj (k := 2) rfl
      have d3 : wr.cell? ⟨g, j * 5 + 3, none⟩ = some (.slice p.aA p.am p.ac) := OwnT.cellAt hO rfl hrj (k := 3) rfl
      have d4 : wr.cell? ⟨g, j * 5 + 4, none⟩ = some (.slice p.kA p.km p.kc) := OwnT.cellAt hO rfl hrj (k := 4) rfl
      have hb2 : Below wr.heap.size wr (wr.alloc (.cells #[.string ⟨p.x.text.toArray⟩, .string ⟨p.x.space.toArray⟩, .string ⟨p.x.name.toArray⟩, .slice p.aA p.am p.ac, .slice p.kA p.km p.kc] 46 (0, 0))) := (Below.refl _ _).alloc (Nat.le_refl _) _
      have hq := heap_alloc_new wr (.cells #[.string ⟨p.x.text.toArray⟩, .string ⟨p.x.space.toArray⟩, .string ⟨p.x.name.toArray⟩, .slice p.aA p.am p.ac, .slice p.kA p.km p.kc] 46 (0, 0))
      have hpw := HP.out
      have hpr : wr.heap[pb]? = w.heap[pb]? := HR.out.block pb (xlt hpw) (fun e => by injection e with e; exact HPG.out e)
      have hpw2 := (hb2.block pb (by have := HR.out.size; have := xlt hpw; omega)).trans (hpr.trans hpw)
      have HC := Lib.hid (same_patch p.x.text p.x.space p.x.name (.slice p.aA p.am p.ac) (.slice p.kA p.km p.kc) pb k.1 k.2 _ hpw2)
      obtain ⟨bb, hbb⟩ : ∃ bb, bb = decide ((p.x.space, p.x.name) = (k.1, k.2)) := ⟨_, rfl⟩
      rw [← hbb] at HC
      have HBB := Lib.hid (show bb = decide (keyD p = k) from hbb)
      have HOw := Lib.hid hO
      have HB2 := Lib.hid hb2
      have HKn := Lib.hid (keep_next k hx)
      have k1 : (j : Int) < n := by have := HN.out; omega
      have k2 : (0 : Int) ≤ j := by omega
      have HJn := Lib.hid (show j < n by have := HN.out; omega)
      clear hd hr hDj hO hrj hpw hpr hpw2 hbb hb2 hlt hl1 hl2 hl3 HO
      go_wp2_with fail
      generalize wr.alloc (.cells #[.string ⟨p.x.text.toArray⟩, .string ⟨p.x.space.toArray⟩, .string ⟨p.x.name.toArray⟩, .slice p.aA p.am p.ac, .slice p.kA p.km p.kc] 46 (0, 0)) = w2 at *
      obtain ⟨q, hqe⟩ : ∃ q, q = wr.heap.size := ⟨_, rfl⟩
      rw [← hqe] at hq ⊢
      have HQe := Lib.hid hqe
      have HQ := Lib.hid hq
      clear hqe hq d0 d1 d2 d3 d4
      refine HC.out.mono ?_
      rintro e w5 ⟨rfl, q5, os5, he⟩
      have hb5 : Below w2.heap.size w2 w5 := by rw [he]; exact below_grown w2 q5 os5
      have hq5 := (hb5.block q (xlt HQ.out)).trans HQ.out
      have x0 := xat hq5 0
      have x1 := xat hq5 1
      have x2 := xat hq5 2
      have x3 := xat hq5 3
      have x4 := xat hq5 4
      simp only [List.getElem?_toArray, List.getElem?_cons_zero, List.getElem?_cons_succ] at x0 x1 x2 x3 x4
      have hb25 : Below wr.heap.size wr w5 := HB2.out.trans (hb5.mono HB2.out.size)
      have hO5 := HOw.out.below hb25
      obtain ⟨V1, V2, V3, V4, V5, s0, s1, s2, s3, s4, ho9, hg9, -⟩ := stores_five Tryz.prog hO5 (g := g) rfl (j := i) (by rw [List.length_map, HL.out.1]; have := HJn.out; omega) (.string ⟨p.x.text.toArray⟩) (.string ⟨p.x.space.toArray⟩) (.string ⟨p.x.name.toArray⟩) (.slice p.aA p.am p.ac) (.slice p.kA p.km p.kc) (fun u hu => encD.one p u hu)
      have HO5 := Lib.hid (show NRow NodeD.cells B g cap D w5 by unfold NRow; rw [HL.out.1]; exact hO5)
      have HR5 := Lib.hid (HR.out.trans (RGr.under (o := some g) hb25))
      have HO9 := Lib.hid (show NRow NodeD.cells B g cap (D.set i p) V5 by unfold NRow; rw [List.length_set, HL.out.1, List.map_set]; exact ho9)
      have HR9 := Lib.hid (HR5.out.trans (RGr.of hg9 (.inl rfl)))
      clear he HC hb5 hq5 hb25 hO5 ho9 hg9 HOw HB2 HQ HQe HR
      generalize (.string ⟨p.x.text.toArray⟩ : Value) = f0 at *
      generalize (.string ⟨p.x.space.toArray⟩ : Value) = f1 at *
      generalize (.string ⟨p.x.name.toArray⟩ : Value) = f2 at *
      generalize (.slice p.aA p.am p.ac : Value) = f3 at *
      generalize (.slice p.kA p.km p.kc : Value) = f4 at *
      cases bb
      · have HL2 := Lib.hid (show (D.set i p).length = n ∧ (D.set i p).take (i + 1) = keepD k (d.take (j + 1)) ∧ (D.set i p).drop (j + 1) = d.drop (j + 1) by
          obtain ⟨h1, h2, h3⟩ := HL.out
          have h4 : i < D.length := by rw [h1]; have := HJn.out; omega
          refine ⟨by rw [List.length_set]; exact h1, ?_, ?_⟩
          · rw [HKn.out, if_neg (of_decide_eq_false HBB.out.symm), set_parts h4, ← h2]
            rw [List.take_append, List.length_take, Nat.min_eq_left (Nat.le_of_lt h4), List.take_take, Nat.min_eq_right (Nat.le_succ i), Nat.add_sub_cancel_left]
            rfl
          · rw [List.drop_set_of_lt (by omega), ← List.drop_drop, ← List.drop_drop, h3])
        have f1 : (0 : Int) ≤ i := by omega
        have f2 : (i : Int) < n := by have := HJn.out; omega
        clear HL HKn HBB HO5 HR5
        go_wp2
        go_roundg (gk - 1)
        case measure => omega
        case rel => exact ⟨i + 1, j + 1, D.set i p, by omega, by omega, by go_num, by go_num, HL2, HO9, HR9⟩
      · have HL2 := Lib.hid (show D.length = n ∧ D.take i = keepD k (d.take (j + 1)) ∧ D.drop (j + 1) = d.drop (j + 1) by
          obtain ⟨h1, h2, h3⟩ := HL.out
          refine ⟨h1, by rw [HKn.out, if_pos (of_decide_eq_true HBB.out.symm), List.append_nil]; exact h2, by rw [← List.drop_drop, ← List.drop_drop, h3]⟩)
        clear HL HKn HBB HO9 HR9
        go_wp2
        go_roundg (gk - 1)
        case measure => omega
        case rel => exact ⟨i, j + 1, D, by omega, by omega, rfl, by go_num, HL2, HO5, HR5⟩
end Go.Proofs.YtjkiehmjffgnlaaGreatDoor
namespace Go.Proofs.YtjkiehmjffgnlaaGreatDoor
set_option linter.unusedVariables false
set_option linter.unusedSimpArgs false
open Go.RowKit

def KRow (B : Nat) (v : Value) (d : List NodeD) (w : World) : Prop := OwnT 46 5 B (d.map NodeD.cells) v w
def LowD (B : Nat) (w : World) (d : List NodeD) : Prop := ∀ p ∈ d, NodeP (fun k => k < B) w p.cells p.x
theorem LowD.hang {B : Nat} {w : World} {d : List NodeD} (h : LowD B w d) : HangD w d := fun p hp => (h p hp).move (Moves.same w fun _ _ _ => trivial)
theorem LowD.below {B : Nat} {w w' : World} {d : List NodeD} (h : LowD B w d) (hb : Below B w w') : LowD B w' d := fun p hp => (h p hp).move ⟨hb.size, fun k hk _ => ⟨hk, hb.block k hk⟩⟩
theorem LowD.mono {B B' : Nat} {w : World} {d : List NodeD} (h : LowD B w d) (hB : B ≤ B') : LowD B' w d := fun p hp => (h p hp).move (Moves.same w fun _ hk _ => Nat.lt_of_lt_of_le hk hB)
theorem nodes_of {Q : Nat → Prop} {w : World} : ∀ (ks : List NodeT) (rows : List (List Value)), rows.length = ks.length → (∀ (j : Nat) (x : NodeT) (r : List Value), ks[j]? = some x → rows[j]? = some r → NodeP Q w r x) →
    ∃ d : List NodeD, d.map NodeD.cells = rows ∧ d.map (·.x) = ks ∧ ∀ p ∈ d, NodeP (fun k => Q k ∧ k < w.heap.size) w p.cells p.x
  | [], [], _, _ => ⟨[], rfl, rfl, fun p hp => by cases hp⟩
  | [], _ :: _, h, _ => by simp at h
  | _ :: _, [], h, _ => by simp at h
  | x :: ks, r :: rows, h, hR => by
    obtain ⟨d, h1, h2, h3⟩ := nodes_of ks rows (by simpa using h) (fun j y s hy hs => hR (j + 1) y s hy hs)
    have hx := hR 0 x r rfl rfl
    obtain ⟨av, kv, hc, ha, hk⟩ := hx.parts
    obtain ⟨A, cap, hav, -⟩ := ha.1
    obtain ⟨A', cap', hkv, -⟩ := hk.1
    subst hav hkv
    refine ⟨⟨x, A, _, cap, A', _, cap'⟩ :: d, by rw [List.map_cons, h1]; congr 1; exact hc.symm, by rw [List.map_cons, h2], fun p hp => ?_⟩
    rcases List.mem_cons.1 hp with rfl | hp
    · have hm : NodeP (fun k => Q k ∧ k < w.heap.size) w r x := hx.move (Moves.same w fun _ hq hlt => ⟨hq, hlt⟩)
      rw [hc] at hm
      exact hm
    · exact h3 p hp
def CloneP (B : Nat) (Q : Nat → Prop) (nl : Bool) (ks : List NodeT) (w : World) (e : Ending) (w' : World) : Prop :=
  ∃ v d, e = .returned v ∧ d.map (·.x) = ks ∧ KRow B v d w' ∧ (∀ p ∈ d, NodeP (fun k => Q k ∧ k < B) w' p.cells p.x) ∧ Below B w w' ∧ (nl = true → v = .slice none 0 0) ∧ (nl = false → ∃ g cap, v = .slice (some ⟨g, 0, none⟩) d.length cap)
set_option maxHeartbeats 16000000 in
set_option maxRecDepth 100000 in
set_option linter.unusedSimpArgs false in
theorem clone_any (Q : Nat → Prop) (A : Option Addr) (n cap : Nat) (ks : List NodeT) (w : World) (hn : n = ks.length) (h : Tab 5 (NodeP Q) w (.slice A n cap) ks) (hz : A = none → n = 0 ∧ cap = 0) (hs : n ≤ 1000000000000) :
    Calls Tryz.prog 16 #[.slice A n cap] w (CloneP w.heap.size Q A.isNone ks w) := by
  obtain ⟨E, hEE⟩ : ∃ E, E = CloneP w.heap.size Q A.isNone ks w := ⟨_, rfl⟩
  rw [← hEE]
  have HEE := Lib.hid hEE
  subst hn
  obtain ⟨A', cap', rows, hv, n1, n2, n3, n4, n5, n6⟩ := h.flat
  injection hv with hv1 hv2 hv3
  subst hv1 hv3
  obtain ⟨d, h1, h2, h3⟩ := nodes_of ks rows n3 n5
  cases hnA : A.isNone with
  | true =>
    obtain ⟨hn0, hc0⟩ := hz (Option.isNone_iff_eq_none.1 hnA)
    rw [hnA] at HEE
    have hk0 := List.eq_nil_of_length_eq_zero hn0
    subst hc0 hk0
    clear n1 n2 n3 n4 n5 n6 h1 h2 h3 hv2 hz h hn0 hEE
    have hn1 : ∀ w : World, (binOp .eql 22 (.slice A 0 0) (.slice none 0 0)).run Tryz.prog w = .ok (.bool true) w := fun w => (Lib.run_eql_slice_nil w 22 _ A 0 0 0 0 Tryz.underlying22).trans (by rw [hnA])
    go_enter Tryz.func16, Tryz.ntmps16
    go_wp2
    rw [HEE.out]
    exact ⟨_, [], rfl, rfl, OwnT.nil _ _ _ _, (fun p hp => by cases hp), Below.refl _ _, fun _ => rfl, fun h => absurd h (by decide)⟩
  | false =>
    rw [hnA] at HEE
    have h0 : OwnT 46 5 w.heap.size [] (.slice (some ⟨w.heap.size, 0, none⟩) 0 0) (w.alloc (.cells #[] 46)) := OwnT.made _ w #[] 0 (Nat.le_refl _) (Nat.zero_le _) rfl
    have hba : Below w.heap.size w (w.alloc (.cells #[] 46)) := (Below.refl _ _).alloc (Nat.le_refl _) _
    obtain ⟨v1, w1, run1, o1, b1, g1, p1⟩ := run_appT elemN 22 h0 A ks.length cap (news := rows) n3 n1 n4 (fun hne => by
      obtain ⟨b, o, hA, hb, hc⟩ := n6 (fun e => hne (List.eq_nil_of_length_eq_zero (by rw [n3, e]; rfl)))
      exact ⟨b, o, hA, fun j r hr k u hu => by rw [cell_eq (hba.block b hb)]; exact hc j r hr k u hu⟩) (fun r hr u hu => by
        rw [← h1] at hr
        obtain ⟨p, -, rfl⟩ := List.mem_map.1 hr
        exact encD.one p u hu) (by simp only [List.length_nil]; omega) hba.size
    have hdl : d.length = ks.length := by rw [← h2, List.length_map]
    have HF : Hid (CloneP w.heap.size Q false ks w (.returned v1) w1) := Lib.hid (by
      refine ⟨v1, d, rfl, h2, by unfold KRow; rw [h1]; exact o1, (fun p hp => (h3 p hp).move ⟨(hba.trans b1).size, fun k hk _ => ⟨hk, (hba.trans b1).block k hk.2⟩⟩), hba.trans b1, (fun h => absurd h (by decide)), fun _ => ?_⟩
      rcases o1.1.2 with ⟨hv, h0⟩ | ⟨g, cap, cur, hv, hb, hg, hn, hm, hs, ht⟩
      · exfalso
        rcases p1 with p1 | p1 <;> (rw [hv] at p1; exact absurd p1 (by simp [Value.ownBlock]))
      · exact ⟨g, cap, by rw [hv, List.nil_append, n3, hdl]⟩)
    have HR := Lib.hid run1
    clear n1 n2 n3 n4 n5 n6 h1 h2 h3 hv2 hz h hEE h0 hba run1 o1 b1 g1 p1 hdl
    have hn1 : ∀ w : World, (binOp .eql 22 (.slice A ks.length cap) (.slice none 0 0)).run Tryz.prog w = .ok (.bool false) w := fun w => (Lib.run_eql_slice_nil w 22 _ A ks.length cap 0 0 Tryz.underlying22).trans (by rw [hnA])
    go_enter Tryz.func16, Tryz.ntmps16
    go_wp2_with (at_builtin; refine wpList_app_run (by rfl) _ _ rfl rfl rfl HR.out ?_)
    rw [HEE.out]
    exact HF.out
end Go.Proofs.YtjkiehmjffgnlaaGreatDoor
namespace Go.Proofs.YtjkiehmjffgnlaaGreatDoor
set_option linter.unusedVariables false
set_option linter.unusedSimpArgs false
open Go.RowKit

set_option maxHeartbeats 8000000 in
set_option maxRecDepth 100000 in
set_option linter.unusedSimpArgs false in
theorem ldav_any (nm : List UInt8) (A : Option Addr) (m c : Nat) (w : World) : Calls Tryz.prog 35 #[.string ⟨nm.toArray⟩, .slice A m c] w (RetW (.agg #[.string ⟨#[]⟩, .string ⟨#[68, 65, 86, 58]⟩, .string ⟨nm.toArray⟩, .slice none 0 0, .slice A m c]) w) := by
  have hG := allocs_grow [(.cells #[.string ⟨#[]⟩, .string ⟨#[68, 65, 86, 58]⟩, .string ⟨nm.toArray⟩, .slice none 0 0, .slice A m c] 46 (0, 0))] w
  have h1 := allocs_at [(.cells #[.string ⟨#[]⟩, .string ⟨#[68, 65, 86, 58]⟩, .string ⟨nm.toArray⟩, .slice none 0 0, .slice A m c] 46 (0, 0))] w 0 _ rfl
  have HG := Lib.hid hG
  have H1 := Lib.hid h1
  obtain ⟨E, hEE⟩ : ∃ E, E = RetW (.agg #[.string ⟨#[]⟩, .string ⟨#[68, 65, 86, 58]⟩, .string ⟨nm.toArray⟩, .slice none 0 0, .slice A m c]) w := ⟨_, rfl⟩
  rw [← hEE]
  have HEE := Lib.hid hEE
  clear hEE hG h1
  go_enter Tryz.func35, Tryz.ntmps35
  go_wp2
  refine bodyPost_ret (results_c1 rfl _ _ _ _ _ _ rfl H1.out Tryz.underlying46 rfl (by kernel_rfl)) rfl ?_
  rw [HEE.out]
  exact ⟨rfl, 0, _, HG.out⟩
end Go.Proofs.YtjkiehmjffgnlaaGreatDoor
namespace Go.Proofs.YtjkiehmjffgnlaaGreatDoor
set_option linter.unusedVariables false
set_option linter.unusedSimpArgs false
open Go.RowKit

theorem node_store (P : Program) {w : World} {b : Nat} {x0 x1 x2 x3 x4 : Value} {t : TypeId} (h : w.heap[b]? = some (.cells #[x0, x1, x2, x3, x4] t (0, 0))) (y0 y1 y2 y3 y4 : Value) (h1 : ∀ u ∈ [y0, y1, y2, y3, y4], u.oneCell' = true) :
    ∃ W1 W2 W3 W4 W5, (store ⟨b, 0, none⟩ y0).run P w = .ok () W1 ∧ (store ⟨b, 1, none⟩ y1).run P W1 = .ok () W2 ∧ (store ⟨b, 2, none⟩ y2).run P W2 = .ok () W3 ∧ (store ⟨b, 3, none⟩ y3).run P W3 = .ok () W4 ∧ (store ⟨b, 4, none⟩ y4).run P W4 = .ok () W5 ∧
      W5.heap[b]? = some (.cells #[y0, y1, y2, y3, y4] t (0, 0)) ∧ RGr (some b) (some b) w W5 := by
  have s0 := run_store_at P (p := 0) h (by simp) (h1 y0 (by simp))
  have g1 := setRow_heap w b _ (#[x0, x1, x2, x3, x4].setIfInBounds 0 y0) t (0, 0) h
  have s1 := run_store_at P (p := 1) g1 (by simp) (h1 y1 (by simp))
  have g2 := setRow_heap _ b _ ((#[x0, x1, x2, x3, x4].setIfInBounds 0 y0).setIfInBounds 1 y1) t (0, 0) g1
  have s2 := run_store_at P (p := 2) g2 (by simp) (h1 y2 (by simp))
  have g3 := setRow_heap _ b _ (((#[x0, x1, x2, x3, x4].setIfInBounds 0 y0).setIfInBounds 1 y1).setIfInBounds 2 y2) t (0, 0) g2
  have s3 := run_store_at P (p := 3) g3 (by simp) (h1 y3 (by simp))
  have g4 := setRow_heap _ b _ ((((#[x0, x1, x2, x3, x4].setIfInBounds 0 y0).setIfInBounds 1 y1).setIfInBounds 2 y2).setIfInBounds 3 y3) t (0, 0) g3
  have s4 := run_store_at P (p := 4) g4 (by simp) (h1 y4 (by simp))
  have g5 := setRow_heap _ b _ (((((#[x0, x1, x2, x3, x4].setIfInBounds 0 y0).setIfInBounds 1 y1).setIfInBounds 2 y2).setIfInBounds 3 y3).setIfInBounds 4 y4) t (0, 0) g4
  have go : ∀ (w : World) (cs : Array Value), RGr (some b) (some b) w (w.setRow b cs) := fun w cs => RGr.of (grown_setRow w b cs) (.inl rfl)
  refine ⟨_, _, _, _, _, s0, s1, s2, s3, s4, ?_, (go _ _).trans ((go _ _).trans ((go _ _).trans ((go _ _).trans (go _ _))))⟩
  rw [g5]
  rfl
def MkN (B : Nat) (x : NodeT) (w : World) (e : Ending) (w' : World) : Prop := ∃ p : NodeD, p.x = x ∧ e = .returned (.agg p.cells.toArray) ∧ NodeP (fun b => B ≤ b) w' p.cells p.x ∧ Below w.heap.size w w'
set_option maxHeartbeats 8000000 in
set_option maxRecDepth 100000 in
set_option linter.unusedSimpArgs false in
theorem ltext_any (nm tx : List UInt8) (w : World) : Calls Tryz.prog 44 #[.string ⟨nm.toArray⟩, .string ⟨tx.toArray⟩] w (MkN w.heap.size (davN nm [textN tx]) w) := by
  have T := two_alloc w (.cells #[.string ⟨#[]⟩, .string ⟨#[]⟩, .string ⟨#[]⟩, .slice none 0 0, .slice none 0 0] 46 (0, 0)) (.cells #[.string ⟨tx.toArray⟩, .string ⟨#[]⟩, .string ⟨#[]⟩, .slice none 0 0, .slice none 0 0] 46 (0, 0))
  have HT := Lib.hid T
  have HD := Lib.hid (ldav_any nm (some ⟨w.heap.size + 1, 0, none⟩) 1 1 ((w.alloc (.cells #[.string ⟨#[]⟩, .string ⟨#[]⟩, .string ⟨#[]⟩, .slice none 0 0, .slice none 0 0] 46 (0, 0))).alloc (.cells #[.string ⟨tx.toArray⟩, .string ⟨#[]⟩, .string ⟨#[]⟩, .slice none 0 0, .slice none 0 0] 46 (0, 0))))
  obtain ⟨E, hEE⟩ : ∃ E, E = MkN w.heap.size (davN nm [textN tx]) w := ⟨_, rfl⟩
  rw [← hEE]
  have HEE := Lib.hid hEE
  clear hEE T
  go_enter Tryz.func44, Tryz.ntmps44
  go_wp2_with fail
  refine HD.out.mono ?_
  rintro e w5 ⟨rfl, q, os, he⟩
  obtain ⟨hb0, hq0, hq1⟩ := HT.out
  have hb5 := below_grown ((w.alloc (.cells #[.string ⟨#[]⟩, .string ⟨#[]⟩, .string ⟨#[]⟩, .slice none 0 0, .slice none 0 0] 46 (0, 0))).alloc (.cells #[.string ⟨tx.toArray⟩, .string ⟨#[]⟩, .string ⟨#[]⟩, .slice none 0 0, .slice none 0 0] 46 (0, 0))) q os
  rw [← he] at hb5
  have h0 := (hb5.block _ (xlt hq0)).trans hq0
  have h1 := (hb5.block _ (xlt hq1)).trans hq1
  have hb : Below w.heap.size w w5 := hb0.trans (hb5.mono hb0.size)
  obtain ⟨W1, W2, W3, W4, W5, s0, s1, s2, s3, s4, hW, hR⟩ := node_store Tryz.prog h0 (.string ⟨#[]⟩) (.string ⟨#[68, 65, 86, 58]⟩) (.string ⟨nm.toArray⟩) (.slice none 0 0) (.slice (some ⟨w.heap.size + 1, 0, none⟩) 1 1) (fun u hu => encD.one (⟨davN nm [textN tx], none, 0, 0, some ⟨w.heap.size + 1, 0, none⟩, 1, 1⟩ : NodeD) u hu)
  have hbW : Below w.heap.size w W5 := hb.trans (hR.low (fun k hk => by injection hk with hk; omega) hb.size)
  have h1W : W5.heap[w.heap.size + 1]? = some (.cells #[.string ⟨tx.toArray⟩, .string ⟨#[]⟩, .string ⟨#[]⟩, .slice none 0 0, .slice none 0 0] 46 (0, 0)) := (hR.block _ (xlt h1) (by intro e; injection e with e; omega)).trans h1
  have HW := Lib.hid hW
  have HF := Lib.hid (show MkN w.heap.size (davN nm [textN tx]) w (.returned (.agg #[.string ⟨#[]⟩, .string ⟨#[68, 65, 86, 58]⟩, .string ⟨nm.toArray⟩, .slice none 0 0, .slice (some ⟨w.heap.size + 1, 0, none⟩) 1 1])) W5 from
    ⟨⟨davN nm [textN tx], none, 0, 0, some ⟨w.heap.size + 1, 0, none⟩, 1, 1⟩, rfl, rfl, dav_node (nodes_lit1 h1W (NodeP.text _ _ tx) (Nat.le_succ _)), hbW⟩)
  clear HD HT hb0 hq0 hq1 hb5 h0 h1 hb hW hR hbW h1W he
  generalize hf2 : (.string ⟨nm.toArray⟩ : Value) = f2 at *
  generalize hf0 : (.string ⟨#[]⟩ : Value) = f0 at *
  generalize hf1 : (.string ⟨#[68, 65, 86, 58]⟩ : Value) = f1 at *
  generalize hf3 : (.slice none 0 0 : Value) = f3 at *
  generalize hf4 : (.slice (some ⟨w.heap.size + 1, 0, none⟩) 1 1 : Value) = f4 at *
  clear hf0 hf1 hf2 hf3 hf4
  go_wp2
  refine bodyPost_ret (results_c1 rfl _ _ _ _ _ _ rfl HW.out Tryz.underlying46 rfl (by kernel_rfl)) rfl ?_
  rw [HEE.out]
  exact HF.out
end Go.Proofs.YtjkiehmjffgnlaaGreatDoor
namespace Go.Proofs.YtjkiehmjffgnlaaGreatDoor
set_option linter.unusedVariables false
set_option linter.unusedSimpArgs false
open Go.RowKit

theorem krow_lit2 {B b : Nat} {p q : NodeD} {w : World} (h : w.heap[b]? = some (.cells (p.cells ++ q.cells).toArray 46 (0, 0))) (hB : B ≤ b) : KRow B (.slice (some ⟨b, 0, none⟩) 2 2) [p, q] w := by
  refine ⟨⟨rfl, .inr ⟨b, 2, _, rfl, hB, h, Nat.le_refl _, by unfold maxLen; decide, rfl, rfl⟩⟩, fun r hr => ?_⟩
  rcases List.mem_cons.1 hr with rfl | hr
  · rfl
  · rw [List.mem_singleton.1 hr]; rfl
def MkNs (B : Nat) (xs : List NodeT) (w : World) (e : Ending) (w' : World) : Prop := ∃ v d, e = .returned v ∧ d.map (·.x) = xs ∧ KRow B v d w' ∧ (∀ p ∈ d, NodeP (fun k => B ≤ k ∧ some k ≠ v.ownBlock) w' p.cells p.x) ∧ Below w.heap.size w w'
def lscW (b : Bool) : List UInt8 := if b then [101, 120, 99, 108, 117, 115, 105, 118, 101] else [115, 104, 97, 114, 101, 100]
def scopeN (b : Bool) : List NodeT := [davN [108, 111, 99, 107, 115, 99, 111, 112, 101] [davN (lscW b) []], davN [108, 111, 99, 107, 116, 121, 112, 101] [davN [119, 114, 105, 116, 101] []]]
theorem kid_one {w : World} {b B g : Nat} {nm : List UInt8} (h : w.heap[b]? = some (.cells #[.string ⟨#[]⟩, .string ⟨#[68, 65, 86, 58]⟩, .string ⟨nm.toArray⟩, .slice none 0 0, .slice none 0 0] 46 (0, 0))) (hB : B ≤ b) (hg : b ≠ g) (nm2 : List UInt8) :
    NodeP (fun k => B ≤ k ∧ some k ≠ some g) w (⟨davN nm2 [davN nm []], none, 0, 0, some ⟨b, 0, none⟩, 1, 1⟩ : NodeD).cells (davN nm2 [davN nm []]) :=
  dav_node (nodes_lit1 h (dav_node (TabP.nil _ _ _ _)) ⟨hB, fun e => hg (by injection e)⟩)
theorem scope_end (s : List UInt8) (w w1 w2 w3 w4 : World) (b1 : Below w.heap.size w w1)
    (b2 : Below (w1.alloc (.cells #[.string ⟨#[]⟩, .string ⟨#[68, 65, 86, 58]⟩, .string ⟨s.toArray⟩, .slice none 0 0, .slice none 0 0] 46 (0, 0))).heap.size (w1.alloc (.cells #[.string ⟨#[]⟩, .string ⟨#[68, 65, 86, 58]⟩, .string ⟨s.toArray⟩, .slice none 0 0, .slice none 0 0] 46 (0, 0))) w2)
    (b3 : Below w2.heap.size w2 w3)
    (b4 : Below (w3.alloc (.cells #[.string ⟨#[]⟩, .string ⟨#[68, 65, 86, 58]⟩, .string ⟨([119, 114, 105, 116, 101] : List UInt8).toArray⟩, .slice none 0 0, .slice none 0 0] 46 (0, 0))).heap.size (w3.alloc (.cells #[.string ⟨#[]⟩, .string ⟨#[68, 65, 86, 58]⟩, .string ⟨([119, 114, 105, 116, 101] : List UInt8).toArray⟩, .slice none 0 0, .slice none 0 0] 46 (0, 0))) w4) :
    MkNs w.heap.size [davN [108, 111, 99, 107, 115, 99, 111, 112, 101] [davN s []], davN [108, 111, 99, 107, 116, 121, 112, 101] [davN [119, 114, 105, 116, 101] []]] w (.returned (.slice (some ⟨w4.heap.size, 0, none⟩) 2 2))
      (w4.alloc (.cells #[.string ⟨#[]⟩, .string ⟨#[68, 65, 86, 58]⟩, .string ⟨([108, 111, 99, 107, 115, 99, 111, 112, 101] : List UInt8).toArray⟩, .slice none 0 0, .slice (some ⟨w1.heap.size, 0, none⟩) 1 1, .string ⟨#[]⟩, .string ⟨#[68, 65, 86, 58]⟩, .string ⟨([108, 111, 99, 107, 116, 121, 112, 101] : List UInt8).toArray⟩, .slice none 0 0, .slice (some ⟨w3.heap.size, 0, none⟩) 1 1] 46 (0, 0))) := by
  have n1 := heap_alloc_new w1 (.cells #[.string ⟨#[]⟩, .string ⟨#[68, 65, 86, 58]⟩, .string ⟨s.toArray⟩, .slice none 0 0, .slice none 0 0] 46 (0, 0))
  have c1 : Below w1.heap.size w1 (w1.alloc (.cells #[.string ⟨#[]⟩, .string ⟨#[68, 65, 86, 58]⟩, .string ⟨s.toArray⟩, .slice none 0 0, .slice none 0 0] 46 (0, 0))) := (Below.refl _ _).alloc (Nat.le_refl _) _
  generalize w1.alloc (.cells #[.string ⟨#[]⟩, .string ⟨#[68, 65, 86, 58]⟩, .string ⟨s.toArray⟩, .slice none 0 0, .slice none 0 0] 46 (0, 0)) = X at *
  have n3 := heap_alloc_new w3 (.cells #[.string ⟨#[]⟩, .string ⟨#[68, 65, 86, 58]⟩, .string ⟨([119, 114, 105, 116, 101] : List UInt8).toArray⟩, .slice none 0 0, .slice none 0 0] 46 (0, 0))
  have c3 : Below w3.heap.size w3 (w3.alloc (.cells #[.string ⟨#[]⟩, .string ⟨#[68, 65, 86, 58]⟩, .string ⟨([119, 114, 105, 116, 101] : List UInt8).toArray⟩, .slice none 0 0, .slice none 0 0] 46 (0, 0))) := (Below.refl _ _).alloc (Nat.le_refl _) _
  generalize w3.alloc (.cells #[.string ⟨#[]⟩, .string ⟨#[68, 65, 86, 58]⟩, .string ⟨([119, 114, 105, 116, 101] : List UInt8).toArray⟩, .slice none 0 0, .slice none 0 0] 46 (0, 0)) = Y at *
  have n5 := heap_alloc_new w4 (.cells #[.string ⟨#[]⟩, .string ⟨#[68, 65, 86, 58]⟩, .string ⟨([108, 111, 99, 107, 115, 99, 111, 112, 101] : List UInt8).toArray⟩, .slice none 0 0, .slice (some ⟨w1.heap.size, 0, none⟩) 1 1, .string ⟨#[]⟩, .string ⟨#[68, 65, 86, 58]⟩, .string ⟨([108, 111, 99, 107, 116, 121, 112, 101] : List UInt8).toArray⟩, .slice none 0 0, .slice (some ⟨w3.heap.size, 0, none⟩) 1 1] 46 (0, 0))
  have c5 : Below w4.heap.size w4 (w4.alloc (.cells #[.string ⟨#[]⟩, .string ⟨#[68, 65, 86, 58]⟩, .string ⟨([108, 111, 99, 107, 115, 99, 111, 112, 101] : List UInt8).toArray⟩, .slice none 0 0, .slice (some ⟨w1.heap.size, 0, none⟩) 1 1, .string ⟨#[]⟩, .string ⟨#[68, 65, 86, 58]⟩, .string ⟨([108, 111, 99, 107, 116, 121, 112, 101] : List UInt8).toArray⟩, .slice none 0 0, .slice (some ⟨w3.heap.size, 0, none⟩) 1 1] 46 (0, 0))) := (Below.refl _ _).alloc (Nat.le_refl _) _
  generalize w4.alloc (.cells #[.string ⟨#[]⟩, .string ⟨#[68, 65, 86, 58]⟩, .string ⟨([108, 111, 99, 107, 115, 99, 111, 112, 101] : List UInt8).toArray⟩, .slice none 0 0, .slice (some ⟨w1.heap.size, 0, none⟩) 1 1, .string ⟨#[]⟩, .string ⟨#[68, 65, 86, 58]⟩, .string ⟨([108, 111, 99, 107, 116, 121, 112, 101] : List UInt8).toArray⟩, .slice none 0 0, .slice (some ⟨w3.heap.size, 0, none⟩) 1 1] 46 (0, 0)) = Z at *
  have l1 := xlt n1
  have l3 := xlt n3
  have z1 := b1.size
  have z2 := b2.size
  have z3 := b3.size
  have z4 := b4.size
  have zc := c3.size
  have h1 : Z.heap[w1.heap.size]? = some (.cells #[.string ⟨#[]⟩, .string ⟨#[68, 65, 86, 58]⟩, .string ⟨s.toArray⟩, .slice none 0 0, .slice none 0 0] 46 (0, 0)) :=
    (c5.block _ (by omega)).trans ((b4.block _ (by omega)).trans ((c3.block _ (by omega)).trans ((b3.block _ (by omega)).trans ((b2.block _ l1).trans n1))))
  have h3 : Z.heap[w3.heap.size]? = some (.cells #[.string ⟨#[]⟩, .string ⟨#[68, 65, 86, 58]⟩, .string ⟨([119, 114, 105, 116, 101] : List UInt8).toArray⟩, .slice none 0 0, .slice none 0 0] 46 (0, 0)) :=
    (c5.block _ (by omega)).trans ((b4.block _ l3).trans n3)
  have hb : Below w.heap.size w Z := b1.trans ((c1.mono z1).trans ((b2.mono (Nat.le_trans z1 c1.size)).trans ((b3.mono (by have := c1.size; omega)).trans ((c3.mono (by have := c1.size; omega)).trans ((b4.mono (by have := c1.size; omega)).trans (c5.mono (by have := c1.size; omega)))))))
  refine ⟨_, [⟨davN [108, 111, 99, 107, 115, 99, 111, 112, 101] [davN s []], none, 0, 0, some ⟨w1.heap.size, 0, none⟩, 1, 1⟩, ⟨davN [108, 111, 99, 107, 116, 121, 112, 101] [davN [119, 114, 105, 116, 101] []], none, 0, 0, some ⟨w3.heap.size, 0, none⟩, 1, 1⟩], rfl, rfl, krow_lit2 n5 (by have := c1.size; omega), fun p hp => ?_, hb⟩
  rcases List.mem_cons.1 hp with rfl | hp
  · exact kid_one (g := w4.heap.size) h1 z1 (by omega) _
  · rw [List.mem_singleton.1 hp]
    exact kid_one (g := w4.heap.size) h3 (by have := c1.size; omega) (by omega) _
set_option maxHeartbeats 16000000 in
set_option maxRecDepth 100000 in
set_option linter.unusedSimpArgs false in
theorem lscope_any (b : Bool) (w : World) : Calls Tryz.prog 47 #[.bool b] w (MkNs w.heap.size (scopeN b) w) := by
  obtain ⟨E, hEE⟩ : ∃ E, E = MkNs w.heap.size (scopeN b) w := ⟨_, rfl⟩
  rw [← hEE]
  have HEE := Lib.hid hEE
  clear hEE
  cases b
  all_goals
    go_enter Tryz.func47, Tryz.ntmps47
    go_wp2_with fail
    refine (ldav_any _ none 0 0 _).mono ?_
    rintro e w1 ⟨rfl, q1, os1, he1⟩
    have HB1 := Lib.hid (show Below w.heap.size w w1 by rw [he1]; exact below_grown w q1 os1)
    clear he1
    go_wp2_with fail
    refine (ldav_any _ (some ⟨w1.heap.size, 0, none⟩) 1 1 _).mono ?_
    rintro e w2 ⟨rfl, q2, os2, he2⟩
    have HB2 := Lib.hid (he2 ▸ below_grown _ q2 os2)
    clear he2
    go_wp2_with fail
    refine (ldav_any _ none 0 0 _).mono ?_
    rintro e w3 ⟨rfl, q3, os3, he3⟩
    have HB3 := Lib.hid (show Below w2.heap.size w2 w3 by rw [he3]; exact below_grown w2 q3 os3)
    clear he3
    go_wp2_with fail
    refine (ldav_any _ (some ⟨w3.heap.size, 0, none⟩) 1 1 _).mono ?_
    rintro e w4 ⟨rfl, q4, os4, he4⟩
    have HB4 := Lib.hid (he4 ▸ below_grown _ q4 os4)
    clear he4
    go_wp2
    rw [HEE.out]
    exact scope_end _ w w1 w2 w3 w4 HB1.out HB2.out HB3.out HB4.out
end Go.Proofs.YtjkiehmjffgnlaaGreatDoor
namespace Go.Proofs.YtjkiehmjffgnlaaGreatDoor
set_option linter.unusedVariables false
set_option linter.unusedSimpArgs false
open Go.RowKit

theorem mov_nodeL : Mov NodeP := fun P Q w w' cs x h m => h.move m
theorem lrun_appG {α : Type} {e : TypeId} {n : Nat} {R : (Nat → Prop) → World → List Value → α → Prop} {Q : Nat → Prop} {B : Nat} {w : World} {v : Value} {xs : List α} {P : Program} {t : TypeId} {z : Value} {bytes : Nat} (E : ElemN P t e n z bytes) (hM : Mov R) (ty : TypeId) (h : RowG e n R Q B w v xs) (arr : Array Value) (y : α) (hy : R (fun k => Q k ∧ some k ≠ v.ownBlock) w arr.toList y) (hm : arr.size = n) (h1 : ∀ u ∈ arr.toList, u.oneCell' = true)
    (hlen : (xs.length + 1) * bytes ≤ 140737488355328) (hB : B ≤ w.heap.size) :
    ∃ v' w', (Builtin.append_ #[t, t] ty #[v, .slice (some ⟨w.heap.size, 0, none⟩) 1 1]).run P (w.alloc (.cells arr e)) = .ok v' w' ∧ RowG e n R Q B w' v' (xs ++ [y]) ∧ Below B w w' ∧ w.grownBy w' v.ownBlock ∧ (v'.ownBlock = v.ownBlock ∨ ∃ k, v'.ownBlock = some k ∧ w.heap.size ≤ k) := by
  obtain ⟨rows, r1, r2, r3⟩ := h
  have hs1 : (w.alloc (.cells arr e)).heap.size = w.heap.size + 1 := World.size_alloc ..
  obtain ⟨v', w', hrun, g2, g3, g4, g5⟩ := run_appT E ty (r1.alloc (.cells arr e)) (some ⟨w.heap.size, 0, none⟩) 1 1 (news := [arr.toList]) rfl (Nat.le_refl _) (fun r hr => by rw [List.mem_singleton.1 hr]; simpa using hm) (fun _ => ⟨_, _, rfl, fun j r hr k u hu => by
    cases j with
    | succ j => simp at hr
    | zero =>
      simp at hr
      subst hr
      rw [cell_of_row _ w.heap.size _ arr e (0, 0) (heap_alloc_new w _)]
      simpa using hu⟩) (fun r hr => by rw [List.mem_singleton.1 hr]; exact h1) (by rw [r2]; exact hlen) (by omega)
  have hg : w.grownBy w' v.ownBlock := ⟨g4.os, g4.tape, g4.output, Nat.le_trans (by simp) g4.size, fun k hk hne => (g4.block k (by simp; omega) hne).trans (Below.heap_alloc w _ k hk)⟩
  have hn : v'.ownBlock = v.ownBlock ∨ ∃ k, v'.ownBlock = some k ∧ w.heap.size ≤ k := g5.elim .inl fun h => .inr ⟨_, h, by simp⟩
  exact ⟨v', w', hrun, RowG.app hM r1 r2 r3 hy g2 hg hn, ((Below.refl B w).alloc hB _).trans g3, hg, hn⟩
structure ActS (w0 : World) (q : Nat) (l : LockT) (A : Option Addr) (c : Nat) (v : Value) (ks : List NodeT) (w : World) : Prop where
  lk : w.heap[q]? = some (.cells (lockCells l A c).toArray 48 (0, 0))
  zr : w.heap[q + 1]? = some (.cells #[.string ⟨#[]⟩, .string ⟨#[]⟩, .string ⟨#[]⟩, .slice none 0 0, .slice none 0 0] 46 (0, 0))
  row : RowG 46 5 NodeP (fun k => q + 1 < k) (q + 2) w v ks
  lo : Below q w0 w
  hq : q = w0.heap.size
section
variable {w0 w w' : World} {q : Nat} {l : LockT} {A : Option Addr} {c : Nat} {v v' : Value} {ks : List NodeT}
theorem ActS.size (h : ActS w0 q l A c v ks w) : q + 2 ≤ w.heap.size := xlt h.zr
theorem ActS.under (h : ActS w0 q l A c v ks w) (hb : Below w.heap.size w w') : ActS w0 q l A c v ks w' := by
  have := h.size
  exact ⟨(hb.block _ (xlt h.lk)).trans h.lk, (hb.block _ (xlt h.zr)).trans h.zr, h.row.under mov_nodeL hb, h.lo.trans (hb.mono (by omega)), h.hq⟩
theorem ActS.node (h : ActS w0 q l A c v ks w) {cs : List Value} {x : NodeT} (hn : NodeP (fun b => w.heap.size ≤ b) w' cs x) : NodeP (fun k => q + 1 < k ∧ some k ≠ v.ownBlock) w' cs x :=
  hn.move (Moves.same _ fun k hk _ => ⟨by have := h.size; omega, fun e => by have := (h.row.lt k e.symm).2; omega⟩)
theorem ActS.app (h : ActS w0 q l A c v ks w) (ty : TypeId) {f0 f1 f2 f3 f4 : Value} {x : NodeT} (hy : NodeP (fun k => q + 1 < k ∧ some k ≠ v.ownBlock) w [f0, f1, f2, f3, f4] x) (h1 : ∀ u ∈ [f0, f1, f2, f3, f4], u.oneCell' = true) (hl : ks.length ≤ 1000) :
    ∃ v' w', (Builtin.append_ #[22, 22] ty #[v, .slice (some ⟨w.heap.size, 0, none⟩) 1 1]).run Tryz.prog (w.alloc (.cells #[f0, f1, f2, f3, f4] 46 (0, 0))) = .ok v' w' ∧ ActS w0 q l A c v' (ks ++ [x]) w' := by
  have hs := h.size
  obtain ⟨v', w', hrun, hr, hb, hg, hn⟩ := lrun_appG elemN mov_nodeL ty h.row #[f0, f1, f2, f3, f4] x hy rfl h1 (by omega) hs
  refine ⟨v', w', hrun, ⟨(hg.block q (by omega) (fun e => by have := (h.row.lt q e.symm).1; omega)).trans h.lk, (hg.block (q + 1) (by omega) (fun e => by have := (h.row.lt _ e.symm).1; omega)).trans h.zr, hr, h.lo.trans (hb.mono (by omega)), h.hq⟩⟩
end
theorem MkN.vals {B : Nat} {x : NodeT} {w w' : World} {e : Ending} (h : MkN B x w e w') : ∃ f0 f1 f2 f3 f4, e = .returned (.agg #[f0, f1, f2, f3, f4]) ∧ NodeP (fun b => B ≤ b) w' [f0, f1, f2, f3, f4] x ∧ Below w.heap.size w w' ∧ ∀ u ∈ [f0, f1, f2, f3, f4], u.oneCell' = true := by
  obtain ⟨p, hx, rfl, hn, hb⟩ := h
  subst hx
  exact ⟨_, _, _, _, _, rfl, hn, hb, fun u hu => encD.one p u hu⟩
def ActP (w : World) (e : Ending) (w' : World) : Prop := ∃ (f0 f1 f2 f3 f4 : Value) (x : NodeT), e = .returned (.agg #[f0, f1, f2, f3, f4]) ∧ NodeP (fun b => w.heap.size ≤ b) w' [f0, f1, f2, f3, f4] x ∧ Below w.heap.size w w' ∧ ∀ u ∈ [f0, f1, f2, f3, f4], u.oneCell' = true
def LkS (wr : World) (q : Nat) (tk : List UInt8) (pv : Value) (up : Int) (w : World) : Prop := w.cell? ⟨q, 0, none⟩ = some (.string ⟨tk.toArray⟩) ∧ w.cell? ⟨q, 1, none⟩ = some pv ∧ w.cell? ⟨q, 5, none⟩ = some (.int .i64 up) ∧ Below (q + 1) wr w
theorem LkS.keep {wr w w' : World} {q : Nat} {tk : List UInt8} {pv : Value} {up : Int} (h : LkS wr q tk pv up w) (hb : Below (q + 1) w w') : LkS wr q tk pv up w' :=
  ⟨(hb.cell (p := ⟨q, 0, none⟩) (Nat.lt_succ_self _)).trans h.1, (hb.cell (p := ⟨q, 1, none⟩) (Nat.lt_succ_self _)).trans h.2.1, (hb.cell (p := ⟨q, 5, none⟩) (Nat.lt_succ_self _)).trans h.2.2.1, h.2.2.2.trans hb⟩
theorem dav_made (nm : List UInt8) {w w1 : World} {b0 b1 b2 b3 b4 : Value} {x : NodeT} {B : Nat} (hB : B ≤ w.heap.size) (hn : NodeP (fun k => B ≤ k) w [b0, b1, b2, b3, b4] x)
    (h : w1 = (w.alloc (.cells #[b0, b1, b2, b3, b4] 46 (0, 0))).alloc (.cells #[.string ⟨#[]⟩, .string ⟨#[68, 65, 86, 58]⟩, .string ⟨nm.toArray⟩, .slice none 0 0, .slice (some ⟨w.heap.size, 0, none⟩) 1 1] 46 (0, 0))) :
    Below w.heap.size w w1 ∧ NodeP (fun k => B ≤ k) w1 [.string ⟨#[]⟩, .string ⟨#[68, 65, 86, 58]⟩, .string ⟨nm.toArray⟩, .slice none 0 0, .slice (some ⟨w.heap.size, 0, none⟩) 1 1] (davN nm [x]) := by
  obtain ⟨hb, h0, -⟩ := two_alloc w (.cells #[b0, b1, b2, b3, b4] 46 (0, 0)) (.cells #[.string ⟨#[]⟩, .string ⟨#[68, 65, 86, 58]⟩, .string ⟨nm.toArray⟩, .slice none 0 0, .slice (some ⟨w.heap.size, 0, none⟩) 1 1] 46 (0, 0))
  rw [← h] at hb h0
  exact ⟨hb, dav_node (nodes_lit1 (r := [b0, b1, b2, b3, b4]) h0 (hn.move (Moves.below hb fun k hk _ => hk)) hB)⟩
theorem nodes3_lit {Q : Nat → Prop} {w : World} {b : Nat} {a0 a1 a2 a3 a4 b0 b1 b2 b3 b4 c0 c1 c2 c3 c4 : Value} {x y z : NodeT} (h : w.heap[b]? = some (.cells #[a0, a1, a2, a3, a4, b0, b1, b2, b3, b4, c0, c1, c2, c3, c4] 46 (0, 0)))
    (hx : NodeP Q w [a0, a1, a2, a3, a4] x) (hy : NodeP Q w [b0, b1, b2, b3, b4] y) (hz : NodeP Q w [c0, c1, c2, c3, c4] z) (hb : Q b) : NodesP Q w (.slice (some ⟨b, 0, none⟩) 3 3) [x, y, z] :=
  nodes_lit (rows := [[a0, a1, a2, a3, a4], [b0, b1, b2, b3, b4], [c0, c1, c2, c3, c4]]) (xs := [x, y, z]) h rfl (show 3 ≤ maxLen by unfold maxLen; decide) (fun j r k h1 h2 => by
    match j, h1, h2 with
    | 0, h1, h2 => injection h1 with h1; injection h2 with h2; subst h1 h2; exact hx
    | 1, h1, h2 => injection h1 with h1; injection h2 with h2; subst h1 h2; exact hy
    | 2, h1, h2 => injection h1 with h1; injection h2 with h2; subst h1 h2; exact hz
    | j + 3, h1, h2 => simp at h1) hb
section
variable {w0 wr w w' : World} {q : Nat} {l : LockT} {A : Option Addr} {c : Nat} {v : Value} {ks : List NodeT}
theorem node_oneP {Q : Nat → Prop} {w : World} : ∀ cs x, NodeP Q w cs x → ∀ u ∈ cs, u.oneCell' = true := by
  intro cs x h
  obtain ⟨av, kv, rfl, ha, hk⟩ := h.parts
  obtain ⟨aA, ac, rfl⟩ := tab_shape ha.1
  obtain ⟨kA, kc, rfl⟩ := tab_shape hk.1
  intro u hu
  simp only [List.mem_cons, List.not_mem_nil, or_false] at hu
  rcases hu with rfl | rfl | rfl | rfl | rfl <;> rfl
theorem ActS.app3 (h : ActS w0 q l A c v ks wr) (ty : TypeId) (hl : ks.length ≤ 10) (hb : Below wr.heap.size wr w) {a0 a1 a2 a3 a4 b0 b1 b2 b3 b4 c0 c1 c2 c3 c4 : Value} {x y z : NodeT}
    (hx : NodeP (fun k => wr.heap.size ≤ k) w [a0, a1, a2, a3, a4] x) (hy : NodeP (fun k => wr.heap.size ≤ k) w [b0, b1, b2, b3, b4] y) (hz : NodeP (fun k => wr.heap.size ≤ k) w [c0, c1, c2, c3, c4] z) :
    ∃ kA m kc w' xs, (Builtin.append_ #[22, 22] ty #[v, .slice (some ⟨w.heap.size, 0, none⟩) 3 3]).run Tryz.prog (w.alloc (.cells #[a0, a1, a2, a3, a4, b0, b1, b2, b3, b4, c0, c1, c2, c3, c4] 46 (0, 0))) = .ok (.slice kA m kc) w' ∧
      w'.heap[q + 1]? = some (.cells #[.string ⟨#[]⟩, .string ⟨#[]⟩, .string ⟨#[]⟩, .slice none 0 0, .slice none 0 0] 46 (0, 0)) ∧ Below q w0 w' ∧ NodesP (fun k => q + 1 < k) w' (.slice kA m kc) xs ∧ Below (q + 1) w w' := by
  have hs := h.size
  have hsb := hb.size
  have hal : Below w.heap.size w (w.alloc (.cells #[a0, a1, a2, a3, a4, b0, b1, b2, b3, b4, c0, c1, c2, c3, c4] 46 (0, 0))) := (Below.refl _ _).alloc (Nat.le_refl _) _
  have hq := heap_alloc_new w (.cells #[a0, a1, a2, a3, a4, b0, b1, b2, b3, b4, c0, c1, c2, c3, c4] 46 (0, 0))
  have h2 := h.under (hb.trans (hal.mono hsb))
  have hne : ∀ k, wr.heap.size ≤ k → some k ≠ v.ownBlock := fun k hk e => by have := (h.row.lt k e.symm).2; omega
  have mv : ∀ {cs x}, NodeP (fun k => wr.heap.size ≤ k) w cs x → NodeP (fun k => q + 1 < k ∧ some k ≠ v.ownBlock) (w.alloc (.cells #[a0, a1, a2, a3, a4, b0, b1, b2, b3, b4, c0, c1, c2, c3, c4] 46 (0, 0))) cs x := fun hn =>
    hn.move (Moves.below hal fun k hk _ => ⟨by omega, hne k hk⟩)
  have hT := nodes3_lit hq (mv hx) (mv hy) (mv hz) ⟨by omega, hne _ hsb⟩
  obtain ⟨rows, r1, r2, r3⟩ := h2.row
  have hRP : RowP 46 5 (q + 2) NodeP (fun k => q + 1 < k ∧ some k ≠ v.ownBlock) (w.alloc (.cells #[a0, a1, a2, a3, a4, b0, b1, b2, b3, b4, c0, c1, c2, c3, c4] 46 (0, 0))) v ks := ⟨rows, r1, r2, r3⟩
  obtain ⟨v', w', hrun, hr, hbw, hg, hn⟩ := run_appMany elemN mov_nodeL ty hRP (fun k hk => hk.2) h2.size (ys := [x, y, z]) hT.1 node_oneP (by simp only [List.length_cons, List.length_nil]; omega)
  obtain ⟨kA, kc, rfl⟩ := hr.form
  obtain ⟨rws, g1, g2, g3⟩ := hr
  refine ⟨kA, (ks ++ [x, y, z]).length, kc, w', ks ++ [x, y, z], hrun, ?_, h2.lo.trans (hbw.mono (by omega)), ⟨OwnT.tab g1 g2 (fun j x r hx hr => (g3 j r x hr hx).move (Moves.same _ fun k hk _ => hk.1)), fun _ k hk => by have := (OwnT.lt g1 k hk).1; omega⟩, (hal.mono (by omega)).trans (hbw.mono (by omega))⟩
  exact (hbw.block (q + 1) (by omega)).trans h2.zr
end
theorem act_final {w0 w w1 : World} {q m kc : Nat} {kA : Option Addr} {xs : List NodeT} {nm : List UInt8} (hq : q = w0.heap.size) (hz : w.heap[q + 1]? = some (.cells #[.string ⟨#[]⟩, .string ⟨#[]⟩, .string ⟨#[]⟩, .slice none 0 0, .slice none 0 0] 46 (0, 0))) (hlo : Below q w0 w) (hN : NodesP (fun k => q + 1 < k) w (.slice kA m kc) xs)
    (h : w1 = w.alloc (.cells #[.string ⟨#[]⟩, .string ⟨#[68, 65, 86, 58]⟩, .string ⟨nm.toArray⟩, .slice none 0 0, .slice kA m kc] 46 (0, 0))) :
    ∃ W1 W2 W3 W4 W5, (store ⟨q + 1, 0, none⟩ (.string ⟨#[]⟩)).run Tryz.prog w1 = .ok () W1 ∧ (store ⟨q + 1, 1, none⟩ (.string ⟨#[68, 65, 86, 58]⟩)).run Tryz.prog W1 = .ok () W2 ∧ (store ⟨q + 1, 2, none⟩ (.string ⟨nm.toArray⟩)).run Tryz.prog W2 = .ok () W3 ∧ (store ⟨q + 1, 3, none⟩ (.slice none 0 0)).run Tryz.prog W3 = .ok () W4 ∧ (store ⟨q + 1, 4, none⟩ (.slice kA m kc)).run Tryz.prog W4 = .ok () W5 ∧
      W5.heap[q + 1]? = some (.cells #[.string ⟨#[]⟩, .string ⟨#[68, 65, 86, 58]⟩, .string ⟨nm.toArray⟩, .slice none 0 0, .slice kA m kc] 46 (0, 0)) ∧ ActP w0 (.returned (.agg #[.string ⟨#[]⟩, .string ⟨#[68, 65, 86, 58]⟩, .string ⟨nm.toArray⟩, .slice none 0 0, .slice kA m kc])) W5 ∧ Below (q + 1) w W5 := by
  have hal : Below w.heap.size w w1 := by rw [h]; exact (Below.refl _ _).alloc (Nat.le_refl _) _
  have hzl := xlt hz
  obtain ⟨W1, W2, W3, W4, W5, s0, s1, s2, s3, s4, hW, hR⟩ := node_store Tryz.prog ((hal.block _ hzl).trans hz) (.string ⟨#[]⟩) (.string ⟨#[68, 65, 86, 58]⟩) (.string ⟨nm.toArray⟩) (.slice none 0 0) (.slice kA m kc) (fun u hu => encD.one (⟨davN nm [], none, 0, 0, kA, m, kc⟩ : NodeD) u hu)
  have hbW : Below (q + 1) w1 W5 := hR.low (fun k e => by injection e with e; omega) (by have := hal.size; omega)
  have hb1 : Below (q + 1) w W5 := (hal.mono (by omega)).trans hbW
  refine ⟨W1, W2, W3, W4, W5, s0, s1, s2, s3, s4, hW, ⟨_, _, _, _, _, davN nm xs, rfl, ?_, by rw [← hq]; exact hlo.trans (hb1.mono (by omega)), fun u hu => encD.one (⟨davN nm [], none, 0, 0, kA, m, kc⟩ : NodeD) u hu⟩, hb1⟩
  exact dav_node (hN.move ⟨hb1.size, fun k hk hlt => ⟨by omega, (hR.block k (by have := hal.size; omega) (fun e => by injection e with e; omega)).trans (hal.block k hlt)⟩⟩)
end Go.Proofs.YtjkiehmjffgnlaaGreatDoor
namespace Go.Proofs.YtjkiehmjffgnlaaGreatDoor
set_option linter.unusedVariables false
set_option linter.unusedSimpArgs false
open Go.RowKit

theorem KRow.keep {B : Nat} {v : Value} {d : List NodeD} {w w' : World} (h : KRow B v d w) (hk : ∀ g, v.ownBlock = some g → w'.heap[g]? = w.heap[g]?) : KRow B v d w' := by
  refine ⟨⟨h.1.1, ?_⟩, h.2⟩
  rcases h.1.2 with h0 | ⟨g, cap, cur, hv, hb, hg, rest⟩
  · exact .inl h0
  · exact .inr ⟨g, cap, cur, hv, hb, (hk g (by rw [hv]; rfl)).trans hg, rest⟩
theorem KRow.lt {B : Nat} {v : Value} {d : List NodeD} {w : World} (h : KRow B v d w) : ∀ k, v.ownBlock = some k → B ≤ k ∧ k < w.heap.size := OwnT.lt h
theorem KRow.mono {B B' : Nat} {v : Value} {d : List NodeD} {w : World} (h : KRow B v d w) (hB : B' ≤ B) : KRow B' v d w := by
  refine ⟨⟨h.1.1, ?_⟩, h.2⟩
  rcases h.1.2 with h0 | ⟨g, cap, cur, hv, hb, rest⟩
  · exact .inl h0
  · exact .inr ⟨g, cap, cur, hv, Nat.le_trans hB hb, rest⟩
end Go.Proofs.YtjkiehmjffgnlaaGreatDoor
namespace Go.Proofs.YtjkiehmjffgnlaaGreatDoor
set_option linter.unusedVariables false
set_option linter.unusedSimpArgs false

def bulkA (l : List AttrT) : Nat := (l.map attrM).sum + l.length
theorem bulkA_app (a : List AttrT) (x : AttrT) : bulkA (a ++ [x]) = bulkA a + attrM x + 1 := by
  unfold bulkA
  rw [List.map_append, List.sum_append, List.length_append]
  simp only [List.map_cons, List.map_nil, List.sum_cons, List.sum_nil, List.length_cons, List.length_nil]
  omega
theorem attrs_bulk (L C : Nat) (hC : 5 * L + 20 ≤ C) : ∀ (f : Nat) (seen : List (List UInt8)) (out : List AttrT) (sc : Scope) (s : List UInt8) (x : List AttrT × Scope) (r : List UInt8), attrsX f seen out sc s = some (x, r) → s.length ≤ L → ScS (4 * L) sc →
    bulkA x.1 + C * r.length ≤ bulkA out + C * s.length ∧ r.length ≤ s.length ∧ ScS (4 * L) x.2
  | 0, _, _, _, _, _, _, h, _, _ => by cases h
  | f + 1, seen, out, sc, s, x, r, h, hl, hsc => by
    rw [attr_step] at h
    have lw := white_le s
    split at h
    · obtain ⟨pl, r1, h1, h⟩ := thenX_some h
      obtain ⟨_, r2, h2, h⟩ := thenX_some h
      obtain ⟨v, r3, h3, h⟩ := thenX_some h
      have l1 := qnameX_len h1
      have l2 := eat_len h2
      have l3 := (valueX_ok h3).1
      have l4 := valueX_len h3
      have l5 := white_le r1
      have l6 := white_le r2
      have l7 := qname_len2 h1
      simp only [List.length_cons, List.length_nil] at l2
      have hlt : r3.length + 1 ≤ s.length := by omega
      have hmul : C * r3.length + C ≤ C * s.length := by
        have := Nat.mul_le_mul_left C hlt
        rw [Nat.mul_add, Nat.mul_one] at this
        exact this
      split at h
      · cases h
      · split at h
        · obtain ⟨a1, a2, a3⟩ := attrs_bulk L C hC f _ _ _ _ _ _ h (by omega) (hsc.cons (by omega))
          exact ⟨by omega, by omega, a3⟩
        · split at h
          · split at h
            · cases h
            · obtain ⟨a1, a2, a3⟩ := attrs_bulk L C hC f _ _ _ _ _ _ h (by omega) (hsc.cons (by omega))
              exact ⟨by omega, by omega, a3⟩
          · split at h
            · cases h
            · obtain ⟨a1, a2, a3⟩ := attrs_bulk L C hC f _ _ _ _ _ _ h (by omega) hsc
              rw [bulkA_app] at a1
              have h4 : attrM ⟨pl.2, v⟩ = pl.2.length + v.length + 2 := rfl
              exact ⟨by omega, by omega, a3⟩
    · injection h with h
      injection h with h1 h2
      subst h1 h2
      have := Nat.mul_le_mul_left C lw
      exact ⟨by show bulkA out + _ ≤ _; omega, by omega, hsc⟩
theorem addText_bulk (ks : List NodeT) (t : List UInt8) : bulkTL (addText ks t) ≤ bulkTL ks + t.length + 4 := by
  unfold addText
  split
  · omega
  · split
    · rename_i y s a k hl
      obtain ⟨ys, rfl⟩ := List.getLast?_eq_some_iff.1 hl
      rw [List.dropLast_concat, bulkTL_app, bulkTL_app]
      simp only [bulkTL, bulkT, List.length_append]
      omega
    · rw [bulkTL_app]
      simp only [textN, bulkTL, bulkT, List.length_nil, List.map_nil, List.sum_nil]
      omega
theorem elem_bulk (L C : Nat) (hC : 9 * L + 20 ≤ C) : ∀ (f : Nat), (∀ (sc : Scope) (s : List UInt8) (n : NodeT) (r : List UInt8), s.length ≤ L → ScS (4 * L) sc → elemF f sc s = some (n, r) → bulkT n + 1 + C * r.length ≤ C * s.length) ∧
    (∀ (sc : Scope) (ks : List NodeT) (s : List UInt8) (k : List NodeT) (r : List UInt8), s.length ≤ L → ScS (4 * L) sc → contF f sc ks s = some (k, r) → bulkTL k + C * r.length ≤ bulkTL ks + C * s.length)
  | 0 => ⟨(fun _ _ _ _ _ _ h => by simp [elemF] at h), (fun _ _ _ _ _ _ _ h => by simp [contF] at h)⟩
  | f + 1 => by
    obtain ⟨ih1, ih2⟩ := elem_bulk L C hC f
    constructor
    · intro sc s n r hl hsc h
      have hlt := (elem_lt (f + 1)).1 _ _ _ _ h
      rw [elem_step] at h
      obtain ⟨u, b, h1, h⟩ := thenX_some h
      obtain ⟨pl, r0, h2, h⟩ := thenX_some h
      obtain ⟨as_, r1, h3, h⟩ := thenX_some h
      have l1 := eat_len h1
      have l2 := qnameX_len h2
      have l7 := qname_len2 h2
      simp only [List.length_cons, List.length_nil] at l1
      obtain ⟨a1, a2, a3⟩ := attrs_bulk L C (by omega) _ _ _ _ _ _ _ h3 (by omega) hsc
      have hmul : C * r0.length + C ≤ C * s.length := by
        have := Nat.mul_le_mul_left C (show r0.length + 1 ≤ s.length by omega)
        rw [Nat.mul_add, Nat.mul_one] at this
        exact this
      have hz : bulkA [] = 0 := rfl
      rw [hz] at a1
      split at h
      · cases h
      · rename_i sp hsp
        have l8 := a3.find hsp
        have hb : ∀ ks, bulkT (.mk [] sp pl.2 as_.1 ks) = sp.length + pl.2.length + 3 + bulkA as_.1 + bulkTL ks := fun ks => by
          rw [bulkT]; unfold bulkA; simp only [List.length_nil]; omega
        split at h
        · rename_i r9 he9
          injection h with h
          injection h with h hr
          subst h hr
          have l9 := eat_len he9
          have hm9 := Nat.mul_le_mul_left C (show r9.length ≤ r1.length by omega)
          rw [hb, bulkTL]
          omega
        · obtain ⟨u2, r2, h4, h⟩ := thenX_some h
          obtain ⟨ks, r3, h5, h⟩ := thenX_some h
          obtain ⟨u4, r4, h6, h⟩ := thenX_some h
          obtain ⟨u5, r5, h7, h⟩ := thenX_some h
          obtain ⟨u6, r6, h8, h⟩ := thenX_some h
          injection h with h
          injection h with h hr
          subst h hr
          have l4 := eat_len h4
          have k1 := ih2 _ _ _ _ _ (by omega) a3 h5
          have l6 := eat_len h6
          have l7' := eat_len h7
          have l8' := eat_len h8
          have l9 := white_le r5
          have hm9 := Nat.mul_le_mul_left C (show r6.length ≤ r3.length by omega)
          have hm2 := Nat.mul_le_mul_left C (show r2.length ≤ r1.length by omega)
          have hz2 : bulkTL [] = 0 := rfl
          rw [hz2] at k1
          rw [hb]
          omega
    · intro sc ks s k r hl hsc h
      rw [cont_step] at h
      split at h
      · injection h with h
        injection h with h hr
        subst h hr
        omega
      · split at h
        · cases h
        · split at h
          · cases h
          · rename_i r1 hs
            have l1 := (skipX_true hs).1
            have := ih2 _ _ _ _ _ (by omega) hsc h
            have := Nat.mul_le_mul_left C (Nat.le_of_lt l1)
            omega
          · have key : ∀ (t q : List UInt8), t.length ≤ 4 * (s.length - q.length) → q.length < s.length → contF f sc (addText ks t) q = some (k, r) → bulkTL k + C * r.length ≤ bulkTL ks + C * s.length := fun t q ht hq h => by
              have la := addText_bulk ks t
              have := ih2 _ _ _ _ _ (by omega) hsc h
              have hm := Nat.mul_le_mul_left C (show q.length + 1 ≤ s.length by omega)
              rw [Nat.mul_add, Nat.mul_one] at hm
              omega
            split at h
            · rename_i r1 he
              obtain ⟨t, q, h1, h⟩ := thenX_some h
              have l1 := eat_len he
              have l2 := congrArg List.length (cut_some h1)
              simp only [List.length_append] at l2
              have l3 := linesX_len t
              exact key _ _ (by omega) (by simp [wCdata] at l1; omega) h
            · split at h
              · obtain ⟨n, r1, h1, h⟩ := thenX_some h
                have l1 := (elem_lt f).1 _ _ _ _ h1
                have s1 := ih1 _ _ _ _ (by omega) hsc h1
                have := ih2 _ _ _ _ _ (by omega) hsc h
                rw [bulkTL_app] at this
                simp only [bulkTL] at this
                omega
              · split at h
                · obtain ⟨t, r1, h1, h⟩ := thenX_some h
                  have l1 := (refX_ok h1).1
                  have l2 := refX_len h1
                  rw [List.length_tail] at l1
                  exact key _ _ (by omega) (by omega) h
                · split at h
                  · cases h
                  · rename_i hne h60 h38 hz
                    have l2 := takeW_drop (fun c => !stopC c) s
                    have l3 := linesX_len (s.takeWhile fun c => !stopC c)
                    refine key _ _ (by omega) ?_ h
                    rcases s with _ | ⟨c, q⟩
                    · exact absurd rfl (by assumption)
                    · have hc : stopC c = false := by
                        unfold stopC
                        simp only [List.head?_cons, Option.some.injEq] at h60 h38
                        simp [h60, h38]
                      rw [List.dropWhile_cons, if_pos (by rw [hc]; rfl)]
                      have := (List.dropWhile_suffix (l := q) (fun c => !stopC c)).length_le
                      simp only [List.length_cons]; omega
theorem core_bulk {s : List UInt8} {n : NodeT} (hs : s.length ≤ 65536) (h : coreX s = some n) : bulkT n ≤ 40000000000 := by
  obtain ⟨r1, r2, h1, h2, -⟩ := core_some h
  have l1 := misc_len _ _ _ _ h1
  have h3 := (elem_bulk 65536 600000 (by decide) _).1 [] r1 n r2 (Nat.le_trans l1 hs) (fun p hp => by cases hp) h2
  omega
theorem parse_bulk {s : List UInt8} {n : NodeT} (h : parseX s = .ok n) : SmallN 2000000 n ∧ (formN [] n).length ≤ 90000000000000 := by
  have key : SmallN 2000000 n ∧ bulkT n ≤ 40000000000 := by
    rw [parseX_eq] at h
    split at h
    · cases h
    rename_i hl
    split at h
    · cases h
    have key : ∀ o, endsX o = .ok n → o = some n := by
      intro o ho
      unfold endsX at ho
      split at ho
      · cases ho
      · split at ho
        · injection ho with e; rw [e]
        · cases ho
    have hk := key _ h
    have sm : ∀ q : List UInt8, q.length ≤ 65536 → coreX q = some n → SmallN 2000000 n ∧ bulkT n ≤ 40000000000 := fun q hq hc => by
      obtain ⟨r1, r2, h1, h2, -⟩ := core_some hc
      exact ⟨elemX_small (Nat.le_trans (misc_len _ _ _ _ h1) hq) rfl h2, core_bulk hq hc⟩
    split at hk
    · split at hk
      · cases hk
      · rename_i b r hc
        have l2 := congrArg List.length (cut_some hc)
        simp only [List.length_append] at l2
        exact sm _ (by omega) hk
    · exact sm _ (by omega) hk
  have := form_bulk n []
  exact ⟨key.1, by omega⟩
end Go.Proofs.YtjkiehmjffgnlaaGreatDoor
namespace Go.Proofs.YtjkiehmjffgnlaaGreatDoor
set_option linter.unusedVariables false
set_option linter.unusedSimpArgs false
open Go.RowKit

set_option maxHeartbeats 32000000 in
set_option maxRecDepth 100000 in
set_option linter.unusedSimpArgs false in
theorem rotate_any {α : Type} {enc : α → List Value} (hE : EncOk enc) (B g cap : Nat) (P U V R : List α) (fv : Value) (w : World) (a m b L : Nat) (ha : a = P.length) (hm : m = P.length + U.length) (hb : b = P.length + U.length + V.length) (hU : 0 < U.length) (hV : 0 < V.length) (hL : L = (P ++ (U ++ (V ++ R))).length) (h : NRow enc B g cap (P ++ (U ++ (V ++ R))) w) (hs : L ≤ 1000000000000) :
    Calls Tryz.prog 74 #[.slice (some ⟨g, 0, none⟩) L cap, .int .i64 a, .int .i64 m, .int .i64 b, fv] w (SoP enc B g cap (· = P ++ (V ++ (U ++ R))) w) := by
  obtain ⟨E, hEE⟩ : ∃ E, E = SoP enc B g cap (· = P ++ (V ++ (U ++ R))) w := ⟨_, rfl⟩
  rw [← hEE]
  have HEE := Lib.hid hEE
  have hLl : L = P.length + (U.length + (V.length + R.length)) := by rw [hL]; simp only [List.length_append]
  have HO0 := Lib.hid h
  have HSw := Lib.hid (fun (P X M Y R : List α) (w : World) (a b n : Nat) h1 h2 h3 h4 h5 h6 => swapRange_any hE B g cap P X M Y R fv w h1 a b n L h2 h3 h4 h5 h6 hs)
  obtain ⟨i0, hi0⟩ : ∃ i, i = U.length := ⟨_, rfl⟩
  obtain ⟨j0, hj0⟩ : ∃ j, j = V.length := ⟨_, rfl⟩
  have m1 : IntKind.i64.wrap ((m : Int) - a) = (i0 : Int) := by rw [IntWalk.i64_in _ (by omega)]; omega
  have m2 : IntKind.i64.wrap ((b : Int) - m) = (j0 : Int) := by rw [IntWalk.i64_in _ (by omega)]; omega
  have hij : i0 + j0 ≤ L := by omega
  have HI0 := Lib.hid hi0
  have HJ0 := Lib.hid hj0
  have HM := Lib.hid hm
  have HLl := Lib.hid hLl
  have hmL : m ≤ L := by omega
  clear hE h hEE hL ha hb hi0 hj0 hm hLl
  go_enter Tryz.func74, Tryz.ntmps74
  go_wp2_with fail
  go_loopg [10, 11] (i0 + j0) (fun gk v10 v11 wr => ∃ (i j : Nat) (F1 u v F2 : List α), i + j ≤ gk ∧ v10 = .int .i64 i ∧ v11 = .int .i64 j ∧ Hid (i = u.length ∧ j = v.length ∧ 0 < i ∧ 0 < j ∧ m = P.length + F1.length + i ∧ L = P.length + (F1.length + (i + (j + (F2.length + R.length))))) ∧ Hid (V ++ U = F1 ++ (v ++ (u ++ F2))) ∧ Hid (NRow enc B g cap (P ++ (F1 ++ (u ++ (v ++ (F2 ++ R))))) wr) ∧ Hid (RGr (some g) (some g) w wr))
  case atStart => exact ⟨i0, j0, [], U, V, [], Nat.le_refl _, rfl, rfl, Lib.hid ⟨HI0.out, HJ0.out, by have := HI0.out; omega, by have := HJ0.out; omega, by have := HM.out; have := HI0.out; simp; omega, by have := HLl.out; have := HI0.out; have := HJ0.out; simp; omega⟩, Lib.hid (by simp), HO0, Lib.hid (RGr.refl _ _)⟩
  case round =>
    obtain ⟨i, j, F1, u, v, F2, hgk, rfl, rfl, HN, HV, HO, HR⟩ := hrel
    clear HO0 HI0 HJ0 HM
    obtain ⟨n1, n2, n3, n4, n5, n6⟩ := HN.out
    have k1 : IntKind.i64.wrap ((m : Int) - i) = ((m - i : Nat) : Int) := by rw [IntWalk.i64_in _ (by omega)]; omega
    have k2 : IntKind.i64.wrap ((m : Int) + j) = ((m + j : Nat) : Int) := IntWalk.i64_in _ (by omega)
    have k3 : IntKind.i64.wrap ((m : Int) + j - i) = ((m + j - i : Nat) : Int) := by rw [IntWalk.i64_in _ (by omega)]; omega
    rcases Nat.lt_trichotomy i j with hlt | heq | hgt
    · have c1 : ((i : Int) == j) = false := by rw [beq_eq_false_iff_ne]; omega
      have c2 : ¬ (i : Int) = j := by omega
      have c3 : ¬ (j : Int) < i := by omega
      have e1 : IntKind.i64.wrap ((j : Int) - i) = ((j - i : Nat) : Int) := by rw [IntWalk.i64_in _ (by omega)]; omega
      have hv : v = v.take (j - i) ++ v.drop (j - i) := (List.take_append_drop _ _).symm
      have l1 : (v.take (j - i)).length = j - i := by rw [List.length_take]; omega
      have l2 : (v.drop (j - i)).length = i := by rw [List.length_drop]; omega
      obtain ⟨v1, hv1⟩ : ∃ x, x = v.take (j - i) := ⟨_, rfl⟩
      obtain ⟨v2, hv2⟩ : ∃ x, x = v.drop (j - i) := ⟨_, rfl⟩
      rw [← hv1, ← hv2] at hv
      rw [← hv1] at l1
      rw [← hv2] at l2
      have hC := HSw.out (P ++ F1) u v1 v2 (F2 ++ R) wr (m - i) (m + j - i) i (by omega) (by rw [List.length_append]; omega) (by rw [List.length_append]; omega) n1
      have hC2 := hC (by simp only [List.length_append]; omega) (by have := HO.out; rw [hv] at this; simpa using this)
      have HC := Lib.hid hC2
      have HV2 := Lib.hid (show V ++ U = F1 ++ (v1 ++ (v2 ++ (u ++ F2))) by rw [HV.out, hv]; simp)
      have HN2 := Lib.hid (show i = v2.length ∧ j - i = v1.length ∧ 0 < i ∧ 0 < j - i ∧ m = P.length + F1.length + i ∧ L = P.length + (F1.length + (i + (j - i + ((u ++ F2).length + R.length)))) from ⟨l2.symm, l1.symm, n3, by omega, n5, by rw [List.length_append]; omega⟩)
      clear hC hC2 hv l1 l2 n1 n2 n5 n6 HO HV HN hv1 hv2
      go_wp2_with fail
      refine HC.out.mono ?_
      rintro e w5 ⟨rfl, d', rfl, ho, hr⟩
      have HO5 := Lib.hid (show NRow enc B g cap (P ++ (F1 ++ (v2 ++ (v1 ++ ((u ++ F2) ++ R))))) w5 by simpa using ho)
      have HR5 := Lib.hid (HR.out.trans hr)
      clear ho hr HC HR
      go_wp2
      go_roundg (gk - 1)
      case measure => omega
      case rel => exact ⟨i, j - i, F1, v2, v1, u ++ F2, by omega, rfl, by go_num, HN2, HV2, HO5, HR5⟩
    · subst heq
      have hC := HSw.out (P ++ F1) u [] v (F2 ++ R) wr (m - i) m i (by omega) (by rw [List.length_append]; omega) (by rw [List.length_append, List.length_nil]; omega) n1
      have hC2 := hC (by simp only [List.length_append, List.length_nil]; omega) (by have := HO.out; simpa using this)
      have HC := Lib.hid hC2
      have HV2 := Lib.hid (show P ++ (V ++ (U ++ R)) = (P ++ F1) ++ (v ++ ([] ++ (u ++ (F2 ++ R)))) by rw [← List.append_assoc V, HV.out]; simp)
      clear hC hC2 n1 n2 n5 n6 HO HV HN
      go_wp2_with fail
      refine HC.out.mono ?_
      rintro e w5 ⟨rfl, d', rfl, ho, hr⟩
      have HO5 := Lib.hid ho
      have HR5 := Lib.hid (HR.out.trans hr)
      clear ho hr HC HR
      go_wp2
      go_end0
      rw [HEE.out]
      exact ⟨rfl, _, HV2.out.symm, HO5.out, HR5.out⟩
    · have c1 : ((i : Int) == j) = false := by rw [beq_eq_false_iff_ne]; omega
      have c2 : ¬ (i : Int) = j := by omega
      have c3 : (j : Int) < i := by omega
      have e1 : IntKind.i64.wrap ((i : Int) - j) = ((i - j : Nat) : Int) := by rw [IntWalk.i64_in _ (by omega)]; omega
      have hv : u = u.take j ++ u.drop j := (List.take_append_drop _ _).symm
      have l1 : (u.take j).length = j := by rw [List.length_take]; omega
      have l2 : (u.drop j).length = i - j := by rw [List.length_drop]; omega
      obtain ⟨u1, hv1⟩ : ∃ x, x = u.take j := ⟨_, rfl⟩
      obtain ⟨u2, hv2⟩ : ∃ x, x = u.drop j := ⟨_, rfl⟩
      rw [← hv1, ← hv2] at hv
      rw [← hv1] at l1
      rw [← hv2] at l2
      have hC := HSw.out (P ++ F1) u1 u2 v (F2 ++ R) wr (m - i) m j (by omega) (by rw [List.length_append]; omega) (by rw [List.length_append]; omega) l1.symm
      have hC2 := hC (by simp only [List.length_append]; omega) (by have := HO.out; rw [hv] at this; simpa using this)
      have HC := Lib.hid hC2
      have HV2 := Lib.hid (show V ++ U = (F1 ++ v) ++ (u1 ++ (u2 ++ F2)) by rw [HV.out, hv]; simp)
      have HN2 := Lib.hid (show i - j = u2.length ∧ j = u1.length ∧ 0 < i - j ∧ 0 < j ∧ m = P.length + (F1 ++ v).length + (i - j) ∧ L = P.length + ((F1 ++ v).length + (i - j + (j + (F2.length + R.length)))) from ⟨l2.symm, l1.symm, by omega, n4, by rw [List.length_append]; omega, by rw [List.length_append]; omega⟩)
      clear hC hC2 hv l1 l2 n1 n2 n5 n6 HO HV HN hv1 hv2
      go_wp2_with fail
      refine HC.out.mono ?_
      rintro e w5 ⟨rfl, d', rfl, ho, hr⟩
      have HO5 := Lib.hid (show NRow enc B g cap (P ++ ((F1 ++ v) ++ (u2 ++ (u1 ++ (F2 ++ R))))) w5 by simpa using ho)
      have HR5 := Lib.hid (HR.out.trans hr)
      clear ho hr HC HR
      go_wp2
      go_roundg (gk - 1)
      case measure => omega
      case rel => exact ⟨i - j, j, F1 ++ v, u2, u1, F2, by omega, by go_num, rfl, HN2, HV2, HO5, HR5⟩
end Go.Proofs.YtjkiehmjffgnlaaGreatDoor
namespace Go.Proofs.YtjkiehmjffgnlaaGreatDoor
set_option linter.unusedVariables false
set_option linter.unusedSimpArgs false
open Go.RowKit

theorem probe_ready {B g cap : Nat} {D : List NodeD} {wr : World} (hO : NRow NodeD.cells B g cap D wr) {p q : Nat} {x y : NodeD} (hp : D[p]? = some y) (hq : D[q]? = some x) :
    ∃ c0 c1 c2 c3 c4 f0 f1 f2 f3 f4, (∀ n os, (Sort.grow (wr.drewN n) os).cell? ⟨g, p * 5, none⟩ = some c0) ∧ (∀ n os, (Sort.grow (wr.drewN n) os).cell? ⟨g, p * 5 + 1, none⟩ = some c1) ∧ (∀ n os, (Sort.grow (wr.drewN n) os).cell? ⟨g, p * 5 + 2, none⟩ = some c2) ∧ (∀ n os, (Sort.grow (wr.drewN n) os).cell? ⟨g, p * 5 + 3, none⟩ = some c3) ∧ (∀ n os, (Sort.grow (wr.drewN n) os).cell? ⟨g, p * 5 + 4, none⟩ = some c4) ∧
      (∀ n os, (Sort.grow (wr.drewN n) os).cell? ⟨g, q * 5, none⟩ = some f0) ∧ (∀ n os, (Sort.grow (wr.drewN n) os).cell? ⟨g, q * 5 + 1, none⟩ = some f1) ∧ (∀ n os, (Sort.grow (wr.drewN n) os).cell? ⟨g, q * 5 + 2, none⟩ = some f2) ∧ (∀ n os, (Sort.grow (wr.drewN n) os).cell? ⟨g, q * 5 + 3, none⟩ = some f3) ∧ (∀ n os, (Sort.grow (wr.drewN n) os).cell? ⟨g, q * 5 + 4, none⟩ = some f4) ∧
      Hid (∀ w, Calls Tryz.prog 23 #[.agg #[c0, c1, c2, c3, c4], .agg #[f0, f1, f2, f3, f4]] w (RetW (.int .i64 (cmpD y x)) w)) := by
  obtain ⟨c0, c1, c2, c3, c4, hcy, p0, p1, p2, p3, p4⟩ := hO.cells encD hp
  obtain ⟨f0, f1, f2, f3, f4, hcx, q0, q1, q2, q3, q4⟩ := hO.cells encD hq
  have hgl := hO.lt.2
  exact ⟨c0, c1, c2, c3, c4, f0, f1, f2, f3, f4, fun n os => cell_grown (a := ⟨g, p * 5, none⟩) hgl p0 n os, fun n os => cell_grown (a := ⟨g, p * 5 + 1, none⟩) hgl p1 n os, fun n os => cell_grown (a := ⟨g, p * 5 + 2, none⟩) hgl p2 n os, fun n os => cell_grown (a := ⟨g, p * 5 + 3, none⟩) hgl p3 n os, fun n os => cell_grown (a := ⟨g, p * 5 + 4, none⟩) hgl p4 n os,
    fun n os => cell_grown (a := ⟨g, q * 5, none⟩) hgl q0 n os, fun n os => cell_grown (a := ⟨g, q * 5 + 1, none⟩) hgl q1 n os, fun n os => cell_grown (a := ⟨g, q * 5 + 2, none⟩) hgl q2 n os, fun n os => cell_grown (a := ⟨g, q * 5 + 3, none⟩) hgl q3 n os, fun n os => cell_grown (a := ⟨g, q * 5 + 4, none⟩) hgl q4 n os, Lib.hid (fun w => cmpD_any y x hcy hcx w)⟩
def MergeP (B g cap : Nat) (P A Y R : List NodeD) (w : World) : Ending → World → Prop := SoP NodeD.cells B g cap (fun d' => ∃ C, d' = P ++ (C ++ R) ∧ Srt leD C ∧ Stab leD (A ++ Y) C) w
set_option maxHeartbeats 64000000 in
set_option maxRecDepth 100000 in
set_option linter.unusedSimpArgs false in
theorem sym_left (B g cap : Nat) (P Y R : List NodeD) (x : NodeD) (w : World) (a m b L : Nat) (ha : a = P.length) (hm : m = P.length + 1) (hb : b = P.length + 1 + Y.length) (hL : L = (P ++ ([x] ++ (Y ++ R))).length) (hY : Srt leD Y) (h : NRow NodeD.cells B g cap (P ++ ([x] ++ (Y ++ R))) w) (hs : L ≤ 1000000000000) :
    Calls Tryz.prog 54 #[.slice (some ⟨g, 0, none⟩) L cap, .int .i64 a, .int .i64 m, .int .i64 b, .func (.func 23) #[] #[]] w (MergeP B g cap P [x] Y R w) := by
  obtain ⟨E, hEE⟩ : ∃ E, E = MergeP B g cap P [x] Y R w := ⟨_, rfl⟩
  rw [← hEE]
  have HEE := Lib.hid hEE
  have HO0 := Lib.hid h
  have HSY := Lib.hid hY
  have hLl : L = P.length + (1 + (Y.length + R.length)) := by rw [hL]; simp only [List.length_append, List.length_cons, List.length_nil]
  have HAll := Lib.hid (⟨ha, by omega, by omega, by omega⟩ : a = P.length ∧ m = a + 1 ∧ b = m + Y.length ∧ L = b + R.length)
  obtain ⟨n, hn⟩ : ∃ n, n = b - m := ⟨_, rfl⟩
  have HN := Lib.hid hn
  have hbL : b ≤ L := by omega
  have hmb : m ≤ b := by omega
  have e1 : IntKind.i64.wrap ((m : Int) - a) = 1 := by rw [IntWalk.i64_in _ (by omega)]; omega
  clear h hEE hL ha hm hb hLl hY hn
  have mixed : Tryz.prog.follows .mixedOrders = true := by kernel_rfl
  go_enter Tryz.func54, Tryz.ntmps54
  go_wp2_with fail
  go_loopg [10, 11] n (fun gk v10 v11 wr => ∃ i j : Nat, m ≤ i ∧ i ≤ j ∧ j ≤ b ∧ j - i ≤ gk ∧ v10 = .int .i64 i ∧ v11 = .int .i64 j ∧ Hid (∀ c, c < i - m → leD x Y[c]! = false) ∧ Hid (∀ c, j - m ≤ c → c < Y.length → leD x Y[c]! = true) ∧ Hid (NRow NodeD.cells B g cap (P ++ ([x] ++ (Y ++ R))) wr) ∧ Hid (RGr (some g) (some g) w wr))
  case atStart => exact ⟨m, b, Nat.le_refl _, hmb, Nat.le_refl _, by rw [HN.out]; exact Nat.le_refl _, rfl, rfl, Lib.hid (fun c h => by omega), Lib.hid (fun c h1 h2 => by have := HAll.out; omega), HO0, Lib.hid (RGr.refl _ _)⟩
  case round =>
    obtain ⟨i, j, hmi, hij, hjb, hgk, rfl, rfl, HLo, HHi, HO, HR⟩ := hrel
    clear HO0
    rcases Nat.lt_or_ge i j with hlt | hge
    · obtain ⟨k, hk⟩ : ∃ k, k = (i + j) / 2 := ⟨_, rfl⟩
      have hk1 : i ≤ k := by omega
      have hk2 : k < j := by omega
      have e2 : ((i : Int) + j) / 2 = (k : Int) := by omega
      obtain ⟨hA, hM, hB2, hLl⟩ := HAll.out
      have hkY : k - m < Y.length := by omega
      have gp : (P ++ ([x] ++ (Y ++ R)))[k]? = some Y[k - m]! := by
        rw [List.getElem?_append_right (by omega), show k - P.length = k - m + 1 by omega]
        show (x :: (Y ++ R))[k - m + 1]? = _
        rw [List.getElem?_cons_succ, List.getElem?_append_left hkY, bang Y (k - m) hkY, List.getElem?_eq_getElem hkY]
      have gq : (P ++ ([x] ++ (Y ++ R)))[a]? = some x := by
        rw [List.getElem?_append_right (by omega), show a - P.length = 0 by omega]; rfl
      obtain ⟨z, hz⟩ : ∃ z, z = Y[k - m]! := ⟨_, rfl⟩
      rw [← hz] at gp
      have HZ := Lib.hid hz
      obtain ⟨c0, c1, c2, c3, c4, f0, f1, f2, f3, f4, p0, p1, p2, p3, p4, q0, q1, q2, q3, q4, HCm⟩ := probe_ready HO.out gp gq
      have k1 : (i : Int) < j := by omega
      have k2 : (k : Int) < L := by omega
      have k3 : (a : Int) < L := by omega
      have HK := Lib.hid (show i ≤ k ∧ k < j ∧ k - m < Y.length from ⟨hk1, hk2, hkY⟩)
      clear hk hk1 hk2 hkY hA hM hB2 hLl gp gq hz
      by_cases hcn : cmpD z x < 0
      · have HLe := Lib.hid (cmpD_neg.1 hcn)
        have HLo2 := Lib.hid (show ∀ c, c < k + 1 - m → leD x Y[c]! = false from fun c hc => by
          cases h9 : leD x Y[c]! with
          | false => rfl
          | true =>
            have := leD_ok.trans _ _ _ h9 (HSY.out.le_at leD_ok (i := c) (j := k - m) (by omega) HK.out.2.2)
            rw [← HZ.out, HLe.out] at this
            cases this)
        go_upto_region 5 with (fail)
        go_quiet_grown (first | (go_at_call 23; refine Calls.grown_of (HCm.out _)))
        have HBc := Lib.hid (below_grown wr nq osq)
        clear p0 p1 p2 p3 p4 q0 q1 q2 q3 q4 HCm
        generalize Sort.grow (wr.drewN nq) osq = wc at *
        have HO2 := Lib.hid (HO.out.under HBc.out)
        have HR2 := Lib.hid (HR.out.trans (RGr.under HBc.out))
        clear HO HR HBc HLo
        go_wp2
        go_roundg (gk - 1)
        case measure => have := HK.out; omega
        case rel => exact ⟨k + 1, j, by have := HK.out; omega, by have := HK.out; omega, hjb, by have := HK.out; omega, by go_num, rfl, HLo2, HHi, HO2, HR2⟩
      · have HLe := Lib.hid (show leD x Y[k - m]! = true by
          have h0 : ¬ leD x z = false := fun h => hcn (cmpD_neg.2 h)
          rw [← HZ.out]
          simpa using h0)
        have HHi2 := Lib.hid (show ∀ c, k - m ≤ c → c < Y.length → leD x Y[c]! = true from fun c h1 h2 => leD_ok.trans _ _ _ HLe.out (HSY.out.le_at leD_ok h1 h2))
        go_upto_region 5 with (fail)
        go_quiet_grown (first | (go_at_call 23; refine Calls.grown_of (HCm.out _)))
        have HBc := Lib.hid (below_grown wr nq osq)
        clear p0 p1 p2 p3 p4 q0 q1 q2 q3 q4 HCm
        generalize Sort.grow (wr.drewN nq) osq = wc at *
        have HO2 := Lib.hid (HO.out.under HBc.out)
        have HR2 := Lib.hid (HR.out.trans (RGr.under HBc.out))
        clear HO HR HBc HHi
        go_wp2
        go_roundg (gk - 1)
        case measure => have := HK.out; omega
        case rel => exact ⟨i, k, hmi, by have := HK.out; omega, by have := HK.out; omega, by have := HK.out; omega, rfl, rfl, HLo, HHi2, HO2, HR2⟩
    · obtain rfl : i = j := by omega
      obtain ⟨u, hu⟩ : ∃ u, u = i - m := ⟨_, rfl⟩
      rw [← hu] at HLo HHi
      have HC := Lib.hid (one_left leD_ok (x := x) (k := u) HSY.out (by have := HAll.out; omega) HLo.out (fun c h1 h2 => HHi.out c h1 h2))
      have k1 : ¬ (i : Int) < i := by omega
      obtain ⟨i1, hi1⟩ : ∃ i1, i1 = i - 1 := ⟨_, rfl⟩
      have hau : i1 = a + u := by have := HAll.out; omega
      have e3 : IntKind.i64.wrap ((i : Int) - 1) = (i1 : Int) := by have := HAll.out; rw [IntWalk.i64_in _ (by omega)]; omega
      have HO1 := Lib.hid (show NRow NodeD.cells B g cap (P ++ (Y.take 0 ++ (x :: (Y.drop 0 ++ R)))) wr from HO.out)
      have HAU := Lib.hid hau
      have HUY := Lib.hid (show u ≤ Y.length by have := HAll.out; omega)
      have hi1L : i1 < L := by have := HAll.out; omega
      clear HO HLo HHi HSY hau hi1 hu
      go_wp2_with fail
      generalize wr = W0 at *
      go_loopg [13] u (fun gk v13 wr => ∃ t k : Nat, t + gk = u ∧ v13 = .int .i64 k ∧ Hid (k = a + t) ∧ Hid (NRow NodeD.cells B g cap (P ++ (Y.take t ++ (x :: (Y.drop t ++ R)))) wr) ∧ Hid (RGr (some g) (some g) w wr))
      case atStart => exact ⟨0, a, by omega, rfl, Lib.hid rfl, HO1, HR⟩
      case round =>
        obtain ⟨t, k, htg, rfl, HK, HO2, HR2⟩ := hrel
        clear HO1 HR
        rcases Nat.lt_or_ge t u with htl | hte
        · obtain ⟨hA, hM, hB2, hLl⟩ := HAll.out
          have hk := HK.out
          rcases hd : Y.drop t with _ | ⟨y, Y'⟩
          · have := drop_nil hd; have := HUY.out; omega
          obtain ⟨hty, hyi, hyr⟩ := drop_consA hd
          have hO2 := HO2.out
          have e0 : P ++ (Y.take t ++ (x :: (Y.drop t ++ R))) = (P ++ Y.take t) ++ x :: ([] ++ y :: (Y' ++ R)) := by rw [hd]; simp
          have e9 : P ++ (Y.take (t + 1) ++ (x :: (Y.drop (t + 1) ++ R))) = (P ++ Y.take t) ++ y :: ([] ++ x :: (Y' ++ R)) := by rw [hyr, List.take_add_one, hyi]; simp
          rw [e0] at hO2
          have hl1 : (P ++ Y.take t).length = k := by rw [List.length_append, List.length_take]; omega
          have hDl : ((P ++ Y.take t) ++ x :: ([] ++ y :: (Y' ++ R))).length = L := by
            rw [← e0]; simp only [List.length_append, List.length_take, List.length_drop, List.length_cons]; omega
          have gx : ((P ++ Y.take t) ++ x :: ([] ++ y :: (Y' ++ R)))[k]? = some x := by rw [← hl1, List.getElem?_append_right (Nat.le_refl _), Nat.sub_self]; rfl
          have gy : ((P ++ Y.take t) ++ x :: ([] ++ y :: (Y' ++ R)))[k + 1]? = some y := by rw [← hl1, List.getElem?_append_right (by omega), show (P ++ Y.take t).length + 1 - (P ++ Y.take t).length = 1 by omega]; rfl
          obtain ⟨c0, c1, c2, c3, c4, f0, f1, f2, f3, f4, V1, V2, V3, V4, V5, U1, U2, U3, U4, U5, -, -, ⟨p0, p1, p2, p3, p4⟩, ⟨q0, q1, q2, q3, q4⟩, ⟨s0, s1, s2, s3, s4⟩, ⟨t0, t1, t2, t3, t4⟩, hO9, hR9⟩ := exch_ready encD hO2 hDl gx gy
          have HO9 := Lib.hid (show NRow NodeD.cells B g cap (P ++ (Y.take (t + 1) ++ (x :: (Y.drop (t + 1) ++ R)))) U5 by
            have h0 := exch_at (P ++ Y.take t) [] (Y' ++ R) x y
            rw [hl1] at h0
            rw [e9, ← h0]
            exact hO9)
          have HR9 := Lib.hid (HR2.out.trans hR9)
          have hkl : k + 1 < L := by omega
          have j1 : (k : Int) < i1 := by have := HAU.out; omega
          have j0 : IntKind.i64.wrap ((k : Int) + 1) = (k : Int) + 1 := IntWalk.i64_in _ (by omega)
          have j2 : (k : Int) < L := by omega
          have j3 : (k : Int) + 1 < L := by omega
          have j5 : (0 : Int) ≤ (k : Int) + 1 := by omega
          have j7 : ((k : Int) + 1).toNat = k + 1 := by omega
          clear hd hyi hyr hO2 e0 e9 hl1 hDl gx gy hO9 hR9 hA hM hB2 hLl hk HO2 HR2
          go_upto_region 11 with (fail)
          go_region_law fail
          all_goals
            go_wp2
            go_roundg (gk - 1)
            case measure => omega
            case rel => exact ⟨t + 1, k + 1, by omega, by go_num, Lib.hid (by have := HK.out; omega), HO9, HR9⟩
        · obtain rfl : t = u := by omega
          have j1 : ¬ (k : Int) < i1 := by have := HK.out; have := HAU.out; omega
          have HF := Lib.hid (show ∃ C, P ++ (Y.take t ++ (x :: (Y.drop t ++ R))) = P ++ (C ++ R) ∧ Srt leD C ∧ Stab leD ([x] ++ Y) C from ⟨_, by simp, HC.out.1, HC.out.2⟩)
          clear HC
          go_wp2
          go_end0
          rw [HEE.out]
          exact ⟨rfl, _, HF.out, HO2.out, HR2.out⟩
end Go.Proofs.YtjkiehmjffgnlaaGreatDoor
namespace Go.Proofs.YtjkiehmjffgnlaaGreatDoor
set_option linter.unusedVariables false
set_option linter.unusedSimpArgs false
open Go.RowKit

set_option maxHeartbeats 64000000 in
set_option maxRecDepth 100000 in
set_option linter.unusedSimpArgs false in
theorem sym_right (B g cap : Nat) (P A R : List NodeD) (y : NodeD) (w : World) (a m b L : Nat) (ha : a = P.length) (hm : m = P.length + A.length) (hb : b = P.length + A.length + 1) (hA1 : 1 < A.length) (hL : L = (P ++ (A ++ ([y] ++ R))).length) (hA : Srt leD A) (h : NRow NodeD.cells B g cap (P ++ (A ++ ([y] ++ R))) w) (hs : L ≤ 1000000000000) :
    Calls Tryz.prog 54 #[.slice (some ⟨g, 0, none⟩) L cap, .int .i64 a, .int .i64 m, .int .i64 b, .func (.func 23) #[] #[]] w (MergeP B g cap P A [y] R w) := by
  obtain ⟨E, hEE⟩ : ∃ E, E = MergeP B g cap P A [y] R w := ⟨_, rfl⟩
  rw [← hEE]
  have HEE := Lib.hid hEE
  have HO0 := Lib.hid h
  have HSA := Lib.hid hA
  have hLl : L = P.length + (A.length + (1 + R.length)) := by rw [hL]; simp only [List.length_append, List.length_cons, List.length_nil]
  have HAll := Lib.hid (⟨ha, by omega, by omega, by omega⟩ : a = P.length ∧ m = a + A.length ∧ b = m + 1 ∧ L = b + R.length)
  obtain ⟨n, hn⟩ : ∃ n, n = m - a := ⟨_, rfl⟩
  have HN := Lib.hid hn
  have hbL : m + 1 ≤ L := by omega
  have hmb : a ≤ m := by omega
  have e1 : IntKind.i64.wrap ((m : Int) - a) = (n : Int) := by rw [IntWalk.i64_in _ (by omega)]; omega
  have e0 : ((n : Int) == 1) = false := by rw [beq_eq_false_iff_ne]; omega
  have e0' : ¬ (n : Int) = 1 := by omega
  have e2 : IntKind.i64.wrap ((b : Int) - m) = 1 := by rw [IntWalk.i64_in _ (by omega)]; omega
  clear h hEE hL ha hm hb hLl hA hn hA1
  have mixed : Tryz.prog.follows .mixedOrders = true := by kernel_rfl
  go_enter Tryz.func54, Tryz.ntmps54
  go_wp2_with fail
  go_loopg [14, 15] n (fun gk v14 v15 wr => ∃ i j : Nat, a ≤ i ∧ i ≤ j ∧ j ≤ m ∧ j - i ≤ gk ∧ v14 = .int .i64 i ∧ v15 = .int .i64 j ∧ Hid (∀ c, c < i - a → leD A[c]! y = true) ∧ Hid (∀ c, j - a ≤ c → c < A.length → leD A[c]! y = false) ∧ Hid (NRow NodeD.cells B g cap (P ++ (A ++ ([y] ++ R))) wr) ∧ Hid (RGr (some g) (some g) w wr))
  case atStart => exact ⟨a, m, Nat.le_refl _, hmb, Nat.le_refl _, by rw [HN.out]; exact Nat.le_refl _, rfl, rfl, Lib.hid (fun c h => by omega), Lib.hid (fun c h1 h2 => by have := HAll.out; omega), HO0, Lib.hid (RGr.refl _ _)⟩
  case round =>
    obtain ⟨i, j, hmi, hij, hjb, hgk, rfl, rfl, HLo, HHi, HO, HR⟩ := hrel
    clear HO0
    rcases Nat.lt_or_ge i j with hlt | hge
    · obtain ⟨k, hk⟩ : ∃ k, k = (i + j) / 2 := ⟨_, rfl⟩
      have hk1 : i ≤ k := by omega
      have hk2 : k < j := by omega
      have e3 : ((i : Int) + j) / 2 = (k : Int) := by omega
      obtain ⟨hPa, hM, hB2, hLl⟩ := HAll.out
      have hkY : k - a < A.length := by omega
      have gq : (P ++ (A ++ ([y] ++ R)))[k]? = some A[k - a]! := by
        rw [List.getElem?_append_right (by omega), show k - P.length = k - a by omega, List.getElem?_append_left hkY, bang A (k - a) hkY, List.getElem?_eq_getElem hkY]
      have gp : (P ++ (A ++ ([y] ++ R)))[m]? = some y := by
        rw [List.getElem?_append_right (by omega), List.getElem?_append_right (by omega), show m - P.length - A.length = 0 by omega]; rfl
      obtain ⟨z, hz⟩ : ∃ z, z = A[k - a]! := ⟨_, rfl⟩
      rw [← hz] at gq
      have HZ := Lib.hid hz
      obtain ⟨c0, c1, c2, c3, c4, f0, f1, f2, f3, f4, p0, p1, p2, p3, p4, q0, q1, q2, q3, q4, HCm⟩ := probe_ready HO.out gp gq
      have k1 : (i : Int) < j := by omega
      have k2 : (k : Int) < L := by omega
      have k3 : (m : Int) < L := by omega
      have HK := Lib.hid (show i ≤ k ∧ k < j ∧ k - a < A.length from ⟨hk1, hk2, hkY⟩)
      clear hk hk1 hk2 hkY hPa hM hB2 hLl gp gq hz
      by_cases hcn : cmpD y z < 0
      · have HLe := Lib.hid (cmpD_neg.1 hcn)
        have HHi2 := Lib.hid (show ∀ c, k - a ≤ c → c < A.length → leD A[c]! y = false from fun c h1 h2 => by
          cases h9 : leD A[c]! y with
          | false => rfl
          | true =>
            have := leD_ok.trans _ _ _ (HSA.out.le_at leD_ok h1 h2) h9
            rw [← HZ.out, HLe.out] at this
            cases this)
        go_upto_region 17 with (fail)
        go_quiet_grown (first | (go_at_call 23; refine Calls.grown_of (HCm.out _)))
        have HBc := Lib.hid (below_grown wr nq osq)
        clear p0 p1 p2 p3 p4 q0 q1 q2 q3 q4 HCm
        generalize Sort.grow (wr.drewN nq) osq = wc at *
        have HO2 := Lib.hid (HO.out.under HBc.out)
        have HR2 := Lib.hid (HR.out.trans (RGr.under HBc.out))
        clear HO HR HBc HHi
        go_wp2
        go_roundg (gk - 1)
        case measure => have := HK.out; omega
        case rel => exact ⟨i, k, hmi, by have := HK.out; omega, by have := HK.out; omega, by have := HK.out; omega, rfl, rfl, HLo, HHi2, HO2, HR2⟩
      · have HLe := Lib.hid (show leD A[k - a]! y = true by
          have h0 : ¬ leD z y = false := fun h => hcn (cmpD_neg.2 h)
          rw [← HZ.out]
          simpa using h0)
        have HLo2 := Lib.hid (show ∀ c, c < k + 1 - a → leD A[c]! y = true from fun c hc => leD_ok.trans _ _ _ (HSA.out.le_at leD_ok (i := c) (j := k - a) (by omega) HK.out.2.2) HLe.out)
        go_upto_region 17 with (fail)
        go_quiet_grown (first | (go_at_call 23; refine Calls.grown_of (HCm.out _)))
        have HBc := Lib.hid (below_grown wr nq osq)
        clear p0 p1 p2 p3 p4 q0 q1 q2 q3 q4 HCm
        generalize Sort.grow (wr.drewN nq) osq = wc at *
        have HO2 := Lib.hid (HO.out.under HBc.out)
        have HR2 := Lib.hid (HR.out.trans (RGr.under HBc.out))
        clear HO HR HBc HLo
        go_wp2
        go_roundg (gk - 1)
        case measure => have := HK.out; omega
        case rel => exact ⟨k + 1, j, by have := HK.out; omega, by have := HK.out; omega, hjb, by have := HK.out; omega, by go_num, rfl, HLo2, HHi, HO2, HR2⟩
    · obtain rfl : i = j := by omega
      obtain ⟨u, hu⟩ : ∃ u, u = i - a := ⟨_, rfl⟩
      rw [← hu] at HLo HHi
      have HC := Lib.hid (one_right leD_ok (y := y) (k := u) HSA.out (by have := HAll.out; omega) HLo.out (fun c h1 h2 => HHi.out c h1 h2))
      have k1 : ¬ (i : Int) < i := by omega
      have HIU := Lib.hid (show i = a + u by omega)
      have HUA := Lib.hid (show u ≤ A.length by have := HAll.out; omega)
      have HO1 := Lib.hid (show NRow NodeD.cells B g cap (P ++ (A.take A.length ++ (y :: (A.drop A.length ++ R)))) wr by rw [List.take_length, List.drop_length]; exact HO.out)
      clear HO HLo HHi HSA hu
      go_wp2_with fail
      generalize wr = W0 at *
      go_loopg [17] (n - u) (fun gk v17 wr => ∃ t k : Nat, u ≤ t ∧ t - u ≤ gk ∧ v17 = .int .i64 k ∧ Hid (k = a + t ∧ t ≤ A.length) ∧ Hid (NRow NodeD.cells B g cap (P ++ (A.take t ++ (y :: (A.drop t ++ R)))) wr) ∧ Hid (RGr (some g) (some g) w wr))
      case atStart => exact ⟨A.length, m, HUA.out, by have := HN.out; have := HAll.out; omega, rfl, Lib.hid ⟨HAll.out.2.1, Nat.le_refl _⟩, HO1, HR⟩
      case round =>
        obtain ⟨t, k, hut, htg, rfl, HK, HO2, HR2⟩ := hrel
        clear HO1 HR
        rcases Nat.lt_or_ge u t with htl | hte
        · obtain ⟨hPa, hM, hB2, hLl⟩ := HAll.out
          obtain ⟨hk, htA⟩ := HK.out
          obtain ⟨tp, rfl⟩ : ∃ tp, t = tp + 1 := ⟨t - 1, by omega⟩
          obtain ⟨kp, hkp⟩ : ∃ kp, kp = a + tp := ⟨_, rfl⟩
          obtain ⟨z, hz⟩ : ∃ z, A[tp]? = some z := ⟨_, List.getElem?_eq_getElem (by omega)⟩
          have hO2 := HO2.out
          have hdz : A.drop tp = z :: A.drop (tp + 1) := by rw [List.drop_eq_getElem_cons (by omega)]; congr 1; have := List.getElem?_eq_getElem (l := A) (i := tp) (by omega); rw [hz] at this; injection this with this; exact this.symm
          have e4 : P ++ (A.take (tp + 1) ++ (y :: (A.drop (tp + 1) ++ R))) = (P ++ A.take tp) ++ z :: (y :: (A.drop (tp + 1) ++ R)) := by rw [List.take_add_one, hz]; simp
          have e9 : P ++ (A.take tp ++ (y :: (A.drop tp ++ R))) = (P ++ A.take tp) ++ y :: (z :: (A.drop (tp + 1) ++ R)) := by rw [hdz]; simp
          rw [e4] at hO2
          have hl1 : (P ++ A.take tp).length = kp := by rw [List.length_append, List.length_take]; omega
          have hDl : ((P ++ A.take tp) ++ z :: (y :: (A.drop (tp + 1) ++ R))).length = L := by
            rw [← e4]; simp only [List.length_append, List.length_take, List.length_drop, List.length_cons]; omega
          have gz : ((P ++ A.take tp) ++ z :: (y :: (A.drop (tp + 1) ++ R)))[kp]? = some z := by rw [← hl1, List.getElem?_append_right (Nat.le_refl _), Nat.sub_self]; rfl
          have gy : ((P ++ A.take tp) ++ z :: (y :: (A.drop (tp + 1) ++ R)))[k]? = some y := by rw [show k = (P ++ A.take tp).length + 1 by omega, List.getElem?_append_right (by omega), show (P ++ A.take tp).length + 1 - (P ++ A.take tp).length = 1 by omega]; rfl
          obtain ⟨c0, c1, c2, c3, c4, f0, f1, f2, f3, f4, V1, V2, V3, V4, V5, U1, U2, U3, U4, U5, -, -, ⟨p0, p1, p2, p3, p4⟩, ⟨q0, q1, q2, q3, q4⟩, ⟨s0, s1, s2, s3, s4⟩, ⟨t0, t1, t2, t3, t4⟩, hO9, hR9⟩ := exch_ready encD hO2 hDl gy gz
          have HO9 := Lib.hid (show NRow NodeD.cells B g cap (P ++ (A.take tp ++ (y :: (A.drop tp ++ R)))) U5 by
            have h0 := exch_back (P ++ A.take tp) (A.drop (tp + 1) ++ R) z y
            rw [hl1, show kp + 1 = k by omega] at h0
            rw [e9, ← h0]
            exact hO9)
          have HR9 := Lib.hid (HR2.out.trans hR9)
          have j1 : (i : Int) < k := by have := HIU.out; omega
          have j0 : IntKind.i64.wrap ((k : Int) - 1) = (kp : Int) := by rw [IntWalk.i64_in _ (by omega)]; omega
          have j2 : (k : Int) < L := by omega
          have j3 : (kp : Int) < L := by omega
          have HKp := Lib.hid (show kp = a + tp ∧ tp ≤ A.length from ⟨hkp, by omega⟩)
          clear hO2 e4 e9 hl1 hDl gz gy hO9 hR9 hPa hM hB2 hLl hk HO2 HR2 hdz hz hkp htA HK
          go_upto_region 23 with (fail)
          go_region_law fail
          all_goals
            go_wp2
            go_roundg (gk - 1)
            case measure => omega
            case rel => exact ⟨tp, kp, by omega, by omega, by go_num, HKp, HO9, HR9⟩
        · obtain rfl : t = u := by omega
          have j1 : ¬ (i : Int) < k := by have := HK.out; have := HIU.out; omega
          have HF := Lib.hid (show ∃ C, P ++ (A.take t ++ (y :: (A.drop t ++ R))) = P ++ (C ++ R) ∧ Srt leD C ∧ Stab leD (A ++ [y]) C from ⟨_, by simp, HC.out.1, HC.out.2⟩)
          clear HC
          go_wp2
          go_end0
          rw [HEE.out]
          exact ⟨rfl, _, HF.out, HO2.out, HR2.out⟩
end Go.Proofs.YtjkiehmjffgnlaaGreatDoor
