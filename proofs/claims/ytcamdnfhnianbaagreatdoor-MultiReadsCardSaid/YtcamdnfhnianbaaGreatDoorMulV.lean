/-
  The walk of docketlaw17.MultiReads. Conditions: what the listed variables hold.
-/
import Derived.Test.YtcamdnfhnianbaaGreatDoorMulT
import Derived.Test.YtcamdnfhnianbaaGreatDoorXmlZ45
import Derived.Test.YtcamdnfhnianbaaGreatDoorXmlZ26
namespace Go.Proofs.YtcamdnfhnianbaaGreatDoor
set_option linter.unusedVariables false
set_option linter.unusedSimpArgs false
open Go.RowKit

theorem countN_pos (n : NodeT) : 1 ≤ countN n := by
  obtain ⟨t, s, n, ats, ks⟩ := n
  rw [countN]
  omega
theorem countL_len : ∀ ks : List NodeT, ks.length ≤ countL ks
  | [] => by rw [countL]; exact Nat.le_refl _
  | k :: ks => by
    have := countL_len ks
    have := countN_pos k
    rw [countL, List.length_cons]
    omega
/-- a tree that is read is small in each of its parts. -/
structure ReadM (l : List ToldT) : Prop where
  len : l.length ≤ 1000000
  parts : ∀ t ∈ l, t.parts.length ≤ 1000000
  why : ∀ t ∈ l, ∀ p ∈ t.parts, reasonS p.status ≠ []
  props : ∀ t ∈ l, ∀ p ∈ t.parts, ∀ n ∈ p.props, SmallN 2000000 n
  href : ∀ t ∈ l, t.href.length ≤ 1000000000
  good : ∀ t ∈ l, goodRefM t = true
theorem ref_goodM {t : ToldT} (h : goodRefM t = true) : goodM t = true := by
  unfold goodRefM at h
  rw [Bool.and_eq_true] at h
  exact h.1
theorem read_parts {s : List UInt8} {n : NodeT} {l : List ToldT} (hn : parseX s = .ok n) (h : readM s = .ok l) : n = multiN l ∧ ReadM l := by
  have hg := parse_good hn
  have hsm := parse_small hn
  obtain ⟨e, hr⟩ := read_good hn hg h
  subst e
  have hc := good_count hg
  have hcl : countN (multiN l) = 1 + countL (l.map respN) := by unfold multiN davN; rw [countN]
  have h1 := countL_len (l.map respN)
  rw [List.length_map] at h1
  have hks : ∀ k ∈ l.map respN, SmallN 2000000 k := hsm.parts.2.2.2.2.2.2
  have hkt : ∀ t ∈ l, ∀ k ∈ davN wHref [textN t.href] :: t.parts.map partN, SmallN 2000000 k := fun t ht => (hks _ (List.mem_map_of_mem ht)).parts.2.2.2.2.2.2
  refine ⟨rfl, by omega, fun t ht => ?_, fun t ht p hp => ?_, fun t ht p hp n hn => ?_, fun t ht => ?_, hr⟩
  · have h2 := countL_mem _ (respN t) (List.mem_map_of_mem ht)
    have h3 : countN (respN t) = 1 + (countN (davN wHref [textN t.href]) + countL (t.parts.map partN)) := by unfold respN davN; rw [countN, countL]
    have h4 := countL_len (t.parts.map partN)
    rw [List.length_map] at h4
    omega
  · exact good_reason (ref_goodM (hr t ht)) p hp
  · have h2 := hkt t ht (partN p) (List.mem_cons_of_mem _ (List.mem_map_of_mem hp))
    have h3 : ∀ k ∈ [davN wProp p.props, davN wStatus [textN (statusS p.status)]], SmallN 2000000 k := h2.parts.2.2.2.2.2.2
    have h4 := h3 _ (List.mem_cons_self ..)
    have h5 : ∀ k ∈ p.props, SmallN 2000000 k := h4.parts.2.2.2.2.2.2
    exact h5 n hn
  · have h2 := hkt t ht _ (List.mem_cons_self ..)
    have h3 : ∀ k ∈ [textN t.href], SmallN 2000000 k := h2.parts.2.2.2.2.2.2
    have h4 : t.href.length ≤ 2000000 := (h3 _ (List.mem_cons_self ..)).parts.1
    omega
theorem reads_err {s : List UInt8} {k : Int} (h : parseX s = .error k) : readM s = .error k := by unfold readM; rw [h]
theorem reads_no {s : List UInt8} {n : NodeT} {k : Int} (h : parseX s = .ok n) (hr : readM s = .error k) : k = 50 := by
  unfold readM at hr
  rw [h] at hr
  replace hr : (match multiM n with
    | none => .error 50
    | some l => .ok l : Except Int (List ToldT)) = .error k := hr
  split at hr
  · injection hr with hr; exact hr.symm
  · cases hr
set_option maxHeartbeats 16000000 in
set_option maxRecDepth 100000 in
set_option linter.unusedSimpArgs false in
theorem law_reads (s : List UInt8) (w : World) (hs : s.length ≤ 9223372036854775807) (hE : MEnv w) : Calls Tryz.prog 5 #[.string ⟨s.toArray⟩] w (Ret (.bool true) w) := by
  have HFx := Lib.hid (mfixed_any w hE)
  have HRd := Lib.hid (fun w' (hb : Below w.heap.size w w') => mread_any s w' hs (hE.below hb))
  have HPa := Lib.hid (fun w' (hb : Below w.heap.size w w') => xparseV s w' (by omega) (hE.below hb).x)
  have HE1 := Lib.hid (fun k (h : parseX s = .error k) => reads_err h)
  have HE2 := Lib.hid (fun k (h : parseX s = .error k) => parse_err h)
  have HE3 := Lib.hid (fun n k (h : parseX s = .ok n) (hr : readM s = .error k) => reads_no h hr)
  have HE4 := Lib.hid (fun n l (h : parseX s = .ok n) (hr : readM s = .ok l) => read_parts h hr)
  generalize parseX s = P at *
  generalize readM s = R at *
  obtain ⟨E, hEE⟩ : ∃ E, E = Ret (.bool true) w := ⟨_, rfl⟩
  rw [← hEE]
  have HEE := Lib.hid hEE
  clear hE hEE hs
  go_enter Tryz.func5, Tryz.ntmps5
  go_wp2_with fail
  refine HFx.out.mono ?_
  rintro e w1 ⟨rfl, hb1⟩
  have HB1 := Lib.hid hb1
  clear hb1 HFx
  go_wp2_with fail
  refine (HRd.out _ HB1.out).mono ?_
  rcases R with k | l
  · rintro e w2 ⟨hb2, rfl⟩
    have HB2 := Lib.hid (HB1.out.trans (hb2.mono HB1.out.size))
    clear hb2 HRd HB1 HE4
    go_wp2_with fail
    refine (HPa.out _ HB2.out).mono ?_
    rintro e w3 ⟨hb3, aA, ac, kA, kc, rfl, htv⟩
    have HB3 := Lib.hid (HB2.out.trans (hb3.mono HB2.out.size))
    have HB4 := Lib.hid (HB3.out.alloc HB3.out.size (.cells (treeCs (outN P) aA ac kA kc) 36 (0, 0)))
    unfold treeCs at HB4 ⊢
    clear hb3 htv HPa HB2 HB3
    rcases P with f | n
    · have e1 := HE1.out f rfl
      injection e1 with e1
      subst e1
      have e2 := HE2.out _ rfl
      generalize outN (Except.error k : Except Int NodeT) = N at *
      rw [show outE (Except.error k : Except Int NodeT) = k from rfl]
      clear HE1 HE2 HE3
      rcases e2 with rfl | rfl | rfl
      all_goals
        go_wp2
        rw [HEE.out]
        exact ⟨rfl, HB4.out⟩
    · have e1 := HE3.out n k rfl rfl
      subst e1
      generalize outN (Except.ok n : Except Int NodeT) = N at *
      rw [show outE (Except.ok n : Except Int NodeT) = 0 from rfl]
      clear HE1 HE2 HE3
      go_wp2
      rw [HEE.out]
      exact ⟨rfl, HB4.out⟩
  rintro e w2 ⟨hb2, v, rfl, hrow⟩
  have HB2 := Lib.hid (HB1.out.trans (hb2.mono HB1.out.size))
  rcases P with f | n
  · exact absurd (HE1.out f rfl) (by intro h; cases h)
  obtain ⟨e4, hrm⟩ := HE4.out n l rfl rfl
  obtain ⟨A, c, hv, hc1, hc2⟩ := hrow.form
  subst hv
  unfold maxLen at hc2
  have HRw := Lib.hid hrow
  have HRm := Lib.hid hrm
  have HE5 := Lib.hid e4
  clear e4 hb2 HRd HB1 HE1 HE2 HE3 HE4 hrow hrm
  go_wp2_with fail
  refine (HPa.out _ HB2.out).mono ?_
  rintro e w3 ⟨hb3, aA, ac, kA, kc, rfl, htv⟩
  rw [show outE (Except.ok n : Except Int NodeT) = 0 from rfl]
  rw [show outN (Except.ok n : Except Int NodeT) = n from rfl] at htv ⊢
  have HB3 := Lib.hid (HB2.out.trans (hb3.mono HB2.out.size))
  have hba : Below w3.heap.size w3 (w3.alloc (.cells (treeCs n aA ac kA kc) 36 (0, 0))) := (Below.refl _ _).alloc (Nat.le_refl _) _
  have hq := heap_alloc_new w3 (.cells (treeCs n aA ac kA kc) 36 (0, 0))
  have HB4 := Lib.hid (HB3.out.trans (hba.mono HB3.out.size))
  have HT4 := Lib.hid (htv.below hba)
  have hT : ToldsP anyB (w3.alloc (.cells (treeCs n aA ac kA kc) 36 (0, 0))) (.slice A l.length c) l := (TabP.any (((HRw.out.under mov_told hb3).under mov_told hba).tab mov_told))
  obtain ⟨-, -, -, hpk⟩ := told_at hT.1
  have HTl := Lib.hid hT
  have HPk := Lib.hid hpk
  unfold treeCs at hq HB4 HT4 HTl HPk ⊢
  clear hb3 htv hba HPa HB2 HB3 HRw hT hpk
  go_wp2_with fail
  generalize w3.alloc (.cells #[.string ⟨n.text.toArray⟩, .string ⟨n.space.toArray⟩, .string ⟨n.name.toArray⟩, .slice aA n.attrs.length ac, .slice kA n.kids.length kc] 36 (0, 0)) = w4 at *
  obtain ⟨q, hqe⟩ : ∃ q, q = w3.heap.size := ⟨_, rfl⟩
  rw [← hqe] at hq ⊢
  have HQ := Lib.hid hq
  clear hqe hq
  go_loopg [7] l.length (fun gk v7 wr => ∃ i : Nat, i + gk = l.length ∧ v7 = .int .i64 i ∧ Hid (Below w4.heap.size w4 wr))
  case atStart => exact ⟨0, by omega, rfl, Lib.hid (Below.refl _ _)⟩
  case round =>
    obtain ⟨i, hig, rfl, HBr⟩ := hrel
    rcases hd : l.drop i with _ | ⟨t, rest⟩
    · have hi2 : i = l.length := by have := drop_nil hd; omega
      subst hi2
      have hqr := (HBr.out.block q (xlt HQ.out)).trans HQ.out
      have x0 := xat hqr 0
      have x1 := xat hqr 1
      have x2 := xat hqr 2
      have x3 := xat hqr 3
      have x4 := xat hqr 4
      simp only [List.getElem?_toArray, List.getElem?_cons_zero, List.getElem?_cons_succ] at x0 x1 x2 x3 x4
      have hdr : Below wr.heap.size wr wr.drew := below_draws (Below.refl _ _) 1
      have HTr := Lib.hid (rtree_any l A c wr.drew (HTl.out.under (HBr.out.trans (hdr.mono HBr.out.size))) HRm.out.len HRm.out.parts HRm.out.why)
      have HQd := Lib.hid (fun w5 (hb : Below wr.heap.size wr w5) => (hb.block q (xlt hqr)).trans hqr)
      have HSm := Lib.hid (fun w5 (hb : Below wr.heap.size wr w5) (cs : List Value) (hc : NodeP anyB w5 cs (multiN l)) => (by
        have h1 := HT4.out.below (HBr.out.trans (hb.mono HBr.out.size))
        rw [← HE5.out] at hc
        exact xsame_any hc _ (node_of h1.at_ h1.kd) w5 (Below.refl _ _) : Calls Tryz.prog 15 #[.agg cs.toArray, .agg #[.string ⟨n.text.toArray⟩, .string ⟨n.space.toArray⟩, .string ⟨n.name.toArray⟩, .slice aA n.attrs.length ac, .slice kA n.kids.length kc]] w5 (Ret (.bool true) w5)))
      have HBw := Lib.hid (HB4.out.trans (HBr.out.mono HB4.out.size))
      clear hd HPk HRm hqr HTl HT4
      go_upto_region 14 with (fail)
      go_region_law (first
        | (go_simp; go_at_call 16; refine (HTr.out).mono ?_; rintro e w5 ⟨hb5, cs, rfl, hc5⟩; have hb5' : Below wr.heap.size wr w5 := hdr.trans hb5; have hq5 := HQd.out w5 hb5'; have y0 := xat hq5 0; have y1 := xat hq5 1; have y2 := xat hq5 2; have y3 := xat hq5 3; have y4 := xat hq5 4; simp only [List.getElem?_toArray, List.getElem?_cons_zero, List.getElem?_cons_succ] at y0 y1 y2 y3 y4)
        | (go_simp; go_at_call 15; refine (HSm.out w5 hb5' cs hc5).mono ?_; rintro e w6 ⟨rfl, hb6⟩))
      all_goals
        have HB6 := Lib.hid (HBw.out.trans ((hb5'.trans (hb6.mono hb5'.size)).mono HBw.out.size))
        clear hb5 hb5' hb6 hq5 y0 y1 y2 y3 y4 x0 x1 x2 x3 x4 hc5
        go_wp2
        go_ret
        rw [HEE.out]
        exact ⟨rfl, HB6.out⟩
    · obtain ⟨hlt, hx, hr⟩ := drop_consA hd
      obtain ⟨b, o, pA, pc, rfl, hbl, e0, e1, hn⟩ := HPk.out i t hx
      have d0 := (HBr.out.cell (p := ⟨b, o + i * 2, none⟩) hbl).trans e0
      have d1 := (HBr.out.cell (p := ⟨b, o + i * 2 + 1, none⟩) hbl).trans e1
      have k1 : (i : Int) < l.length := by omega
      have k2 : (0 : Int) ≤ i := by omega
      have htm := List.mem_of_getElem? hx
      have hGd := rgoodM_any t pA pc wr (hn.under HBr.out) (HRm.out.props t htm) (HRm.out.href t htm)
      rw [HRm.out.good t htm] at hGd
      have HGd := Lib.hid hGd
      clear e0 e1 hd hx hr hn htm hGd
      go_wp2_with fail
      refine HGd.out.mono ?_
      rintro e w5 ⟨hb5, rfl⟩
      have HB5 := Lib.hid (HBr.out.trans (hb5.mono HBr.out.size))
      clear hb5 HGd HBr d0 d1
      go_wp2
      go_roundg (gk - 1)
      case measure => omega
      case rel => exact ⟨i + 1, by omega, by go_num, HB5⟩
end Go.Proofs.YtcamdnfhnianbaaGreatDoor
