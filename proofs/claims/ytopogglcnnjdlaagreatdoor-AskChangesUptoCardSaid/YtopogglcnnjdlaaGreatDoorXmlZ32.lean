/-
  Parts of the walks and plain laws of layer 10, joined: AskA. Conditions: as each theorem states them.
-/
import Derived.Test.YtopogglcnnjdlaaGreatDoorXmlZ31
/-! AskA -/
namespace Go.Proofs.YtopogglcnnjdlaaGreatDoor
set_option linter.unusedVariables false
set_option linter.unusedSimpArgs false
open Go.RowKit

set_option maxHeartbeats 2000000 in
set_option maxRecDepth 100000 in
set_option linter.unusedSimpArgs false in
theorem ais_any (n : NodeT) (aA : Option Addr) (ac : Nat) (kA : Option Addr) (kc : Nat) (nm : List UInt8) (w : World) : Calls Tryz.prog 42 #[.agg #[.string ⟨n.text.toArray⟩, .string ⟨n.space.toArray⟩, .string ⟨n.name.toArray⟩, .slice aA n.attrs.length ac, .slice kA n.kids.length kc], .string ⟨nm.toArray⟩] w (Ret (.bool (isD n nm)) w) := by
  obtain ⟨t, s, m, ats, ks⟩ := n
  simp only [NodeT.text, NodeT.space, NodeT.name, NodeT.attrs, NodeT.kids]
  have HB := Lib.hid ((Below.refl w.heap.size w).alloc (Nat.le_refl _) (.cells #[.string ⟨t.toArray⟩, .string ⟨s.toArray⟩, .string ⟨m.toArray⟩, .slice aA ats.length ac, .slice kA ks.length kc] 26 (0, 0)))
  obtain ⟨D, hD⟩ : ∃ D, D = isD (.mk t s m ats ks) nm := ⟨_, rfl⟩
  rw [← hD]
  have HD := Lib.hid (show D = (decide (m = nm) && decide (s = [68, 65, 86, 58])) from hD)
  clear hD
  by_cases h1 : m = nm
  · subst h1
    by_cases h2 : s = [68, 65, 86, 58]
    · have HD2 := Lib.hid (show D = true by rw [HD.out, h2]; simp)
      subst h2
      clear HD
      go_enter Tryz.func42, Tryz.ntmps42
      go_wp2
      go_ret
      exact ⟨retb HD2.out.symm, HB.out⟩
    · have HD2 := Lib.hid (show D = false by rw [HD.out]; simp [h2])
      have e2 : (s == [68, 65, 86, 58]) = false := beq_eq_false_iff_ne.2 h2
      clear HD
      go_enter Tryz.func42, Tryz.ntmps42
      go_wp2
      go_ret
      exact ⟨retb HD2.out.symm, HB.out⟩
  · have HD2 := Lib.hid (show D = false by rw [HD.out]; simp [h1])
    have e1 : (m == nm) = false := beq_eq_false_iff_ne.2 h1
    clear HD
    go_enter Tryz.func42, Tryz.ntmps42
    go_wp2
    go_ret
    exact ⟨retb HD2.out.symm, HB.out⟩
theorem each_cons (x : NodeT) (r : List NodeT) (nm : List UInt8) : eachD (x :: r) nm = x.kids.filter (fun k => isD k nm) ++ eachD r nm := List.flatMap_cons ..
/-- an element out of the input, beside the row that the call grows. -/
theorem node_beside {P : Nat → Prop} {w wr : World} {cs : List Value} {x : NodeT} {v : Value} (h : NodeP P w cs x) (hb : Below w.heap.size w wr) (hlt : ∀ k, v.ownBlock = some k → w.heap.size ≤ k ∧ k < wr.heap.size) : NodeP (fun k => (P k ∧ k < w.heap.size) ∧ some k ≠ v.ownBlock) wr cs x :=
  h.move ⟨hb.size, fun k hp hk => ⟨⟨⟨hp, hk⟩, fun e => by have := (hlt k e.symm).1; omega⟩, hb.block k hk⟩⟩
def askOf (nm : List UInt8) (x : Except Int NodeT) : Except Int NodeT := match x with
  | .error e => .error e
  | .ok n => if isD n nm then .ok n else .error 50
def oneE (x : Except Int NodeT) : Except Int (List NodeT) := match x with
  | .ok n => .ok [n]
  | .error e => .error e
set_option maxHeartbeats 16000000 in
set_option maxRecDepth 100000 in
set_option linter.unusedSimpArgs false in
theorem aeach_any (P : Nat → Prop) (v : Value) (l : List NodeT) (nm : List UInt8) (w : World) (hv : Tab 5 (NodeP P) w v l) (hc : countL l ≤ 5000) : Calls Tryz.prog 43 #[v, .string ⟨nm.toArray⟩] w (NodesV P (eachD l nm) w) := by
  obtain ⟨A, cap, rfl⟩ := tab_shape hv
  obtain ⟨-, hlc, hcm, hk⟩ := kid_atT hv
  unfold maxLen at hcm
  have HK := Lib.hid hk
  have hel := eachD_len l nm
  obtain ⟨ANS, hA⟩ : ∃ A, A = eachD l nm := ⟨_, rfl⟩
  rw [← hA] at hel ⊢
  have hAN : ANS.length ≤ 5000 := by omega
  have HA := Lib.hid hA
  obtain ⟨E, hEE⟩ : ∃ E, E = NodesV P ANS w := ⟨_, rfl⟩
  rw [← hEE]
  have HEE := Lib.hid hEE
  clear hk hv hc hel hA hEE
  go_enter Tryz.func43, Tryz.ntmps43
  go_wp2_with fail
  go_loopg [5, 12] l.length (fun gk v5 v12 wr => ∃ (i : Nat) (out : List NodeT), i + gk = l.length ∧ v12 = .int .i64 i ∧ Hid (RowG 26 5 NodeP (fun k => P k ∧ k < w.heap.size) w.heap.size wr v5 out) ∧ Hid (Below w.heap.size w wr) ∧ Hid (out ++ eachD (l.drop i) nm = ANS))
  case atStart => exact ⟨0, [], by omega, rfl, Lib.hid (RowG.nil _ _ _ _ _ _), Lib.hid (Below.refl _ _), Lib.hid (by rw [HA.out]; rfl)⟩
  case round =>
    obtain ⟨i, out, hig, rfl, HRow, HBw, HAns⟩ := hrel
    clear HA
    rcases hd : l.drop i with _ | ⟨x, rest⟩
    · have hi2 : i = l.length := by have := drop_nil hd; omega
      subst hi2
      obtain rfl : out = ANS := by have := HAns.out; rw [hd] at this; rw [← this]; show out = out ++ []; rw [List.append_nil]
      obtain ⟨A', c', hf, -, -⟩ := HRow.out.form
      subst hf
      clear hd HAns
      go_wp2
      rw [HEE.out]
      exact ⟨HBw.out, A', c', rfl, HRow.out.tabQ mov_node (fun _ h => h.1), fun k hk => (HRow.out.lt k hk).1⟩
    · obtain ⟨hlt, hx, hr⟩ := drop_consA hd
      obtain ⟨b1, o1, aA, ac, kA, kc, rfl, hbl1, e0, e1, e2, e3, e4, fa, fk⟩ := HK.out i x hx
      obtain ⟨-, hkc, hkm, hkk⟩ := kid_at fk
      unfold maxLen at hkm
      have HKK := Lib.hid hkk
      have d0 := (HBw.out.cell (p := ⟨b1, o1 + i * 5, none⟩) hbl1).trans e0
      have d1 := (HBw.out.cell (p := ⟨b1, o1 + i * 5 + 1, none⟩) hbl1).trans e1
      have d2 := (HBw.out.cell (p := ⟨b1, o1 + i * 5 + 2, none⟩) hbl1).trans e2
      have d3 := (HBw.out.cell (p := ⟨b1, o1 + i * 5 + 3, none⟩) hbl1).trans e3
      have d4 := (HBw.out.cell (p := ⟨b1, o1 + i * 5 + 4, none⟩) hbl1).trans e4
      have k1 : (i : Int) < l.length := by omega
      have k2 : (0 : Int) ≤ i := by omega
      have HAns2 := Lib.hid (show out ++ ((x.kids.drop 0).filter (fun k => isD k nm) ++ eachD (l.drop (i + 1)) nm) = ANS by rw [List.drop_zero, hr, ← each_cons, ← hd]; exact HAns.out)
      have hb1 : Below wr.heap.size wr (wr.alloc (.cells #[.string ⟨x.text.toArray⟩, .string ⟨x.space.toArray⟩, .string ⟨x.name.toArray⟩, .slice aA x.attrs.length ac, .slice kA x.kids.length kc] 26 (0, 0))) := (Below.refl _ _).alloc (Nat.le_refl _) _
      have HB1 := Lib.hid (HBw.out.trans (hb1.mono HBw.out.size))
      have HR1 := Lib.hid (HRow.out.under mov_node hb1)
      clear e0 e1 e2 e3 e4 fa fk hkk hd hx hr HAns hb1
      go_wp2_with fail
      go_loopg [5, 19] x.kids.length (fun gk v5 v19 wr => ∃ (j : Nat) (out : List NodeT), j + gk = x.kids.length ∧ v19 = .int .i64 j ∧ Hid (RowG 26 5 NodeP (fun k => P k ∧ k < w.heap.size) w.heap.size wr v5 out) ∧ Hid (Below w.heap.size w wr) ∧ Hid (out ++ ((x.kids.drop j).filter (fun k => isD k nm) ++ eachD (l.drop (i + 1)) nm) = ANS))
      case atStart => exact ⟨0, out, by omega, rfl, HR1, HB1, HAns2⟩
      case round =>
        obtain ⟨j, out2, hjg, rfl, HRow2, HBw2, HAns3⟩ := hrel
        clear d0 d1 d2 d3 d4 HB1 HR1 HAns2 HRow HBw
        rcases hd : x.kids.drop j with _ | ⟨y, rest2⟩
        · have hj2 : j = x.kids.length := by have := drop_nil hd; omega
          subst hj2
          have HAns4 := Lib.hid (show out2 ++ eachD (l.drop (i + 1)) nm = ANS by have := HAns3.out; rw [hd] at this; exact this)
          clear hd HAns3
          go_wp2
          go_roundg (l.length - (i + 1))
          case measure => omega
          case rel => exact ⟨i + 1, out2, by omega, by go_num, HRow2, HBw2, HAns4⟩
        · obtain ⟨hlt2, hy, hr2⟩ := drop_consA hd
          obtain ⟨b2, o2, aA2, ac2, kA2, kc2, rfl, hbl2, e0, e1, e2, e3, e4, fa2, fk2⟩ := HKK.out j y hy
          have d0 := (HBw2.out.cell (p := ⟨b2, o2 + j * 5, none⟩) hbl2).trans e0
          have d1 := (HBw2.out.cell (p := ⟨b2, o2 + j * 5 + 1, none⟩) hbl2).trans e1
          have d2 := (HBw2.out.cell (p := ⟨b2, o2 + j * 5 + 2, none⟩) hbl2).trans e2
          have d3 := (HBw2.out.cell (p := ⟨b2, o2 + j * 5 + 3, none⟩) hbl2).trans e3
          have d4 := (HBw2.out.cell (p := ⟨b2, o2 + j * 5 + 4, none⟩) hbl2).trans e4
          have j1 : (j : Int) < x.kids.length := by omega
          have j2 : (0 : Int) ≤ j := by omega
          have HN2 := Lib.hid (node_of fa2 fk2)
          have hb2 : Below wr.heap.size wr (wr.alloc (.cells #[.string ⟨y.text.toArray⟩, .string ⟨y.space.toArray⟩, .string ⟨y.name.toArray⟩, .slice aA2 y.attrs.length ac2, .slice kA2 y.kids.length kc2] 26 (0, 0))) := (Below.refl _ _).alloc (Nat.le_refl _) _
          have hq2 := heap_alloc_new wr (.cells #[.string ⟨y.text.toArray⟩, .string ⟨y.space.toArray⟩, .string ⟨y.name.toArray⟩, .slice aA2 y.attrs.length ac2, .slice kA2 y.kids.length kc2] 26 (0, 0))
          have HB3 := Lib.hid (HBw2.out.trans (hb2.mono HBw2.out.size))
          have HR3 := Lib.hid (HRow2.out.under mov_node hb2)
          have HQ := Lib.hid hq2
          have HIs := Lib.hid (ais_any y aA2 ac2 kA2 kc2 nm)
          have HAns4 := Lib.hid (show out2 ++ ((y :: rest2).filter (fun k => isD k nm) ++ eachD (l.drop (i + 1)) nm) = ANS by rw [← hd]; exact HAns3.out)
          have HR2 := Lib.hid hr2
          clear e0 e1 e2 e3 e4 fa2 fk2 hd hy hr2 HAns3 hb2 hq2 HRow2 HBw2
          go_wp2_with fail
          generalize wr.alloc (.cells #[.string ⟨y.text.toArray⟩, .string ⟨y.space.toArray⟩, .string ⟨y.name.toArray⟩, .slice aA2 y.attrs.length ac2, .slice kA2 y.kids.length kc2] 26 (0, 0)) = w3 at *
          obtain ⟨q, hq⟩ : ∃ q, q = wr.heap.size := ⟨_, rfl⟩
          rw [← hq] at HQ ⊢
          clear hq d0 d1 d2 d3 d4
          refine (HIs.out w3).mono ?_
          rintro e w4 ⟨rfl, hb4⟩
          have HB4 := Lib.hid (HB3.out.trans (hb4.mono HB3.out.size))
          have HR4 := Lib.hid (HR3.out.under mov_node hb4)
          have hq4 := (hb4.block _ (xlt HQ.out)).trans HQ.out
          clear hb4 HB3 HR3 HQ HIs
          cases hs : isD y nm
          · have HAns5 := Lib.hid (show out2 ++ ((x.kids.drop (j + 1)).filter (fun k => isD k nm) ++ eachD (l.drop (i + 1)) nm) = ANS by
              have := HAns4.out
              rw [List.filter_cons, if_neg (by rw [hs]; decide)] at this
              rw [HR2.out]
              exact this)
            clear hs HAns4 HR2 HN2 hq4
            go_wp2
            go_roundg (gk - 1)
            case measure => omega
            case rel => exact ⟨j + 1, out2, by omega, by go_num, HR4, HB4, HAns5⟩
          · have HAns5 := Lib.hid (show (out2 ++ [y]) ++ ((x.kids.drop (j + 1)).filter (fun k => isD k nm) ++ eachD (l.drop (i + 1)) nm) = ANS by
              have := HAns4.out
              rw [List.filter_cons, if_pos hs] at this
              rw [HR2.out, List.append_assoc]
              exact this)
            have hol : out2.length + 1 ≤ 5000 := by
              have := congrArg List.length HAns5.out
              simp only [List.length_append, List.length_cons, List.length_nil] at this
              omega
            have z0 := xat hq4 0
            have z1 := xat hq4 1
            have z2 := xat hq4 2
            have z3 := xat hq4 3
            have z4 := xat hq4 4
            simp only [List.getElem?_toArray, List.getElem?_cons_zero, List.getElem?_cons_succ] at z0 z1 z2 z3 z4
            have hsz := HB4.out.size
            have HNy := Lib.hid (node_beside HN2.out HB4.out HR4.out.lt)
            clear hs HAns4 HR2 HN2 hq4
            go_wp2_with (at_builtin; refine wpList_appG elemN mov_node rfl _ _ rfl rfl HR4.out _ y HNy.out _ rfl rfl rfl (by simp [Value.oneCell']) (by omega) hsz ?_)
            intro v5 w5 hr5 hb5 hg5 hn5
            have HR5 := Lib.hid hr5
            have HB5 := Lib.hid (HB4.out.trans hb5)
            clear hr5 hb5 hg5 hn5 HR4 HB4 z0 z1 z2 z3 z4
            go_wp2
            go_roundg (gk - 1)
            case measure => omega
            case rel => exact ⟨j + 1, out2 ++ [y], by omega, by go_num, HR5, HB5, HAns5⟩
set_option maxHeartbeats 4000000 in
set_option maxRecDepth 100000 in
set_option linter.unusedSimpArgs false in
theorem aread_any (body nm : List UInt8) (w : World) (hs : body.length ≤ 2 ^ 63 - 1) (hE : XEnv w) : Calls Tryz.prog 41 #[.string ⟨body.toArray⟩, .string ⟨nm.toArray⟩] w (NodesE (oneE (askRead body nm)) w) := by
  have HP := Lib.hid (xparseV body w hs hE)
  have HA := Lib.hid (show askRead body nm = askOf nm (parseX body) from rfl)
  obtain ⟨X, hX⟩ : ∃ X, X = parseX body := ⟨_, rfl⟩
  rw [← hX] at HP HA
  obtain ⟨Y, hY⟩ : ∃ Y : Except Int (List NodeT), Y = oneE (askRead body nm) := ⟨_, rfl⟩
  rw [← hY]
  have HY := Lib.hid hY
  have HX := Lib.hid hX
  obtain ⟨E, hEE⟩ : ∃ E, E = NodesE Y w := ⟨_, rfl⟩
  rw [← hEE]
  have HEE := Lib.hid hEE
  clear hX hY hEE hE
  go_enter Tryz.func41, Tryz.ntmps41
  go_wp2_with fail
  refine HP.out.mono ?_
  rintro e w1 ⟨hb1, aA, ac, kA, kc, rfl, ht1⟩
  have hb2 := (Below.refl w1.heap.size w1).alloc (Nat.le_refl _) (.cells (treeCs (outN X) aA ac kA kc) 26 (0, 0))
  have hq2 := heap_alloc_new w1 (.cells (treeCs (outN X) aA ac kA kc) 26 (0, 0))
  have HB2 := Lib.hid (hb1.trans (hb2.mono hb1.size))
  have HT2 := Lib.hid (ht1.below hb2)
  have HQ2 := Lib.hid hq2
  clear hb1 hb2 hq2 ht1 HP
  unfold treeCs at HB2 HQ2 HT2 ⊢
  rcases hx : X with k | n
  · have hk := parse_err (s := body) (k := k) (by rw [← HX.out, hx])
    subst hx
    obtain rfl : Y = .error k := by rw [HY.out, HA.out]; rfl
    rcases hk with rfl | rfl | rfl
    all_goals
      clear HX HA HY HT2 HQ2
      go_wp2
      rw [HEE.out]
      exact ⟨HB2.out, none, 0, rfl, TabP.nil _ _ _ _⟩
  subst hx
  rw [show outE (.ok n) = 0 from rfl]
  rw [show outN (.ok n) = n from rfl] at HB2 HQ2 HT2 ⊢
  have HA2 := Lib.hid (show askRead body nm = if isD n nm then .ok n else .error 50 from HA.out)
  have HIs := Lib.hid (ais_any n aA ac kA kc nm)
  clear HX HA
  go_wp2_with fail
  generalize w1.alloc (.cells #[.string ⟨n.text.toArray⟩, .string ⟨n.space.toArray⟩, .string ⟨n.name.toArray⟩, .slice aA n.attrs.length ac, .slice kA n.kids.length kc] 26 (0, 0)) = w2 at *
  obtain ⟨q, hq⟩ : ∃ q, q = w1.heap.size := ⟨_, rfl⟩
  rw [← hq] at HQ2 ⊢
  clear hq
  refine (HIs.out w2).mono ?_
  rintro e w3 ⟨rfl, hb3⟩
  have HB3 := Lib.hid (HB2.out.trans (hb3.mono HB2.out.size))
  have HT3 := Lib.hid (HT2.out.below hb3)
  have hq3 := (hb3.block _ (xlt HQ2.out)).trans HQ2.out
  clear hb3 HB2 HT2 HQ2 HIs
  cases hs : isD n nm
  · obtain rfl : Y = .error 50 := by rw [HY.out, HA2.out, hs]; rfl
    clear hs HA2 HY hq3 HT3
    go_wp2
    rw [HEE.out]
    exact ⟨HB3.out, none, 0, rfl, TabP.nil _ _ _ _⟩
  · obtain rfl : Y = .ok [n] := by rw [HY.out, HA2.out, hs]; rfl
    have z0 := xat hq3 0
    have z1 := xat hq3 1
    have z2 := xat hq3 2
    have z3 := xat hq3 3
    have z4 := xat hq3 4
    simp only [List.getElem?_toArray, List.getElem?_cons_zero, List.getElem?_cons_succ] at z0 z1 z2 z3 z4
    have hb4 : Below w3.heap.size w3 (w3.alloc (.cells #[.string ⟨n.text.toArray⟩, .string ⟨n.space.toArray⟩, .string ⟨n.name.toArray⟩, .slice aA n.attrs.length ac, .slice kA n.kids.length kc] 26 (0, 0))) := (Below.refl _ _).alloc (Nat.le_refl _) _
    have HR := Lib.hid (many_row (n := 5) (R := NodeP anyB) (P := anyB) (rows := [[.string ⟨n.text.toArray⟩, .string ⟨n.space.toArray⟩, .string ⟨n.name.toArray⟩, .slice aA n.attrs.length ac, .slice kA n.kids.length kc]]) (xs := [n])
      (heap_alloc_new w3 (.cells #[.string ⟨n.text.toArray⟩, .string ⟨n.space.toArray⟩, .string ⟨n.name.toArray⟩, .slice aA n.attrs.length ac, .slice kA n.kids.length kc] 26 (0, 0))) (by intro r hr; rw [List.mem_singleton.1 hr]; rfl) rfl (show 1 ≤ maxLen by unfold maxLen; decide)
      (by intro j r x hr hx; have hj := (List.getElem?_eq_some_iff.1 hx).1; simp at hj; subst hj; injection hr with hr; injection hx with hx; subst hr hx; exact (HT3.out.below hb4).node) trivial)
    have HB4 := Lib.hid (HB3.out.trans (hb4.mono HB3.out.size))
    clear hs HA2 HY hq3 HT3 hb4 HB3
    go_wp2
    rw [HEE.out]
    exact ⟨HB4.out, _, 1, rfl, HR.out⟩
end Go.Proofs.YtopogglcnnjdlaaGreatDoor
