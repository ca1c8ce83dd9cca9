/-
  The walk of docketref17.Tree. Conditions: the list lies in memory; each status has a reason; lengths.
-/
import Derived.Test.YtcamdnfhnianbaaGreatDoorXmlZ47
import Derived.Test.YtcamdnfhnianbaaGreatDoorXmlZ48
namespace Go.Proofs.YtcamdnfhnianbaaGreatDoor
set_option linter.unusedVariables false
set_option linter.unusedSimpArgs false
open Go.RowKit

section
variable {α : Type} {e : TypeId} {n : Nat} {R : (Nat → Prop) → World → List Value → α → Prop} {Q Q' : Nat → Prop} {B : Nat} {w w' : World} {v : Value} {xs : List α}
/-- what stands in the heap hangs on blocks that lie in it. -/
theorem RowG.low (hM : Mov R) (h : RowG e n R Q B w v xs) (hQ : ∀ k, Q k → k < w.heap.size → Q' k) : RowG e n R Q' B w v xs := by
  obtain ⟨rows, h1, h2, h3⟩ := h
  exact ⟨rows, h1, h2, fun j r x hr hx => hM _ _ _ _ _ _ (h3 j r x hr hx) (Moves.same w fun k hk hl => ⟨hQ k hk.1 hl, hk.2⟩)⟩
/-- the blocks below M are kept. -/
theorem RowG.kept {M : Nat} (hM : Mov R) (h : RowG e n R Q B w v xs) (hQ : ∀ k, Q k → k < M) (hb : Below M w w') (hv : ∀ k, v.ownBlock = some k → k < M) : RowG e n R Q B w' v xs :=
  h.moves hM ⟨hb.size, fun k hk _ => ⟨hk, hb.block k (hQ k hk.1)⟩⟩ fun k hk => hb.block k (hv k hk)
end
/-- a node is handed back. -/
def NodeV (n : NodeT) (w : World) (e : Ending) (w' : World) : Prop := Below w.heap.size w w' ∧ ∃ cs : List Value, e = .returned (.agg cs.toArray) ∧ NodeP anyB w' cs n
set_option maxHeartbeats 32000000 in
set_option maxRecDepth 100000 in
set_option linter.unusedSimpArgs false in
theorem rtree_any (l : List ToldT) (A : Option Addr) (cap : Nat) (w : World) (hp : ToldsP anyB w (.slice A l.length cap) l) (hl : l.length ≤ 1000000) (hs : ∀ t ∈ l, t.parts.length ≤ 1000000) (hr : ∀ t ∈ l, ∀ p ∈ t.parts, reasonS p.status ≠ []) :
    Calls Tryz.prog 16 #[.slice A l.length cap] w (NodeV (multiN l) w) := by
  obtain ⟨-, hpc, hpm, hpk⟩ := told_at hp.1
  unfold maxLen at hpm
  have HPk := Lib.hid hpk
  have HSm := Lib.hid hs
  have HRs := Lib.hid hr
  obtain ⟨E, hEE⟩ : ∃ E, E = NodeV (multiN l) w := ⟨_, rfl⟩
  rw [← hEE]
  have HEE := Lib.hid hEE
  have HR0 := Lib.hid (heap_alloc_new w (.cells #[.string ⟨#[]⟩, .string ⟨#[]⟩, .string ⟨#[]⟩, .slice none 0 0, .slice none 0 0] 36 (0, 0)))
  have HB0 := Lib.hid ((Below.refl w.heap.size w).alloc (Nat.le_refl _) (.cells #[.string ⟨#[]⟩, .string ⟨#[]⟩, .string ⟨#[]⟩, .slice none 0 0, .slice none 0 0] 36 (0, 0)))
  clear hp hs hr hpk hEE
  go_enter Tryz.func16, Tryz.ntmps16
  go_wp2_with fail
  generalize w.alloc (.cells #[.string ⟨#[]⟩, .string ⟨#[]⟩, .string ⟨#[]⟩, .slice none 0 0, .slice none 0 0] 36 (0, 0)) = w1 at *
  obtain ⟨q, hq⟩ : ∃ q, q = w.heap.size := ⟨_, rfl⟩
  rw [← hq] at HR0 HB0 ⊢
  have hq1 : q < w1.heap.size := xlt HR0.out
  have HQw := Lib.hid hq
  clear hq
  go_loopg [3, 4] l.length (fun gk v3 v4 wr => ∃ i : Nat, i + gk = l.length ∧ v4 = .int .i64 i ∧ Hid (Below w1.heap.size w1 wr) ∧ Hid (RowG 36 5 NodeP (· ≠ q) w1.heap.size wr v3 ((l.take i).map respN)))
  case atStart => exact ⟨0, by omega, rfl, Lib.hid (Below.refl _ _), Lib.hid (RowG.nil _ _ _ _ _ _)⟩
  case round =>
    obtain ⟨i, hig, rfl, HBr, HRow⟩ := hrel
    have HBw := Lib.hid (HB0.out.trans (HBr.out.mono (Nat.le_of_lt hq1)))
    have hqr : q < wr.heap.size := Nat.lt_of_lt_of_le hq1 HBr.out.size
    obtain ⟨rA, rc, hkv, hrc1, hrc2⟩ := HRow.out.form
    unfold maxLen at hrc2
    have hil : i ≤ l.length := by omega
    have hkl : ((l.take i).map respN).length = i := by rw [List.length_map, List.length_take]; omega
    rw [hkl] at hkv hrc1
    subst hkv
    rcases hd : l.drop i with _ | ⟨t, rest⟩
    · have hi2 : i = l.length := by have := drop_nil hd; omega
      subst hi2
      rw [List.take_length] at HRow
      have hRq := (HBr.out.block q hq1).trans HR0.out
      have hb9 := (Below.refl wr.heap.size wr).alloc (Nat.le_refl _) (.cells #[.string ⟨#[]⟩, .string ⟨#[68, 65, 86, 58]⟩, .string ⟨#[109, 117, 108, 116, 105, 115, 116, 97, 116, 117, 115]⟩, .slice none 0 0, .slice rA l.length rc] 36 (0, 0))
      have HRq := Lib.hid ((hb9.block q (xlt hRq)).trans hRq)
      have HR9 := Lib.hid (HRow.out.under mov_node hb9)
      have HB9 := Lib.hid (HBw.out.trans (hb9.mono (Nat.le_of_lt hqr)))
      clear hd hkl HPk HRs HSm hRq hb9
      go_wp2_with (first | (go_at_call 41; refine (mD_ex _ _ _ _ _).mono ?_; rintro e w4 ⟨rfl, rfl⟩) | refine wpList_store_row rfl 36 _ _ rfl q _ rfl rfl 36 _ HRq.out (by kernel_rfl) rfl (by simp [Value.oneCell']) ?_)
      rw [HQw.out] at HRq HB9
      obtain ⟨hb5, hr5⟩ := row_end HB9.out HRq.out (Nat.le_refl _) #[.string ⟨#[]⟩, .string ⟨#[68, 65, 86, 58]⟩, .string ⟨#[109, 117, 108, 116, 105, 115, 116, 97, 116, 117, 115]⟩, .slice none 0 0, .slice rA l.length rc]
      rw [← HQw.out] at hb5 hr5
      refine bodyPost_ret (results_c1 rfl _ _ _ _ _ _ rfl hr5 Tryz.underlying36 rfl (by kernel_rfl)) rfl ?_
      rw [HEE.out]
      have hgr := grown_row (wr.alloc (.cells #[.string ⟨#[]⟩, .string ⟨#[68, 65, 86, 58]⟩, .string ⟨#[109, 117, 108, 116, 105, 115, 116, 97, 116, 117, 115]⟩, .slice none 0 0, .slice rA l.length rc] 36 (0, 0))) q #[.string ⟨#[]⟩, .string ⟨#[68, 65, 86, 58]⟩, .string ⟨#[109, 117, 108, 116, 105, 115, 116, 97, 116, 117, 115]⟩, .slice none 0 0, .slice rA l.length rc]
      have hrow := HR9.out.step mov_node hgr (fun h => h rfl) (fun e => by have := (HR9.out.lt q e).1; omega)
      refine ⟨by rw [← HQw.out]; exact hb5, _, rfl, dav_node (nm := wMulti) ⟨?_, fun _ _ _ => trivial⟩⟩
      exact hrow.tab mov_node
    · obtain ⟨hlt, hx, hr⟩ := drop_consA hd
      obtain ⟨b, o, pA, pc, rfl, hbl, e0, e1, hn⟩ := HPk.out i t hx
      have d0 := (HBw.out.cell (p := ⟨b, o + i * 2, none⟩) (by rw [HQw.out]; exact hbl)).trans e0
      have d1 := (HBw.out.cell (p := ⟨b, o + i * 2 + 1, none⟩) (by rw [HQw.out]; exact hbl)).trans e1
      have k1 : (i : Int) < l.length := by omega
      have k2 : (0 : Int) ≤ i := by omega
      have htm := List.mem_of_getElem? hx
      have HTk := Lib.hid (show (l.take (i + 1)).map respN = (l.take i).map respN ++ [respN t] by rw [List.take_add_one, hx]; simp)
      have hpl := HSm.out t htm
      have HPr := Lib.hid (HRs.out t htm)
      have HN := Lib.hid hn
      clear e0 hd hr htm
      go_wp2_with fail
      refine (mT_ex _ _ _).mono ?_
      rintro e w5 ⟨hb5, b5, hb5l, rfl, h5⟩
      have hb6 := (Below.refl w5.heap.size w5).alloc (Nat.le_refl _) (.cells #[.string ⟨#[]⟩, .string ⟨#[68, 65, 86, 58]⟩, .string ⟨#[104, 114, 101, 102]⟩, .slice none 0 0, .slice (some ⟨b5, 0, none⟩) 1 1] 36 (0, 0))
      have hb56 := hb5.trans (hb6.mono hb5.size)
      have h6 := heap_alloc_new w5 (.cells #[.string ⟨#[]⟩, .string ⟨#[68, 65, 86, 58]⟩, .string ⟨#[104, 114, 101, 102]⟩, .slice none 0 0, .slice (some ⟨b5, 0, none⟩) 1 1] 36 (0, 0))
      have h56 := (hb6.block b5 (xlt h5)).trans h5
      have h5l := xlt h5
      obtain ⟨-, hpc2, hpm2, hpk2⟩ := part_at hn.1
      unfold maxLen at hpm2
      have HPk2 := Lib.hid hpk2
      have HIn0 := Lib.hid (show RowG 36 5 NodeP (fun k => k ≠ q ∧ (k < w1.heap.size ∨ wr.heap.size ≤ k)) wr.heap.size (w5.alloc (.cells #[.string ⟨#[]⟩, .string ⟨#[68, 65, 86, 58]⟩, .string ⟨#[104, 114, 101, 102]⟩, .slice none 0 0, .slice (some ⟨b5, 0, none⟩) 1 1] 36 (0, 0))) (.slice (some ⟨w5.heap.size, 0, none⟩) 1 1) [davN wHref [textN t.href]] from by
        refine RowG.lit (rows := [[.string ⟨#[]⟩, .string ⟨#[68, 65, 86, 58]⟩, .string ⟨#[104, 114, 101, 102]⟩, .slice none 0 0, .slice (some ⟨b5, 0, none⟩) 1 1]]) (xs := [davN wHref [textN t.href]]) h6 (by intro r hr; rw [List.mem_singleton.1 hr]; rfl) rfl (show 1 ≤ maxLen by unfold maxLen; decide) hb5.size ?_
        intro j r x h1 h2
        match j, h1, h2 with
        | 0, h1, h2 =>
          injection h1 with h1; injection h2 with h2; subst h1 h2
          exact dav_node (nm := wHref) (nodes_lit1 h56 (NodeP.text _ _ _) ⟨⟨by omega, .inr (by omega)⟩, fun e => by injection e with e; omega⟩)
        | j + 1, h1, h2 => simp at h1)
      have HOut := Lib.hid (HRow.out.low (Q' := fun k => k ≠ q ∧ k < wr.heap.size) mov_node fun k h1 h2 => ⟨h1, h2⟩)
      have HOl := Lib.hid HRow.out.lt
      have HB56 := Lib.hid hb56
      clear hb5 hb6 hb56 h6 h56 h5 h5l hpk2 hn HRow hb5l e1 hx HN
      go_wp2_with fail
      generalize w5.alloc (.cells #[.string ⟨#[]⟩, .string ⟨#[68, 65, 86, 58]⟩, .string ⟨#[104, 114, 101, 102]⟩, .slice none 0 0, .slice (some ⟨b5, 0, none⟩) 1 1] 36 (0, 0)) = w6 at *
      generalize wr = W0 at *
      go_loopg [5, 6] t.parts.length (fun gk2 v5 v6 wr => ∃ k : Nat, k + gk2 = t.parts.length ∧ v6 = .int .i64 k ∧ Hid (Below W0.heap.size W0 wr) ∧ Hid (RowG 36 5 NodeP (fun k => k ≠ q ∧ (k < w1.heap.size ∨ W0.heap.size ≤ k)) W0.heap.size wr v5 (davN wHref [textN t.href] :: (t.parts.take k).map partN)))
      case atStart => exact ⟨0, by omega, rfl, HB56, HIn0⟩
      case round =>
        obtain ⟨k, hkg, rfl, HBk, HIn⟩ := hrel
        clear HIn0 HB56
        have HBw2 := Lib.hid (HBw.out.trans (HBk.out.mono (Nat.le_of_lt hqr)))
        have HO2 := Lib.hid (HOut.out.kept mov_node (fun _ h => h.2) HBk.out (fun k h => (HOl.out k h).2))
        obtain ⟨iA, ic, hiv, hic1, hic2⟩ := HIn.out.form
        unfold maxLen at hic2
        have hkl2 : k ≤ t.parts.length := by omega
        have hil2 : (davN wHref [textN t.href] :: (t.parts.take k).map partN).length = k + 1 := by rw [List.length_cons, List.length_map, List.length_take]; omega
        rw [hil2] at hiv hic1
        subst hiv
        have f0 := (HBk.out.cell (p := ⟨b, o + i * 2, none⟩) (show b < _ by have := HBw.out.size; have := HQw.out; omega)).trans d0
        have f1 := (HBk.out.cell (p := ⟨b, o + i * 2 + 1, none⟩) (show b < _ by have := HBw.out.size; have := HQw.out; omega)).trans d1
        rcases hd : t.parts.drop k with _ | ⟨p, rest2⟩
        · have hk2 : k = t.parts.length := by have := drop_nil hd; omega
          subst hk2
          rw [List.take_length] at HIn hil2
          have hbD := (Below.refl wr.heap.size wr).alloc (Nat.le_refl _) (.cells #[.string ⟨#[]⟩, .string ⟨#[68, 65, 86, 58]⟩, .string ⟨#[114, 101, 115, 112, 111, 110, 115, 101]⟩, .slice none 0 0, .slice iA (t.parts.length + 1) ic] 36 (0, 0))
          have ho3 := (HO2.out.under mov_node hbD).low (Q' := (· ≠ q)) mov_node (fun k h _ => h.1)
          have hi3 := (HIn.out.under mov_node hbD).low (Q' := fun k => k ≠ q ∧ some k ≠ (Value.slice rA i rc).ownBlock) mov_node (fun k h _ => ⟨h.1, fun e => by have := HOl.out k e.symm; have := h.2; omega⟩)
          have HY := Lib.hid (show NodeP (fun k => k ≠ q ∧ some k ≠ (Value.slice rA i rc).ownBlock) (wr.alloc (.cells #[.string ⟨#[]⟩, .string ⟨#[68, 65, 86, 58]⟩, .string ⟨#[114, 101, 115, 112, 111, 110, 115, 101]⟩, .slice none 0 0, .slice iA (t.parts.length + 1) ic] 36 (0, 0))) #[.string ⟨#[]⟩, .string ⟨#[68, 65, 86, 58]⟩, .string ⟨#[114, 101, 115, 112, 111, 110, 115, 101]⟩, .slice none 0 0, .slice iA (t.parts.length + 1) ic].toList (respN t) from dav_node (nm := wResp) (hi3.tabP mov_node fun k h => ⟨by omega, fun e => by have := HOl.out k e.symm; omega⟩))
          have HO3 := Lib.hid ho3
          have HKl := Lib.hid hkl
          have HBo := Lib.hid (HBr.out.trans ((HBk.out.trans (hbD.mono HBk.out.size)).mono HBr.out.size))
          clear hd d0 d1 hbD ho3 hi3 hkl hil2
          go_wp2_with fail
          go_at_call 41
          refine (mD_ex _ _ _ _ _).mono ?_
          rintro e w4 ⟨rfl, rfl⟩
          generalize wr.alloc (.cells #[.string ⟨#[]⟩, .string ⟨#[68, 65, 86, 58]⟩, .string ⟨#[114, 101, 115, 112, 111, 110, 115, 101]⟩, .slice none 0 0, .slice iA (t.parts.length + 1) ic] 36 (0, 0)) = wD at *
          have hsz : w1.heap.size ≤ wD.heap.size := HBo.out.size
          go_wp2_with (at_builtin; refine wpList_appG elemN mov_node rfl _ _ rfl rfl HO3.out _ (respN t) HY.out _ rfl rfl rfl (by simp [Value.oneCell']) (by rw [HKl.out]; omega) hsz ?_)
          intro v9 w9 hr9 hb9 hg9 hn9
          have HB9 := Lib.hid (HBo.out.trans hb9)
          have HR9 := Lib.hid (show RowG 36 5 NodeP (· ≠ q) w1.heap.size w9 v9 ((l.take (i + 1)).map respN) by rw [HTk.out, List.map_take]; exact hr9)
          clear hr9 hb9 hg9 hn9 HBo HO3 HY HKl HTk
          go_wp2
          go_roundg (l.length - (i + 1))
          case measure => omega
          case rel => exact ⟨i + 1, by omega, by go_num, HB9, HR9⟩
        · obtain ⟨hlt2, hx2, hr2⟩ := drop_consA hd
          obtain ⟨b2, o2, kA, kc, rfl, hbl2, g0, g1, hn⟩ := HPk2.out k p hx2
          have p0 := (HBw2.out.cell (p := ⟨b2, o2 + k * 2, none⟩) (by rw [HQw.out]; exact hbl2)).trans g0
          have p1 := (HBw2.out.cell (p := ⟨b2, o2 + k * 2 + 1, none⟩) (by rw [HQw.out]; exact hbl2)).trans g1
          have l1 : (k : Int) < t.parts.length := by omega
          have l2 : (0 : Int) ≤ k := by omega
          have hrs := HPr.out p (List.mem_of_getElem? hx2)
          have HTk2 := Lib.hid (show davN wHref [textN t.href] :: (t.parts.take (k + 1)).map partN = (davN wHref [textN t.href] :: (t.parts.take k).map partN) ++ [partN p] by rw [List.take_add_one, hx2]; simp)
          have HN2 := Lib.hid hn
          clear hd hx2 hr2 g0 g1 hn
          obtain ⟨st, props⟩ := p
          simp only at p0 p1 hrs HN2
          have hb7 := (Below.refl wr.heap.size wr).alloc (Nat.le_refl _) (.cells #[.int .i64 st, .slice kA props.length kc] 47 (0, 0))
          have HI7 := Lib.hid (HIn.out.under mov_node hb7)
          have HBk7 := Lib.hid (HBk.out.trans (hb7.mono HBk.out.size))
          have HP7 := Lib.hid (heap_alloc_new wr (.cells #[.int .i64 st, .slice kA props.length kc] 47 (0, 0)))
          clear hb7 HO2 HIn
          go_upto_region 10 with (fail)
          generalize wr.alloc (.cells #[.int .i64 st, .slice kA props.length kc] 47 (0, 0)) = w7 at *
          obtain ⟨qp, hqp⟩ : ∃ q, q = wr.heap.size := ⟨_, rfl⟩
          rw [← hqp] at HP7 ⊢
          clear hqp f0 f1 d0 d1 p0 p1
          have z0 : w7.cell? ⟨qp, 0, none⟩ = some (.int .i64 st) := xat HP7.out 0
          have z1 : w7.cell? ⟨qp, 1, none⟩ = some (.slice kA props.length kc) := xat HP7.out 1
          have HDg := Lib.hid (fun w2 => rdigits_code st w2 hrs)
          have HRn := Lib.hid (fun w2 => rreason_any st w2)
          have hpl : qp < w7.heap.size := xlt HP7.out
          have hst : statusS st = wVer ++ (Lib.itoa st ++ (32 :: reasonS st)) := rfl
          have HSt := Lib.hid hst
          obtain ⟨m1, m2, -, -⟩ := codes_small st (reason_codes hrs)
          have m3 : ¬ 9223372036854775807 < 9 + (Lib.itoa st).length := by omega
          have m4 : ¬ 9223372036854775807 < (Lib.itoa st).length + 1 + 1 + 1 + 1 + 1 + 1 + 1 + 1 + 1 + 1 := by omega
          have m5 : ¬ 9223372036854775807 < (Lib.itoa st).length + 1 + 1 + 1 + 1 + 1 + 1 + 1 + 1 + 1 + 1 + (reasonS st).length := by omega
          clear hrs hst
          have HPn := Lib.hid (show partN ⟨st, props⟩ = davN wStat [davN wProp props, davN wStatus [textN (statusS st)]] from rfl)
          generalize statusS st = ST at *
          generalize reasonS st = RS at *
          generalize Lib.itoa st = DG at *
          have HL := Lib.hid (show ((davN wHref [textN t.href] :: (t.parts.take k).map partN).length + 1) * 96 ≤ 140737488355328 by rw [hil2]; omega)
          have hM7 : W0.heap.size ≤ w7.heap.size := HBk7.out.size
          have HW7 := Lib.hid (show Below w.heap.size w w7 by rw [← HQw.out]; exact HBw.out.trans (HBk7.out.mono (by have := HBw.out.size; have := HQw.out; omega)))
          have HYA := Lib.hid (fun (w8 w9 : World) (b9 : Nat) (hb8 : Below w7.heap.size w7 w8) (hb9 : Below w8.heap.size w8 w9) (hl9 : w8.heap.size ≤ b9) (h9 : w9.heap[b9]? = some (.cells #[.string ⟨ST.toArray⟩, .string ⟨#[]⟩, .string ⟨#[]⟩, .slice none 0 0, .slice none 0 0] 36 (0, 0))) =>
            (show RowG 36 5 NodeP (fun k => k ≠ q ∧ (k < w1.heap.size ∨ W0.heap.size ≤ k)) W0.heap.size ((w9.alloc (.cells #[.string ⟨#[]⟩, .string ⟨#[68, 65, 86, 58]⟩, .string ⟨#[112, 114, 111, 112]⟩, .slice none 0 0, .slice kA props.length kc, .string ⟨#[]⟩, .string ⟨#[68, 65, 86, 58]⟩, .string ⟨#[115, 116, 97, 116, 117, 115]⟩, .slice none 0 0, .slice (some ⟨b9, 0, none⟩) 1 1] 36 (0, 0))).alloc (.cells #[.string ⟨#[]⟩, .string ⟨#[68, 65, 86, 58]⟩, .string ⟨#[112, 114, 111, 112, 115, 116, 97, 116]⟩, .slice none 0 0, .slice (some ⟨w9.heap.size, 0, none⟩) 2 2] 36 (0, 0))) (.slice iA (k + 1) ic) (davN wHref [textN t.href] :: (t.parts.take k).map partN) ∧ NodeP (fun c => (c ≠ q ∧ (c < w1.heap.size ∨ W0.heap.size ≤ c)) ∧ some c ≠ (Value.slice iA (k + 1) ic).ownBlock) ((w9.alloc (.cells #[.string ⟨#[]⟩, .string ⟨#[68, 65, 86, 58]⟩, .string ⟨#[112, 114, 111, 112]⟩, .slice none 0 0, .slice kA props.length kc, .string ⟨#[]⟩, .string ⟨#[68, 65, 86, 58]⟩, .string ⟨#[115, 116, 97, 116, 117, 115]⟩, .slice none 0 0, .slice (some ⟨b9, 0, none⟩) 1 1] 36 (0, 0))).alloc (.cells #[.string ⟨#[]⟩, .string ⟨#[68, 65, 86, 58]⟩, .string ⟨#[112, 114, 111, 112, 115, 116, 97, 116]⟩, .slice none 0 0, .slice (some ⟨w9.heap.size, 0, none⟩) 2 2] 36 (0, 0))) #[.string ⟨#[]⟩, .string ⟨#[68, 65, 86, 58]⟩, .string ⟨#[112, 114, 111, 112, 115, 116, 97, 116]⟩, .slice none 0 0, .slice (some ⟨w9.heap.size, 0, none⟩) 2 2].toList (davN wStat [davN wProp props, davN wStatus [textN ST]]) ∧ Below w7.heap.size w7 ((w9.alloc (.cells #[.string ⟨#[]⟩, .string ⟨#[68, 65, 86, 58]⟩, .string ⟨#[112, 114, 111, 112]⟩, .slice none 0 0, .slice kA props.length kc, .string ⟨#[]⟩, .string ⟨#[68, 65, 86, 58]⟩, .string ⟨#[115, 116, 97, 116, 117, 115]⟩, .slice none 0 0, .slice (some ⟨b9, 0, none⟩) 1 1] 36 (0, 0))).alloc (.cells #[.string ⟨#[]⟩, .string ⟨#[68, 65, 86, 58]⟩, .string ⟨#[112, 114, 111, 112, 115, 116, 97, 116]⟩, .slice none 0 0, .slice (some ⟨w9.heap.size, 0, none⟩) 2 2] 36 (0, 0))) from by
              have hb79 := hb8.trans (hb9.mono hb8.size)
              have ha := allocs_below [(.cells #[.string ⟨#[]⟩, .string ⟨#[68, 65, 86, 58]⟩, .string ⟨#[112, 114, 111, 112]⟩, .slice none 0 0, .slice kA props.length kc, .string ⟨#[]⟩, .string ⟨#[68, 65, 86, 58]⟩, .string ⟨#[115, 116, 97, 116, 117, 115]⟩, .slice none 0 0, .slice (some ⟨b9, 0, none⟩) 1 1] 36 (0, 0)), (.cells #[.string ⟨#[]⟩, .string ⟨#[68, 65, 86, 58]⟩, .string ⟨#[112, 114, 111, 112, 115, 116, 97, 116]⟩, .slice none 0 0, .slice (some ⟨w9.heap.size, 0, none⟩) 2 2] 36 (0, 0))] w9
              have h2 := allocs_at [(.cells #[.string ⟨#[]⟩, .string ⟨#[68, 65, 86, 58]⟩, .string ⟨#[112, 114, 111, 112]⟩, .slice none 0 0, .slice kA props.length kc, .string ⟨#[]⟩, .string ⟨#[68, 65, 86, 58]⟩, .string ⟨#[115, 116, 97, 116, 117, 115]⟩, .slice none 0 0, .slice (some ⟨b9, 0, none⟩) 1 1] 36 (0, 0)), (.cells #[.string ⟨#[]⟩, .string ⟨#[68, 65, 86, 58]⟩, .string ⟨#[112, 114, 111, 112, 115, 116, 97, 116]⟩, .slice none 0 0, .slice (some ⟨w9.heap.size, 0, none⟩) 2 2] 36 (0, 0))] w9 0 _ rfl
              have hbw := hb79.trans (ha.mono hb79.size)
              have hl := xlt h9
              have hs7 := hb79.size
              have hs8 := hb8.size
              have hs0 := HW7.out.size
              have hQ := HQw.out
              refine ⟨HI7.out.under mov_node hbw, part_node HN2.out (fun c _ hc => ⟨⟨⟨by omega, .inl (by omega)⟩, fun e => by have := (HI7.out.lt c e.symm).1; have := HBw.out.size; omega⟩, (hbw.block c (by omega)).trans (HW7.out.block c hc)⟩) (Nat.le_trans hs0 hbw.size) ((ha.block b9 hl).trans h9) h2 ⟨⟨by omega, .inr (by omega)⟩, fun e => by have := (HI7.out.lt b9 e.symm).2; omega⟩ ⟨⟨by omega, .inr (by omega)⟩, fun e => by have := (HI7.out.lt _ e.symm).2; omega⟩, hbw⟩))
          have HD1 := Lib.hid (below_draws ((Below.refl w7.heap.size w7).alloc (Nat.le_refl _) (.cells #[.string ⟨#[]⟩, .string ⟨#[68, 65, 86, 58]⟩, .string ⟨#[112, 114, 111, 112]⟩, .slice none 0 0, .slice kA props.length kc] 36 (0, 0))) 1)
          go_region_law
            (first
              | (go_simp; go_at_call 41; refine (mD_ex _ _ _ _ _).mono ?_; rintro e w4 ⟨rfl, rfl⟩)
              | (go_simp; go_at_call 42; refine (HDg.out _).mono ?_; rintro e w8 ⟨rfl, hb8'⟩; have hb8 := HD1.out.trans (hb8'.mono HD1.out.size); clear hb8'; have y0 : w8.cell? ⟨qp, 0, none⟩ = some (.int .i64 st) := (hb8.cell (p := ⟨qp, 0, none⟩) hpl).trans z0)
              | (go_simp; go_at_call 37; refine (HRn.out _).mono ?_; rintro e w9 ⟨rfl, rfl⟩)
              | (go_simp; go_at_call 40; refine (mT_ex _ _ _).mono ?_; rintro e w9 ⟨hb9, b9, hb9l, rfl, h9'⟩; have h9 : w9.heap[b9]? = some (.cells #[.string ⟨ST.toArray⟩, .string ⟨#[]⟩, .string ⟨#[]⟩, .slice none 0 0, .slice none 0 0] 36 (0, 0)) := (by rw [HSt.out]; exact h9'); clear h9'; obtain ⟨hga, hya, hbz⟩ := HYA.out w8 w9 b9 hb8 hb9 hb9l h9)
              | (refine step_appG elemN mov_node rfl (.tmp 39) (.tmp 55) rfl (by rfl) hga #[.string ⟨#[]⟩, .string ⟨#[68, 65, 86, 58]⟩, .string ⟨#[112, 114, 111, 112, 115, 116, 97, 116]⟩, .slice none 0 0, .slice (some ⟨w9.heap.size, 0, none⟩) 2 2] (davN wStat [davN wProp props, davN wStatus [textN ST]]) hya (w9.heap.size + 1 + 1) (by simp) (by rfl) rfl (by simp [Value.oneCell']) HL.out (Nat.le_trans hM7 hbz.size) ?_; intro v9 wA hr9 hbA hg9 hn9))
          all_goals
            have HB9 := Lib.hid (HBk7.out.trans ((hbz.mono hM7).trans hbA))
            have HR9 := Lib.hid (show RowG 36 5 NodeP (fun k => k ≠ q ∧ (k < w1.heap.size ∨ W0.heap.size ≤ k)) W0.heap.size wA v9 (davN wHref [textN t.href] :: (t.parts.take (k + 1)).map partN) by rw [HTk2.out, HPn.out]; exact hr9)
            clear hr9 hbA hg9 hn9 hga hya hbz h9 hb9 hb9l hb8 y0 z0 z1 HYA HDg HRn HD1 HL HI7 HP7 HN2
            go_wp2
            go_roundg (gk - 1)
            case measure => omega
            case rel => exact ⟨k + 1, by omega, by go_num, HB9, HR9⟩
end Go.Proofs.YtcamdnfhnianbaaGreatDoor
