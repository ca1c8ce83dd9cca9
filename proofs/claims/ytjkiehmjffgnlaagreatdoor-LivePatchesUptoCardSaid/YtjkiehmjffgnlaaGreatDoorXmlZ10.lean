import Derived.Test.YtjkiehmjffgnlaaGreatDoorXmlZ9
import Derived.Lib.SliceRun
import Derived.Test.YtjkiehmjffgnlaaGreatDoorXmlZ6
import Derived.Test.YtjkiehmjffgnlaaGreatDoorXmlZ4
import Derived.Test.YtjkiehmjffgnlaaGreatDoorXmlZ8
import Derived.Deep.RegionHeld3
import Derived.Deep.DeepCutAuto
namespace Go.Proofs.YtjkiehmjffgnlaaGreatDoor
set_option linter.unusedVariables false
set_option linter.unusedSimpArgs false
open Go.RowKit

/-- a built replacer of bytes. -/
def FB (b B0 : Nat) (w w2 : World) : Prop := Below B0 w w2 ∧ ∃ g, w2.cell? ⟨b, 3, none⟩ = some (.iface 229 (.pointer (some ⟨g, 0, none⟩))) ∧ g ≠ b ∧ BW w2 g ((tabL 256).map flatC)
theorem BW.other {w : World} {g : Nat} {l : List UInt8} (h : BW w g l) {b k : Nat} (v : Value) (hne : g ≠ b) : BW (w.setCell ⟨b, k, none⟩ v) g l := by
  refine ⟨by rw [show (w.setCell ⟨b, k, none⟩ v).heap.size = w.heap.size by simp]; exact h.1, fun j c hj => ?_⟩
  rw [World.frozen?_setCell, World.cell?_setCell_other _ _ _ _ (by intro e; injection e with e; exact hne e.symm)]
  exact h.2 j c hj
set_option maxHeartbeats 1600000 in
set_option maxRecDepth 100000 in
set_option linter.unusedSimpArgs false in
theorem xbuildOnce (b q cap B0 : Nat) (w : World) (p0 p1 p2 p3 : List UInt8) (l0 : p0.length = 1) (l1 : p1.length = 1) (l2 : p2.length = 1) (l3 : p3.length = 1) (x0 : ∀ hk, (⟨p0.toArray⟩ : ByteArray)[0]'hk = 9) (x1 : ∀ hk, (⟨p1.toArray⟩ : ByteArray)[0]'hk = 32) (x2 : ∀ hk, (⟨p2.toArray⟩ : ByteArray)[0]'hk = 10) (x3 : ∀ hk, (⟨p3.toArray⟩ : ByteArray)[0]'hk = 32)
    (hB : B0 ≤ b) (hs : w.cell? ⟨b, 4, none⟩ = some (.slice (some ⟨q, 0, none⟩) 4 cap)) (hcap : 4 ≤ cap ∧ cap ≤ maxLen)
    (c0 : w.cell? ⟨q, 0, none⟩ = some (.string ⟨p0.toArray⟩)) (c1 : w.cell? ⟨q, 1, none⟩ = some (.string ⟨p1.toArray⟩)) (c2 : w.cell? ⟨q, 2, none⟩ = some (.string ⟨p2.toArray⟩)) (c3 : w.cell? ⟨q, 3, none⟩ = some (.string ⟨p3.toArray⟩))
    (d0 : w.cell? ⟨b, 0, none⟩ = some (.int .u32 0)) (d1 : w.cell? ⟨b, 1, none⟩ = some (.int .i32 1)) (x : Value) (d3 : w.cell? ⟨b, 3, none⟩ = some x) (f : ∀ k, w.frozen? ⟨b, k, none⟩ = false) :
    Calls Tryz.prog 120 #[.pointer (some ⟨b, 0, none⟩)] w (OnceF b (FB b B0 w)) := by
  have HBu := Lib.hid (xbuild_bytes b q cap w p0 p1 p2 p3 l0 l1 l2 l3 x0 x1 x2 x3 hs hcap c0 c1 c2 c3)
  have hlt : b < w.heap.size := cell_lt hs
  obtain ⟨E, hEE⟩ : ∃ E, E = OnceF b (FB b B0 w) := ⟨_, rfl⟩
  rw [← hEE]
  have HEE := Lib.hid hEE
  clear hEE c0 c1 c2 c3 x0 x1 x2 x3 l0 l1 l2 l3
  go_enter Tryz.func120, Tryz.ntmps120
  go_wp2_with fail
  refine HBu.out.mono ?_
  rintro e wb ⟨g, rfl, hg, hb, hbw⟩
  have hne : g ≠ b := by omega
  have HC := Lib.hid (fun k => hb.cell (p := ⟨b, k, none⟩) hlt)
  have HF := Lib.hid (fun k => (hb.frozen (p := ⟨b, k, none⟩) hlt).trans (f k))
  have e3 := (HC.out 3).trans d3
  have f3 := HF.out 3
  have e4 := (HC.out 4).trans hs
  have f4 := HF.out 4
  have HBelow := Lib.hid (show ∀ u v, Below B0 w ((wb.setCell ⟨b, 3, none⟩ u).setCell ⟨b, 4, none⟩ v) from fun u v => ((hb.mono (by omega)).setCell hB u).setCell hB v)
  have HBW := Lib.hid (fun u v => (hbw.other (b := b) (k := 3) u hne).other (b := b) (k := 4) v hne)
  have HE0 := Lib.hid ((HC.out 0).trans d0)
  have HE1 := Lib.hid ((HC.out 1).trans d1)
  clear hs d0 d1 d3 f HBu hb hbw
  go_wp2
  go_end0
  rw [HEE.out]
  refine ⟨rfl, ?_, ?_, ?_, ?_, HBelow.out _ _, g, ?_, hne, HBW.out _ _⟩
  · rw [World.cell?_setCell_other _ _ _ _ (by simp), World.cell?_setCell_other _ _ _ _ (by simp)]; exact HE0.out
  · rw [World.cell?_setCell_other _ _ _ _ (by simp), World.cell?_setCell_other _ _ _ _ (by simp)]; exact HE1.out
  · rw [World.frozen?_setCell, World.frozen?_setCell]; exact HF.out 0
  · rw [World.frozen?_setCell, World.frozen?_setCell]; exact HF.out 1
  · rw [World.cell?_setCell_other _ _ _ _ (by simp)]; exact World.cell?_setCell_same _ _ _ e3
end Go.Proofs.YtjkiehmjffgnlaaGreatDoor
namespace Go.Proofs.YtjkiehmjffgnlaaGreatDoor
set_option linter.unusedVariables false
set_option linter.unusedSimpArgs false
open Go.RowKit

theorem fl_take {s q : List UInt8} {x : UInt8} {k : Nat} (hd : s.drop k = x :: q) : k < s.length ∧ s.take (k + 1) = s.take k ++ [x] := by
  have hk : k < s.length := by
    have := congrArg List.length hd
    rw [List.length_drop, List.length_cons] at this
    omega
  refine ⟨hk, ?_⟩
  have hx : s[k]? = some x := by have := congrArg (fun l => l[0]?) hd; simpa using this
  rw [List.take_add_one, hx]
  rfl
theorem fl_next {s q : List UInt8} {x : UInt8} {k : Nat} (hd : s.drop k = x :: q) : ((s.take k).map flatC ++ s.drop k).set k (flatC x) = (s.take (k + 1)).map flatC ++ q := by
  obtain ⟨hk, ht⟩ := fl_take hd
  have hl : ((s.take k).map flatC).length = k := by rw [List.length_map, List.length_take]; omega
  rw [hd, List.set_append_right _ _ (by omega), hl, Nat.sub_self, ht, List.map_append, List.append_assoc]
  rfl
theorem fl_at {s q : List UInt8} {x : UInt8} {k : Nat} (hd : s.drop k = x :: q) : ((s.take k).map flatC ++ s.drop k)[k]? = some x ∧ k < ((s.take k).map flatC ++ s.drop k).length := by
  obtain ⟨hk, -⟩ := fl_take hd
  have hl : ((s.take k).map flatC).length = k := by rw [List.length_map, List.length_take]; omega
  refine ⟨?_, by rw [List.length_append, hl, List.length_drop]; omega⟩
  rw [List.getElem?_append_right (by omega), hl, Nat.sub_self, hd]
  rfl
theorem set_idX {l : List UInt8} {k : Nat} {x : UInt8} (h : l[k]? = some x) : l.set k x = l := by
  apply List.ext_getElem?
  intro j
  rw [List.getElem?_set]
  by_cases e : k = j
  · subst e
    obtain ⟨hk, hx⟩ := List.getElem?_eq_some_iff.1 h
    simp [hk, hx]
  · simp [e]
theorem flat_at (c : UInt8) : ((tabL 256).map flatC)[c.toNat]? = some (flatC c) := by rw [List.getElem?_map, tabL_at]; rfl
set_option maxHeartbeats 4000000 in
set_option maxRecDepth 100000 in
set_option linter.unusedSimpArgs false in
theorem xbrep_any (g : Nat) (s : List UInt8) (w : World) (hg : BW w g ((tabL 256).map flatC)) (hs : s.length ≤ 1000000000) :
    Calls Tryz.prog 222 #[.pointer (some ⟨g, 0, none⟩), .string ⟨s.toArray⟩] w (Ret (.string ⟨(s.map flatC).toArray⟩) w) := by
  obtain ⟨E, hEE⟩ : ∃ E, E = Ret (.string ⟨(s.map flatC).toArray⟩) w := ⟨_, rfl⟩
  rw [← hEE]
  have HEE := Lib.hid hEE
  have HG := Lib.hid hg
  clear hEE hg
  have hs2 : s.length ≤ maxLen := by unfold maxLen; omega
  have hn1 : ∀ w : World, (binOp .eql 116 (.slice none 0 0) (.slice none 0 0)).run Tryz.prog w = .ok (.bool true) w := fun w => Lib.run_eql_slice_nil w 116 _ none 0 0 0 0 Tryz.underlying116
  have hn2 : ∀ (q n cap : Nat) (w : World), (binOp .eql 116 (.slice (some ⟨q, 0, none⟩) n cap) (.slice none 0 0)).run Tryz.prog w = .ok (.bool false) w := fun q n cap w => Lib.run_eql_slice_nil w 116 _ (some ⟨q, 0, none⟩) n cap 0 0 Tryz.underlying116
  go_enter Tryz.func222, Tryz.ntmps222
  go_wp2
  go_loopw [5, 6] (fun buf i wr => ∃ k : Nat, k ≤ s.length ∧ i = .int .i64 k ∧ ((buf = .slice none 0 0 ∧ Hid ((s.take k).map flatC = s.take k)) ∨ (∃ q cap, buf = .slice (some ⟨q, 0, none⟩) s.length cap ∧ s.length ≤ cap ∧ cap ≤ maxLen ∧ w.heap.size ≤ q ∧ Hid (BW wr q ((s.take k).map flatC ++ s.drop k)))) ∧ Below w.heap.size w wr) (fun _ i _ => s.length - (intOf i).toNat)
  case atStart => exact ⟨0, Nat.zero_le _, rfl, .inl ⟨rfl, Lib.hid (by simp)⟩, Below.refl _ _⟩
  case round =>
    obtain ⟨k, hk, rfl, hbuf, hbr⟩ := hrel
    rcases hd : s.drop k with _ | ⟨x, r⟩
    · have hk2 : k = s.length := by have := drop_nil hd; omega
      subst hk2
      clear hd
      rcases hbuf with ⟨rfl, hm⟩ | ⟨q, cap, rfl, hc1, hc2, hq, hbw⟩
      · go_wp2
        rw [HEE.out]
        have := hm.out
        rw [List.take_length] at this
        rw [this]
        exact ⟨rfl, hbr⟩
      · have hbw2 := hbw.out
        rw [List.drop_length, List.append_nil, List.take_length] at hbw2
        have hcv := conv_bytes wr (.slice (some ⟨q, 0, none⟩) s.length cap) (s.map flatC) (by have := hbw2.rd cap (by rw [List.length_map]; exact hc1) hc2; rwa [List.length_map] at this)
        clear hbw2
        go_wp2
        rw [HEE.out]
        exact ⟨rfl, hbr⟩
    · obtain ⟨hlt, hx, hr⟩ := drop_cons hd
      obtain ⟨-, htk⟩ := fl_take hd
      have hki : (k : Int) < s.length := by omega
      have hglt := HG.out.1
      have hx256 : x.toNat < 256 := x.toNat_lt
      have hcell := (hbr.cell (p := ⟨g, x.toNat, none⟩) hglt).trans (HG.out.2 x.toNat _ (flat_at x)).1
      have HD := Lib.hid hd
      have HT := Lib.hid htk
      have HR := Lib.hid hr
      clear hd htk hr
      by_cases hf : flatC x = x
      · rw [hf] at hcell
        have HF := Lib.hid hf
        clear hf
        rcases hbuf with ⟨rfl, hm⟩ | ⟨q, cap, rfl, hc1, hc2, hq, hbw⟩
        · go_wp2
          go_roundw
          case rel => exact ⟨k + 1, by omega, by go_num, .inl ⟨rfl, Lib.hid (by rw [HT.out, List.map_append, hm.out]; simp [HF.out])⟩, hbr⟩
          case measure => simp [intOf]; omega
        · have H2 := Lib.hid (show BW wr q ((s.take (k + 1)).map flatC ++ s.drop (k + 1)) by
            have h := fl_next HD.out
            rw [HF.out] at h
            rw [HR.out, ← h]
            have ha := (fl_at HD.out).1
            rw [set_idX ha]
            exact hbw.out)
          clear hbw
          go_wp2
          go_roundw
          case rel => exact ⟨k + 1, by omega, by go_num, .inr ⟨q, cap, rfl, hc1, hc2, hq, H2⟩, hbr⟩
          case measure => simp [intOf]; omega
      · have hne : ¬ ((flatC x).toNat : Int) = (x.toNat : Int) := fun e => hf (UInt8.toNat_inj.1 (by omega))
        have b1 : (((flatC x).toNat : Int) != (x.toNat : Int)) = true := by simp only [bne_iff_ne, ne_eq]; exact hne
        clear hf
        rcases hbuf with ⟨rfl, hm⟩ | ⟨q, cap, rfl, hc1, hc2, hq, hbw⟩
        · have hcv := conv_string wr s
          have hbb := bytes_below wr s
          have hbw0 := bytes_bw wr s
          have hc1 := grownCap_ge wr s.length 0 5
          have hc2 := grownCap_le_maxLen wr s.length 0 5 hs2
          generalize grownCap wr s.length 0 5 = cap at *
          generalize Lib.bytesWorld wr 5 ⟨s.toArray⟩ = wb at *
          have hsp : s = (s.take k).map flatC ++ s.drop k := by rw [hm.out, List.take_append_drop]
          have hbw : BW wb wr.heap.size ((s.take k).map flatC ++ s.drop k) := by rw [← hsp]; exact hbw0
          obtain ⟨hat, hal⟩ := fl_at HD.out
          obtain ⟨hc, hz⟩ := hbw.2 k x hat
          have H2 := Lib.hid (hbw.set k (flatC x) hal)
          rw [fl_next HD.out] at H2
          rw [← HR.out] at H2
          have hsz := hbr.size
          have hcell2 := (hbb.cell (p := ⟨g, x.toNat, none⟩) (show g < wr.heap.size by omega)).trans hcell
          have HB2 := Lib.hid (hbr.trans (hbb.mono hbr.size))
          clear hat hal hbw hbw0 hsp hbb
          go_wp2
          go_roundw
          case rel => exact ⟨k + 1, by omega, by go_num, .inr ⟨_, cap, rfl, by omega, hc2, hsz, H2⟩, HB2.out.setCell hsz _⟩
          case measure => simp [intOf]; omega
        · obtain ⟨hat, hal⟩ := fl_at HD.out
          obtain ⟨hc, hz⟩ := hbw.out.2 k x hat
          have H2 := Lib.hid (hbw.out.set k (flatC x) hal)
          rw [fl_next HD.out] at H2
          rw [← HR.out] at H2
          clear hat hal hbw
          go_wp2
          go_roundw
          case rel => exact ⟨k + 1, by omega, by go_num, .inr ⟨q, cap, rfl, hc1, hc2, hq, H2⟩, hbr.setCell hq _⟩
          case measure => simp [intOf]; omega
end Go.Proofs.YtjkiehmjffgnlaaGreatDoor
namespace Go.Proofs.YtjkiehmjffgnlaaGreatDoor
set_option linter.unusedVariables false
set_option linter.unusedSimpArgs false
open Go.RowKit

theorem own_form {e : TypeId} {B : Nat} {xs : List Value} {v : Value} {w : World} (h : Own e B xs v w) (hne : 0 < xs.length) : ∃ q cap, v = .slice (some ⟨q, 0, none⟩) xs.length cap ∧ B ≤ q ∧ q < w.heap.size ∧ xs.length ≤ cap ∧ cap ≤ maxLen ∧ ∀ j u, xs[j]? = some u → w.cell? ⟨q, j, none⟩ = some u := by
  have hlt := World.ownsRow.lt h
  rcases h.2 with ⟨hv, h0⟩ | ⟨g, cap, cur, hv, hb, hg, hn, hm, hs, ht⟩
  · omega
  · refine ⟨g, cap, hv, hb, (hlt g (by rw [hv]; rfl)).2, hn, hm, fun j u hj => ?_⟩
    have hj2 := (List.getElem?_eq_some_iff.1 hj).1
    rw [xat hg, ← hj, ← ht, List.getElem?_take, if_pos (by omega), Array.getElem?_toList]
def NewR (ps : List Value) (w : World) (e : Ending) (w' : World) : Prop := ∃ b q cap, e = .returned (.pointer (some ⟨b, 0, none⟩)) ∧ w.heap.size ≤ b ∧ Below w.heap.size w w' ∧
  w'.heap[b]? = some (.cells #[.int .u32 0, .int .i32 0, .int .u32 0, .nilIface, .slice (some ⟨q, 0, none⟩) 4 cap] 163 (0, 0)) ∧ 4 ≤ cap ∧ cap ≤ maxLen ∧ q ≠ b ∧ ∀ j u, ps[j]? = some u → w'.cell? ⟨q, j, none⟩ = some u
set_option maxHeartbeats 1600000 in
set_option maxRecDepth 100000 in
set_option linter.unusedSimpArgs false in
theorem xnewR (A : Option Addr) (c : Nat) (ps : List Value) (w : World) (hps : ps.length = 4) (h1 : ∀ u ∈ ps, u.oneCell' = true) (hr : RdL w (.slice A 4 c) ps) :
    Calls Tryz.prog 66 #[.slice A 4 c] w (NewR ps w) := by
  obtain ⟨E, hEE⟩ : ∃ E, E = NewR ps w := ⟨_, rfl⟩
  rw [← hEE]
  have HEE := Lib.hid hEE
  have HR := Lib.hid hr
  have HBD := Lib.hid (show (([] : List Value).length + ps.length) * 16 ≤ 140737488355328 by rw [hps]; decide)
  have HP := Lib.hid hps
  clear hEE hr hps
  go_enter Tryz.func66, Tryz.ntmps66
  go_wp2_with (at_builtin; go_must (refine wpList_app elemS rfl (.const (.slice none 0 0)) (.tmp 8) rfl w.heap.size [] ps _ _ rfl (Own.nil _ _ _) rfl HR.out h1 HBD.out (Nat.le_refl _) ?_); intro v' w' ho hb hg; obtain ⟨q, cap, hv, hq, hqlt, hc1, hc2, hcell⟩ := own_form ho (by rw [List.nil_append, HP.out]; decide); rw [List.nil_append, HP.out] at hv hc1; subst hv)
  rw [HEE.out]
  refine ⟨w'.heap.size, q, cap, rfl, hb.size, hb.alloc hb.size _, heap_alloc_new _ _, hc1, hc2, by omega, fun j u hj => cell_alloc (hcell j u (by simpa using hj)) _⟩
set_option maxHeartbeats 1600000 in
set_option maxRecDepth 100000 in
set_option linter.unusedSimpArgs false in
theorem xreplV (b q cap B0 : Nat) (s : List UInt8) (w : World) (p0 p1 p2 p3 : List UInt8) (l0 : p0.length = 1) (l1 : p1.length = 1) (l2 : p2.length = 1) (l3 : p3.length = 1) (x0 : ∀ hk, (⟨p0.toArray⟩ : ByteArray)[0]'hk = 9) (x1 : ∀ hk, (⟨p1.toArray⟩ : ByteArray)[0]'hk = 32) (x2 : ∀ hk, (⟨p2.toArray⟩ : ByteArray)[0]'hk = 10) (x3 : ∀ hk, (⟨p3.toArray⟩ : ByteArray)[0]'hk = 32)
    (hB : B0 ≤ b) (hs : s.length ≤ 1000000000) (hbox : w.heap[b]? = some (.cells #[.int .u32 0, .int .i32 0, .int .u32 0, .nilIface, .slice (some ⟨q, 0, none⟩) 4 cap] 163 (0, 0))) (hcap : 4 ≤ cap ∧ cap ≤ maxLen) (hqb : q ≠ b)
    (c0 : w.cell? ⟨q, 0, none⟩ = some (.string ⟨p0.toArray⟩)) (c1 : w.cell? ⟨q, 1, none⟩ = some (.string ⟨p1.toArray⟩)) (c2 : w.cell? ⟨q, 2, none⟩ = some (.string ⟨p2.toArray⟩)) (c3 : w.cell? ⟨q, 3, none⟩ = some (.string ⟨p3.toArray⟩)) :
    Calls Tryz.prog 94 #[.pointer (some ⟨b, 0, none⟩), .string ⟨s.toArray⟩] w (fun e w' => e = .returned (.string ⟨(s.map flatC).toArray⟩) ∧ Below B0 w w') := by
  have hd : ∀ k, w.cell? ⟨b, k, none⟩ = (#[.int .u32 0, .int .i32 0, .int .u32 0, .nilIface, .slice (some ⟨q, 0, none⟩) 4 cap] : Array Value)[k]? := xat hbox
  have hz : ∀ k, w.frozen? ⟨b, k, none⟩ = false := xfree hbox
  have hoth : ∀ (v : Value) (j : Nat), (w.setCell ⟨b, 1, none⟩ v).cell? ⟨q, j, none⟩ = w.cell? ⟨q, j, none⟩ := fun v j => World.cell?_setCell_other _ _ _ _ (by intro e; injection e with e; exact hqb e.symm)
  have hob : ∀ (v : Value) (j : Nat), j ≠ 1 → (w.setCell ⟨b, 1, none⟩ v).cell? ⟨b, j, none⟩ = w.cell? ⟨b, j, none⟩ := fun v j hj => World.cell?_setCell_other _ _ _ _ (by intro e; injection e with _ e _; exact hj e.symm)
  have HF := Lib.hid (xbuildOnce b q cap B0 (w.setCell ⟨b, 1, none⟩ (.int .i32 1)) p0 p1 p2 p3 l0 l1 l2 l3 x0 x1 x2 x3 hB ((hob _ 4 (by decide)).trans (hd 4)) hcap ((hoth _ 0).trans c0) ((hoth _ 1).trans c1) ((hoth _ 2).trans c2) ((hoth _ 3).trans c3)
    ((hob _ 0 (by decide)).trans (hd 0)) (World.cell?_setCell_same _ _ _ (hd 1)) .nilIface ((hob _ 3 (by decide)).trans (hd 3)) (fun k => by rw [World.frozen?_setCell]; exact hz k))
  have HO := Lib.hid (once_do b _ w (hd 0) (hd 1) (hz 0) (hz 1) HF)
  have HW1 := Lib.hid ((Below.refl B0 w).setCell (p := ⟨b, 1, none⟩) hB (.int .i32 1))
  have hmf : ∀ (fn : Fn) (first cap : Array Value) (w : World), (Instr.makeFunc fn first cap).run Tryz.prog w = .ok (.func fn first cap) w := fun _ _ _ _ => rfl
  clear hd hz hoth hob HF x0 x1 x2 x3 l0 l1 l2 l3 c0 c1 c2 c3 hbox
  obtain ⟨E, hEE⟩ : ∃ E : Ending → World → Prop, E = (fun e w' => e = .returned (.string ⟨(s.map flatC).toArray⟩) ∧ Below B0 w w') := ⟨_, rfl⟩
  rw [← hEE]
  have HEE := Lib.hid hEE
  clear hEE
  go_enter Tryz.func94, Tryz.ntmps94
  go_wp2_with fail
  refine HO.out.mono ?_
  rintro e w1 ⟨rfl, w2, ⟨hb2, g, hc3, hg, hbw⟩, rfl⟩
  have d3 : ((w2.drew.setCell ⟨b, 0, none⟩ (.int .u32 1)).setCell ⟨b, 1, none⟩ (.int .i32 0)).cell? ⟨b, 3, none⟩ = some (.iface 229 (.pointer (some ⟨g, 0, none⟩))) := by
    rw [World.cell?_setCell_other _ _ _ _ (by simp), World.cell?_setCell_other _ _ _ _ (by simp), World.cell?_drew]
    exact hc3
  have hbw3 : BW ((w2.drew.setCell ⟨b, 0, none⟩ (.int .u32 1)).setCell ⟨b, 1, none⟩ (.int .i32 0)) g ((tabL 256).map flatC) := ((show BW w2.drew g ((tabL 256).map flatC) from hbw).other _ hg).other _ hg
  have hbl : Below B0 w ((w2.drew.setCell ⟨b, 0, none⟩ (.int .u32 1)).setCell ⟨b, 1, none⟩ (.int .i32 0)) := ((HW1.out.trans hb2).drew.setCell hB _).setCell hB _
  have hsz : B0 ≤ ((w2.drew.setCell ⟨b, 0, none⟩ (.int .u32 1)).setCell ⟨b, 1, none⟩ (.int .i32 0)).heap.size := by
    have := cell_lt d3
    have : b < _ := this
    omega
  generalize (w2.drew.setCell ⟨b, 0, none⟩ (.int .u32 1)).setCell ⟨b, 1, none⟩ (.int .i32 0) = w3 at *
  have HRp := Lib.hid (xbrep_any g s w3 hbw3 hs)
  have HBl := Lib.hid hbl
  clear hb2 hc3 hbw hbw3 hbl HO HW1
  go_wp2_with fail
  refine HRp.out.mono ?_
  rintro e w4 ⟨rfl, hb4⟩
  have HB4 := Lib.hid (HBl.out.trans (hb4.mono hsz))
  clear hb4
  go_wp2
  rw [HEE.out]
  exact ⟨rfl, HB4.out⟩
end Go.Proofs.YtjkiehmjffgnlaaGreatDoor
namespace Go.Proofs.YtjkiehmjffgnlaaGreatDoor
set_option linter.unusedVariables false
set_option linter.unusedSimpArgs false

theorem valIn_fuel : ∀ (f g : Nat) (out s : List UInt8), s.length < f → s.length < g → valIn f out s = valIn g out s
  | 0, _, _, _, h, _ => absurd h (Nat.not_lt_zero _)
  | _, 0, _, _, _, h => absurd h (Nat.not_lt_zero _)
  | f + 1, g + 1, out, s, hf, hg => by
    unfold valIn
    split
    · rfl
    · split
      · rfl
      · rename_i c q hd
        split
        · split
          · rfl
          · rename_i t r hr
            have h1 := (refX_ok hr).1
            have h2 := (List.dropWhile_suffix (l := s) (fun c => !stopC c)).length_le
            rw [hd, List.length_cons] at h2
            exact valIn_fuel f g _ r (by omega) (by omega)
        · rfl
def valS (out s : List UInt8) : Option (List UInt8) := valIn (s.length + 1) out s
theorem valS_eq (out s : List UInt8) : valS out s = if s = [] then some out else
      match s.dropWhile (fun c => !stopC c) with
      | [] => some (out ++ (linesX s).map flatC)
      | c :: q => if c = 38 then
          match refX q with
          | none => none
          | some (t, r) => valS (out ++ (linesX (s.takeWhile fun c => !stopC c)).map flatC ++ t) r
        else none := by
  conv => lhs; unfold valS valIn
  by_cases hs : s = []
  · rw [if_pos hs, if_pos hs]
  · rw [if_neg hs, if_neg hs]
    rcases hd : s.dropWhile (fun c => !stopC c) with _ | ⟨c, q⟩
    · rfl
    · by_cases hc : c = 38
      · simp only [if_pos hc]
        rcases hr : refX q with _ | ⟨t, r⟩
        · rfl
        · have h1 := (refX_ok hr).1
          have h2 := (List.dropWhile_suffix (l := s) (fun c => !stopC c)).length_le
          rw [hd, List.length_cons] at h2
          exact valIn_fuel _ _ _ r (by omega) (by omega)
      · simp only [if_neg hc]
theorem valueX_S (s : List UInt8) : valueX s = thenX (match eatX [39] s with
    | some (_, r) => cutS [39] r
    | none => thenX (eatX [34] s) fun _ r => cutS [34] r) fun v r =>
      match valS [] v with
      | none => none
      | some t => some (t, r) := rfl
theorem enc_len4 (n : Int) : (Utf8.encode n).data.toList.length ≤ 4 := by
  unfold Utf8.encode
  dsimp only
  generalize (if Utf8.valid n = true then n.toNat else Utf8.runeError) = c
  by_cases h1 : c < 128
  · rw [if_pos h1]; exact Nat.le_of_ble_eq_true rfl
  · rw [if_neg h1]
    by_cases h2 : c < 2048
    · rw [if_pos h2]; exact Nat.le_of_ble_eq_true rfl
    · rw [if_neg h2]
      by_cases h3 : c < 65536
      · rw [if_pos h3]; exact Nat.le_of_ble_eq_true rfl
      · rw [if_neg h3]; exact Nat.le_of_ble_eq_true rfl
theorem numRef_len {b : Nat} {d t : List UInt8} (h : numRef b d = some t) : t.length ≤ 4 := by
  unfold numRef at h
  split at h
  · cases h
  · split at h
    · cases h
    · split at h
      · injection h with h
        subst h
        exact enc_len4 _
      · cases h
theorem refW_len {w t : List UInt8} (h : refW w = some t) : t.length ≤ 4 := by
  unfold refW at h
  repeat' split at h
  all_goals first
    | (injection h with h; subst h; decide)
    | exact numRef_len h
    | cases h
theorem refX_len {s t r : List UInt8} (h : refX s = some (t, r)) : t.length ≤ 4 := by
  obtain ⟨w, q, h1, h2⟩ := thenX_some h
  split at h2
  · cases h2
  · rename_i t' ht
    injection h2 with h2
    injection h2 with h2 _
    subst h2
    exact refW_len ht
theorem linesX_len (s : List UInt8) : (linesX s).length ≤ s.length := by
  rw [lines_two]
  unfold crX
  rw [List.length_map]
  induction s using crlfX.induct with
  | case1 => exact Nat.le_refl _
  | case2 => exact Nat.le_refl _
  | case3 c d r h ih => unfold crlfX; rw [if_pos h]; simp only [List.length_cons]; omega
  | case4 c d r h ih => unfold crlfX; rw [if_neg h]; simp only [List.length_cons] at ih ⊢; omega
theorem valS_len : ∀ (n : Nat) (out s v : List UInt8), s.length ≤ n → valS out s = some v → v.length ≤ out.length + 4 * s.length
  | n, out, s, v, hn, h => by
    rw [valS_eq] at h
    split at h
    · injection h with h; subst h; omega
    · rename_i hne
      split at h
      · injection h with h
        subst h
        have := linesX_len s
        rw [List.length_append, List.length_map]
        omega
      · rename_i c q hd
        split at h
        · split at h
          · cases h
          · rename_i t r hr
            have h1 := (refX_ok hr).1
            have h4 := refX_len hr
            have h2 := takeW_drop (fun c => !stopC c) s
            rw [hd, List.length_cons] at h2
            have h5 := linesX_len (s.takeWhile fun c => !stopC c)
            cases n with
            | zero => omega
            | succ n =>
              have := valS_len n _ r v (by omega) h
              simp only [List.length_append, List.length_map] at this
              omega
        · cases h
def attrsS (seen : List (List UInt8)) (out : List AttrT) (sc : Scope) (s : List UInt8) : X1 (List AttrT × Scope) := attrsX (s.length + 1) seen out sc s
theorem attrsS_eq (seen : List (List UInt8)) (out : List AttrT) (sc : Scope) (s : List UInt8) : attrsS seen out sc s =
    if (whiteX s).length < s.length ∧ [62].isPrefixOf (whiteX s) = false ∧ [47, 62].isPrefixOf (whiteX s) = false then
      thenX (qnameX (whiteX s)) fun pl r => thenX (eatX [61] (whiteX r)) fun _ r => thenX (valueX (whiteX r)) fun v r =>
        if pl.1 ++ 58 :: pl.2 ∈ seen then none
        else if pl.1 = [] ∧ pl.2 = wXmlns then attrsS ((pl.1 ++ 58 :: pl.2) :: seen) out (([], v) :: sc) r
        else if pl.1 = wXmlns then (if v = [] ∨ pl.2 = wXml ∨ pl.2 = wXmlns then none else attrsS ((pl.1 ++ 58 :: pl.2) :: seen) out ((pl.2, v) :: sc) r)
        else if pl.1 ≠ [] then none
        else attrsS ((pl.1 ++ 58 :: pl.2) :: seen) (out ++ [⟨pl.2, v⟩]) sc r
    else some ((out, sc), whiteX s) := by
  conv => lhs; unfold attrsS
  rw [attr_step]
  split
  · refine thenX_congr rfl fun pl r h1 => thenX_congr rfl fun u r1 h2 => thenX_congr rfl fun v r2 h3 => ?_
    have l1 := qnameX_len h1
    have l2 := eat_len h2
    have l3 := (valueX_ok h3).1
    have l4 := white_le s
    have l5 := white_le r
    have l6 := white_le r1
    unfold attrsS
    split
    · rfl
    · split
      · exact attrs_fuel _ _ _ _ _ _ (by omega) (by omega)
      · split
        · split
          · rfl
          · exact attrs_fuel _ _ _ _ _ _ (by omega) (by omega)
        · split
          · rfl
          · exact attrs_fuel _ _ _ _ _ _ (by omega) (by omega)
  · rfl
end Go.Proofs.YtjkiehmjffgnlaaGreatDoor
namespace Go.Proofs.YtjkiehmjffgnlaaGreatDoor
set_option linter.unusedVariables false
set_option linter.unusedSimpArgs false
open Go.RowKit

theorem grown_in {w w1 w2 : World} {b c : Nat} (h1 : w.grownBy w1 (some b)) (h2 : w1.grownBy w2 (some c)) (hc : w.heap.size ≤ c) : w.grownBy w2 (some b) :=
  ⟨h2.os.trans h1.os, h2.tape.trans h1.tape, h2.output.trans h1.output, Nat.le_trans h1.size h2.size, fun k hk hne => (h2.block k (Nat.lt_of_lt_of_le hk h1.size) (by intro e; injection e with e; omega)).trans (h1.block k hk hne)⟩
theorem grown_low {w w1 w2 : World} {b B : Nat} (h1 : w.grownBy w1 (some b)) (h2 : Below B w1 w2) (hB : w.heap.size ≤ B) : w.grownBy w2 (some b) :=
  ⟨h2.os.trans h1.os, h2.tape.trans h1.tape, h2.output.trans h1.output, Nat.le_trans h1.size h2.size, fun k hk hne => (h2.block k (by omega)).trans (h1.block k hk hne)⟩
theorem PX.low {w w' : World} {b B : Nat} {s : List UInt8} (h : PX w b s) (hb : Below B w w') (hB : b < B) : PX w' b s := (hb.block b hB).trans h
theorem Bld.step {B b c : Nat} {l : List UInt8} {w w' : World} (h : Bld B b l w) (hg : w.grownBy w' (some c)) (hc : c < B) : Bld B b l w' := by
  have key : ∀ p, Lib.BuilderAt 118 5 B b p (Lib.byteCells l) w → Lib.BuilderAt 118 5 B b p (Lib.byteCells l) w' := by
    intro p h
    have hlt := h.lt
    obtain ⟨hB, v, hb, ho, hne⟩ := h
    refine ⟨hB, v, (hg.block b hlt (by intro e; injection e with e; omega)).trans hb, ho.kept hg ?_, hne⟩
    cases hv : v.ownBlock with
    | none => exact .inl rfl
    | some k => exact .inr (by intro e; injection e with e; have := (World.ownsRow.lt ho k hv).1; omega)
  exact h.imp (key _) (key _)
theorem Bld.under {B b : Nat} {l : List UInt8} {w w' : World} (h : Bld B b l w) (hb : Below w.heap.size w w') : Bld B b l w' := by
  have key : ∀ p, Lib.BuilderAt 118 5 B b p (Lib.byteCells l) w → Lib.BuilderAt 118 5 B b p (Lib.byteCells l) w' := by
    intro p h
    have hlt := h.lt
    obtain ⟨hB, v, hb2, ho, hne⟩ := h
    refine ⟨hB, v, (hb.block b hlt).trans hb2, ho.kept (row := none) (Below.toGrown hb none) ?_, hne⟩
    cases hv : v.ownBlock with
    | none => exact .inl rfl
    | some k => exact .inr (by simp)
  exact h.imp (key _) (key _)
def BoxV (w : World) (b : Nat) : Prop := ∃ q cap, w.heap[b]? = some (.cells #[.int .u32 0, .int .i32 0, .int .u32 0, .nilIface, .slice (some ⟨q, 0, none⟩) 4 cap] 163 (0, 0)) ∧ 4 ≤ cap ∧ cap ≤ maxLen ∧ q ≠ b ∧
  w.cell? ⟨q, 0, none⟩ = some (.string ⟨#[9]⟩) ∧ w.cell? ⟨q, 1, none⟩ = some (.string ⟨#[32]⟩) ∧ w.cell? ⟨q, 2, none⟩ = some (.string ⟨#[10]⟩) ∧ w.cell? ⟨q, 3, none⟩ = some (.string ⟨#[32]⟩)
theorem BoxV.under {w w' : World} {b : Nat} (h : BoxV w b) (hb : Below w.heap.size w w') : BoxV w' b := by
  obtain ⟨q, cap, h1, h2, h3, h4, c0, c1, c2, c3⟩ := h
  have hq : q < w.heap.size := cell_lt c0
  exact ⟨q, cap, (hb.block b (xlt h1)).trans h1, h2, h3, h4, (hb.cell (p := ⟨q, 0, none⟩) hq).trans c0, (hb.cell (p := ⟨q, 1, none⟩) hq).trans c1, (hb.cell (p := ⟨q, 2, none⟩) hq).trans c2, (hb.cell (p := ⟨q, 3, none⟩) hq).trans c3⟩
def boxWords : List Value := [.string ⟨#[9]⟩, .string ⟨#[32]⟩, .string ⟨#[10]⟩, .string ⟨#[32]⟩]
def boxCells : Obj := .cells #[.string ⟨#[9]⟩, .string ⟨#[32]⟩, .string ⟨#[10]⟩, .string ⟨#[32]⟩] 9 (0, 0)
theorem boxAt {w : World} {n : Nat} (h : w.heap[n]? = some boxCells) : RdL w (.slice (some ⟨n, 0, none⟩) 4 4) boxWords :=
  ⟨_, 4, rfl, Nat.le_refl _, by unfold maxLen; decide, fun j u hj => ⟨n, 0, rfl, xlt h, by rw [xat h, Nat.zero_add, ← hj]; unfold boxWords; simp⟩⟩
theorem boxAt0 (w : World) : RdL (w.alloc boxCells) (.slice (some ⟨w.heap.size, 0, none⟩) 4 4) boxWords := boxAt (heap_alloc_new w _)
theorem boxAt1 (w : World) : RdL (w.alloc boxCells).drew (.slice (some ⟨w.heap.size, 0, none⟩) 4 4) boxWords := boxAt (heap_alloc_new w _)
theorem boxAt2 (w wy : World) (hb : Below (w.alloc boxCells).drew.heap.size (w.alloc boxCells).drew wy) : RdL wy (.slice (some ⟨w.heap.size, 0, none⟩) 4 4) boxWords :=
  boxAt ((hb.block _ (by show w.heap.size < (w.heap.push _).size; simp)).trans (heap_alloc_new w _))
theorem xnewBox (A : Option Addr) (w : World) (hr : RdL w (.slice A 4 4) boxWords) : Calls Tryz.prog 66 #[.slice A 4 4] w (fun e w' => ∃ b, e = .returned (.pointer (some ⟨b, 0, none⟩)) ∧ w.heap.size ≤ b ∧ Below w.heap.size w w' ∧ BoxV w' b) := by
  refine (xnewR A 4 boxWords w rfl (by intro u hu; simp only [boxWords, List.mem_cons, List.not_mem_nil, or_false] at hu; rcases hu with rfl | rfl | rfl | rfl <;> rfl) hr).mono ?_
  rintro e w' ⟨b, q, cap, rfl, h1, h2, h3, h4, h5, h6, h7⟩
  exact ⟨b, rfl, h1, h2, q, cap, h3, h4, h5, h6, h7 0 _ rfl, h7 1 _ rfl, h7 2 _ rfl, h7 3 _ rfl⟩
theorem xreplBox (b B0 : Nat) (s : List UInt8) (w : World) (h : BoxV w b) (hB : B0 ≤ b) (hs : s.length ≤ 1000000000) :
    Calls Tryz.prog 94 #[.pointer (some ⟨b, 0, none⟩), .string ⟨s.toArray⟩] w (fun e w' => e = .returned (.string ⟨(s.map flatC).toArray⟩) ∧ Below B0 w w') := by
  obtain ⟨q, cap, h1, h2, h3, h4, c0, c1, c2, c3⟩ := h
  exact xreplV b q cap B0 s w [9] [32] [10] [32] rfl rfl rfl rfl (fun _ => rfl) (fun _ => rfl) (fun _ => rfl) (fun _ => rfl) hB hs h1 ⟨h2, h3⟩ h4 c0 c1 c2 c3
theorem value_start (w : World) (v : List UInt8) : ∃ w0, w0 = (w.alloc (.cells #[.string ⟨v.toArray⟩] 107 (0, 0))).alloc (.cells #[.pointer none, .slice none 0 0] 118 (0, 0)) ∧
    PX w0 w.heap.size v ∧ Bld (w.heap.size + 1) (w.heap.size + 1) [] w0 ∧ Below w.heap.size w w0 := by
  refine ⟨_, rfl, ?_, ?_, ?_⟩
  · exact (heap_alloc_old _ _ (by simp)).trans (heap_alloc_new w _)
  · have := Bld.fresh (w.alloc (.cells #[.string ⟨v.toArray⟩] 107 (0, 0)))
    rwa [show (w.alloc (.cells #[.string ⟨v.toArray⟩] 107 (0, 0))).heap.size = w.heap.size + 1 by simp] at this
  · exact ((Below.refl _ _).alloc (Nat.le_refl _) _).alloc (by simp) _
theorem takeW_len (p : UInt8 → Bool) (s : List UInt8) : s.take (s.takeWhile p).length = s.takeWhile p ∧ s.drop (s.takeWhile p).length = s.dropWhile p := by
  have h := List.takeWhile_append_dropWhile (p := p) (l := s)
  constructor
  · conv => lhs; arg 2; rw [← h]
    exact List.take_left
  · conv => lhs; arg 2; rw [← h]
    exact List.drop_left
theorem ascii2 : ∀ (i : Nat) (b : UInt8), ([38, 60] : List UInt8)[i]? = some b → b.toNat < 128 := fun j b h =>
  (show ∀ b ∈ ([38, 60] : List UInt8), b.toNat < 128 by decide) b (List.mem_of_getElem? h)
theorem ascii2' : ∀ (i : Nat) (b : UInt8), ([60, 38] : List UInt8)[i]? = some b → b.toNat < 128 := fun j b h =>
  (show ∀ b ∈ ([60, 38] : List UInt8), b.toNat < 128 by decide) b (List.mem_of_getElem? h)
end Go.Proofs.YtjkiehmjffgnlaaGreatDoor
